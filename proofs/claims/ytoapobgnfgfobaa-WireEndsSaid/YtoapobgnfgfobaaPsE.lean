/- Past: how numbers are raised. -/
import Derived.Test.YtoapobgnfgfobaaPsD
import Derived.BigRegion
import Derived.Test.YtoapobgnfgfobaaMemB
import Derived.Test.YtoapobgnfgfobaaPastB
namespace Go.Proofs.Ytoapobgnfgfobaa
open Go Go.RowKit

theorem I64_set (p : Pst) (j : Nat) (v : Int) (hp : p.length = 8) (hj : j < 8) : ((p.map I64 ++ [Value.bool true]).toArray).setIfInBounds j (I64 v) = ((p.set j v).map I64 ++ [Value.bool true]).toArray := by
  rw [← Array.toList_inj]
  simp only [Array.toList_setIfInBounds, List.map_set]
  rw [List.set_append_left]
  simpa [hp] using hj

theorem IsPast.set_ {w : World} {g : Nat} {p : Pst} (h : IsPast w g p) {j : Nat} (hj : j < 8) (v : Int) : IsPast (w.setCell ⟨g, j, none⟩ (I64 v)) g (p.set j v) := by
  refine ⟨by simpa using h.1, ?_⟩
  have := h.2.set_ j (I64 v)
  rwa [I64_set p j v h.1 hj] at this
theorem IsPast.drewN {w : World} {g : Nat} {p : Pst} (h : IsPast w g p) (n : Nat) : IsPast (w.drewN n) g p := h

set_option maxHeartbeats 1000000 in
theorem raise_any (w : World) (g : Nat) (p : Pst) (h : IsPast w g p) (j : Nat) (hj : j < 8) (v : Int) :
    Calls Try.prog 67 #[PtrV g, .int .i64 ((j : Int) + 1), .int .i64 v] w fun e w' => e = .returned (.tuple #[]) ∧ IsPast w' g (pSet p j v) ∧ Fr (· = g) w w' := by
  have hc := h.num hj
  have hfz := h.2.frozen j
  obtain ⟨x, hx⟩ : ∃ x, p.getD j 0 = x := ⟨_, rfl⟩
  rw [hx] at hc
  have HX := Lib.hid hx
  clear hx
  go_enter Try.func67, Try.ntmps67
  go_wp2_with fail
  go_region
  go_end0
  have e : pSet p j v = p.set j (if x < v then v else x) := by
    unfold pSet
    rw [HX.out]
    congr 1
    split <;> omega
  refine ⟨rfl, ?_, ?_⟩
  · rw [e]
    exact (h.drewN 1).set_ hj _
  · exact ((Fr.refl (· = g) w).drew).setCell (p := ⟨g, j, none⟩) (.inl rfl) _

theorem raise_name (w : World) (g : Nat) (p : Pst) (h : IsPast w g p) (x : Nm) (hx : nmOk x) :
    Calls Try.prog 67 #[PtrV g, .int .i64 x.1, .int .i64 x.2] w fun e w' => e = .returned (.tuple #[]) ∧ IsPast w' g (pRaise1 p x) ∧ Fr (· = g) w w' := by
  have h1 := hx.1
  have h8 := hx.2.1
  obtain ⟨j, hj⟩ : ∃ j : Nat, x.1 = (j : Int) + 1 := ⟨(x.1 - 1).toNat, by omega⟩
  have e : (x.1 - 1).toNat = j := by omega
  unfold pRaise1
  rw [e, hj]
  exact raise_any w g p h j (by omega) x.2

def RaiseRel (w : World) (g : Nat) (l : List Nm) (p : Pst) (i : Value) (wr : World) : Prop := ∃ k : Nat, k ≤ l.length ∧ i = .int .i64 k ∧ IsPast wr g (pRaise p (l.take k)) ∧ Fr (· = g) w wr

set_option maxRecDepth 100000 in
set_option maxHeartbeats 1000000 in
theorem pastRaise_any (w : World) (F : Nat → Prop) (A : Option Addr) (c : Nat) (l : List Nm) (hs : Sl w F A (nmCells l)) (hl : l.length ≤ 1000000000) (g : Nat) (p : Pst) (h : IsPast w g p) (hg : ¬ F g) :
    Calls Try.prog 16 #[PtrV g, .slice A l.length c] w fun e w' => e = .returned (.int .i64 (raiseE l)) ∧ IsPast w' g (raiseP l p) ∧ Fr (· = g) w w' := by
  have hk := known1_any w g p h
  have hr := pastRight_any (w.alloc (.cells #[PtrV g] 27)) F A c l (hs.alloc _) hl
  unfold raiseE raiseP
  by_cases hok : allOk l = true
  · rw [if_pos hok, if_pos hok]
    rw [hok] at hr
    have HO := Lib.hid (of_decide_eq_true hok)
    clear hok
    go_enter Try.func16, Try.ntmps16
    go_wp2_with (first | (go_at_call 66; refine hk.mono ?_; rintro e w1 ⟨rfl, rfl⟩) | (go_at_call 14; refine hr.mono ?_; rintro e w1 ⟨rfl, q1⟩))
    have q2 : Nw w w1 := ((Fr.refl _ w).alloc _).tr q1
    clear q1 hr hk
    go_loopw [18] (fun i wr => RaiseRel w g l p i wr) (fun i _ => l.length - (intOf i).toNat)
    case atStart => exact ⟨0, Nat.zero_le _, rfl, h.fr q2 (fun h => h), q2.on⟩
    case round =>
      obtain ⟨k, hk, rfl, hp, hf⟩ := hrel
      by_cases hlt : k < l.length
      · obtain ⟨b, o, rfl, hF, hc1, hc2⟩ := (hs.fr hf (fun b hb e => hg (by rw [← e]; exact hb))).name hlt
        have hx := HO.out _ (List.getElem_mem hlt)
        have hcon := fun (W : World) (hi : IsPast W g (pRaise p (l.take k))) => raise_name W g _ hi l[k] hx
        have HC := Lib.hid hcon
        clear hcon hx
        go_wp2_with fail
        refine wp_region_tail 7 (by kernel_rfl) (by kernel_rfl) ?_
        simp only [List.take_succ_cons, List.take_zero, List.drop_succ_cons, List.drop_zero]
        repeat still_step
        refine wpStill_nil ?_
        go_wp2_with (go_at_call 67; refine (HC.out _ ((hp.fr (S := fun _ => False) ((Fr.refl _ wr).alloc _) (fun h => h)).drewN 1)).mono ?_; rintro e w2 ⟨rfl, hp2, hf2⟩)
        go_roundw
        case rel =>
          refine ⟨k + 1, by omega, by go_num, ?_, hf.tr ((((Fr.refl (· = g) wr).alloc _).drew).tr hf2)⟩
          have e : pRaise p (l.take (k + 1)) = pRaise1 (pRaise p (l.take k)) l[k] := by
            unfold pRaise
            exact foldl_take_succ _ l k hlt p
          rw [e]
          exact hp2
        case measure => simp [intOf]; omega
      · go_wp2_with fail
        go_ret
        have e : l.take k = l := List.take_of_length_le (by omega)
        rw [e] at hp
        exact ⟨rfl, hp, hf⟩
  · rw [if_neg hok, if_neg hok]
    rw [Bool.eq_false_iff.2 hok] at hr
    clear hok
    go_enter Try.func16, Try.ntmps16
    go_wp2_with (first | (go_at_call 66; refine hk.mono ?_; rintro e w1 ⟨rfl, rfl⟩) | (go_at_call 14; refine hr.mono ?_; rintro e w1 ⟨rfl, q1⟩))
    go_ret
    have q2 : Nw w w1 := ((Fr.refl _ w).alloc _).tr q1
    exact ⟨rfl, h.fr q2 (fun h => h), q2.on⟩
end Go.Proofs.Ytoapobgnfgfobaa
