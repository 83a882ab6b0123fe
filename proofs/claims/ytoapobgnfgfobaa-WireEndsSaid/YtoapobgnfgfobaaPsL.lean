/- Past: the reference's, as bytes and read; the same; the anchor. -/
import Derived.Test.YtoapobgnfgfobaaPsG
import Derived.Test.YtoapobgnfgfobaaPsH
import Derived.Test.YtoapobgnfgfobaaPsK
import Derived.Test.YtoapobgnfgfobaaRefD
import Derived.Test.YtoapobgnfgfobaaRefB
import Derived.Test.YtoapobgnfgfobaaL02A
import Derived.Test.YtoapobgnfgfobaaRdQ
namespace Go.Proofs.Ytoapobgnfgfobaa
open Go Go.RowKit

def RBytesRel (w : World) (p : Pst) (l c : Value) (wr : World) : Prop :=
  ∃ (k : Nat) (A : Option Addr) (cap : Nat), k ≤ 8 ∧ c = .int .i64 ((k : Int) + 1) ∧ l = .slice A k cap ∧ Own wr 3 1 A k cap ((p.take k).map I64) ∧ Nw w wr ∧ ∀ k, inA A k → w.heap.size ≤ k

set_option maxHeartbeats 1000000 in
theorem rBytes_any (w : World) (g : Nat) (p : Pst) (h : IsRP w g p) (hp : PstOk p) : Calls Try.prog 27 #[PtrV g] w fun e w' => ∃ v, e = .returned v ∧ OutIs w (encAll p) v w' := by
  have h8 := h.1
  go_enter Try.func27, Try.ntmps27
  go_wp2_with fail
  go_loopw [3, 4] (fun l c wr => RBytesRel w p l c wr) (fun _ c _ => 9 - (intOf c).toNat)
  case atStart => exact ⟨0, none, 0, Nat.zero_le _, rfl, rfl, Own.nil _ _ _, Fr.refl _ _, fun k hk => (inA_none k hk).elim⟩
  case round =>
    obtain ⟨k, A, cap, hk, rfl, rfl, ho, hq, hA⟩ := hrel
    by_cases hlt : k < 8
    · have hc := (h.fr hq (fun h => h)).num hlt
      have hx : p.getD k 0 = p[k]'(by omega) := by
        rw [List.getD_eq_getElem?_getD, List.getElem?_eq_getElem (by omega)]
        rfl
      have ht : (p.take (k + 1)).map I64 = (p.take k).map I64 ++ [I64 (p.getD k 0)] := by
        rw [List.take_succ_eq_append_getElem (by omega), List.map_append, hx]
        rfl
      generalize p.getD k 0 = v at hc ht
      have HT := Lib.hid ht
      clear ht hx
      have e2 : ((k : Int) + 1) = ((k + 1 : Nat) : Int) := by omega
      rw [e2]
      have hi1 : (1 : Nat) ≤ k + 1 := by omega
      have hi9 : k + 1 ≤ 8 := by omega
      generalize hj1 : k + 1 = j1 at *
      have HJ := Lib.hid hj1
      clear hj1 e2
      have hi0 : (0 : Int) ≤ (j1 : Int) := by omega
      have hi8 : (j1 : Int) < 9 := by omega
      have hi88 : (j1 : Int) ≤ 8 := by omega
      have H8 := Lib.hid h8
      clear h8
      go_wp2_with (at_builtin; refine wl_append2 rfl _ _ _ rfl 8 (.int .i64 0) Try.underlying57 info_i64 rfl (by decide) rfl (ho.alloc _) rfl (sl_new _ _ [I64 v] _ rfl) rfl (I64_one [v]) (by omega) (by unfold maxLen; omega) ?_; intro A' cap' w2 hap)
      go_roundw
      case rel =>
        obtain ⟨ho2, _, hcase⟩ := hap
        have hj := HJ.out
        subst hj
        refine ⟨k + 1, A', cap', by omega, by go_num, rfl, by rw [HT.out]; exact ho2, ?_, ?_⟩
        · rcases hcase with ⟨_, rfl, _, hf⟩ | ⟨_, rfl, hf⟩
          · exact (hq.alloc _).new hf hA
          · exact (hq.alloc _).tr hf
        · intro j hj
          rcases hcase with ⟨_, rfl, _, hf⟩ | ⟨_, rfl, hf⟩
          · exact hA j hj
          · rw [(inA_some _ _).1 hj]; exact (hq.alloc _).size
      case measure => simp [intOf]; omega
    · obtain rfl : k = 8 := by omega
      have e : p.take 8 = p := List.take_of_length_le (by omega)
      rw [e] at ho
      clear e
      have hall : allRt p = true := decide_eq_true fun n hn => by have := hp.2 n hn; omega
      have hbs : (outAll p [] [] []).bs = encAll p := by
        unfold outAll
        rw [wrNums_right p _ hp.right]
        simp [wrFlags, wrRows]
      have hcon := fun (W : World) (hs : Sl W (inA A) A (p.map I64)) => rwrite_any W (inA A) (fun _ => False) (fun _ => False) (fun _ => False) A none none none cap 0 0 0 p [] [] [] [] hs (.inl rfl) (.inl rfl) (.inl rfl) ⟨rfl, fun k h => by simp at h⟩ (by omega) (by decide) (by decide) (by decide)
      rw [h8] at hcon
      have HC := Lib.hid hcon
      clear hcon h8
      go_wp2_with fail
      refine (HC.out _ ho.sl).mono ?_
      rintro e w2 (⟨hno, _, _⟩ | ⟨_, v, rfl, hout⟩)
      · rw [hall] at hno; cases hno
      · rw [hbs] at hout
        clear hall hbs
        go_wp2_with fail
        go_ret
        obtain ⟨A2, c2, hv, ho2, hq2, hA2⟩ := hout
        exact ⟨v, rfl, A2, c2, hv, ho2, hq.tr hq2, fun k hk => Nat.le_trans hq.size (hA2 k hk)⟩

def SameTo (w : World) (lo : Int) (n : Nat) (c : Value) (wr : World) : Prop := ∃ k : Nat, k ≤ n ∧ c = .int .i64 ((k : Int) + lo) ∧ Nw w wr

theorem same17 (w : World) (g h : Nat) (p : Pst) (hp : IsPast w g p) (hr : IsRP w h p) : Calls Try.prog 18 #[PtrV g, PtrV h] w fun e w' => e = .returned (.bool true) ∧ Nw w w' := by
  go_enter Try.func18, Try.ntmps18
  go_wp2_with fail
  go_loopw [5] (fun c wr => SameTo w (-1) 12 c wr) (fun c _ => (11 - intOf c).toNat)
  case atStart => exact ⟨0, Nat.zero_le _, rfl, Fr.refl _ _⟩
  case round =>
    obtain ⟨k, hk, rfl, hq⟩ := hrel
    by_cases hlt : k < 12
    · generalize hcv : ((k : Int) + -1) = cv
      have h1 : -1 ≤ cv := by omega
      have h2 : cv < 11 := by omega
      have HC := Lib.hid hcv
      clear hcv
      have hp1 := hp.fr hq (fun h => h)
      have hr1 := hr.fr hq (fun h => h)
      go_wp2_with (first | (go_at_call 60; refine (pastOf_any _ _ _ hp1 cv).mono ?_; rintro e w1 ⟨rfl, q1⟩) | (go_at_call 68; refine (rOf_any _ _ _ (hr1.fr q1 (fun h => h)) cv).mono ?_; rintro e w2 ⟨rfl, rfl⟩))
      go_roundw
      case rel => exact ⟨k + 1, by omega, by have := HC.out; go_num, hq.tr q1⟩
      case measure => simp [intOf]; omega
    · obtain rfl : k = 12 := by omega
      go_wp2_with fail
      go_ret
      exact ⟨rfl, hq⟩

theorem equal17 (w : World) (g h : Nat) (p : Pst) (hp : IsPast w g p) (hr : IsPast w h p) : Calls Try.prog 58 #[PtrV g, PtrV h] w fun e w' => e = .returned (.bool true) ∧ Nw w w' := by
  go_enter Try.func58, Try.ntmps58
  go_wp2_with fail
  go_loopw [5] (fun c wr => SameTo w 1 8 c wr) (fun c _ => (9 - intOf c).toNat)
  case atStart => exact ⟨0, Nat.zero_le _, rfl, Fr.refl _ _⟩
  case round =>
    obtain ⟨k, hk, rfl, hq⟩ := hrel
    by_cases hlt : k < 8
    · generalize hcv : ((k : Int) + 1) = cv
      have h1 : 1 ≤ cv := by omega
      have h2 : cv ≤ 8 := by omega
      have HC := Lib.hid hcv
      clear hcv
      have hp1 := hp.fr hq (fun h => h)
      have hr1 := hr.fr hq (fun h => h)
      go_wp2_with fail
      refine (pastOf_any _ _ _ hp1 cv).mono ?_
      rintro e w1 ⟨rfl, q1⟩
      go_wp2_with fail
      refine (pastOf_any _ _ _ (hr1.fr q1 (fun h => h)) cv).mono ?_
      rintro e w2 ⟨rfl, q2⟩
      go_wp2_with fail
      go_roundw
      case rel => exact ⟨k + 1, by omega, by have := HC.out; go_num, (hq.tr q1).tr q2⟩
      case measure => simp [intOf]; omega
    · obtain rfl : k = 8 := by omega
      go_wp2_with fail
      go_ret
      exact ⟨rfl, hq⟩

def RPastRd (w : World) (F : Nat → Prop) (gr : Nat) (q : List Int × Rd) (e : Ending) (w' : World) : Prop :=
  IsRR w' F gr q.2 ∧ Fr (· = gr) w w' ∧ ((q.2 = none ∧ e = .returned (.tuple #[.pointer none, .bool false])) ∨ (∃ bs, q.2 = some bs ∧ ∃ gp, w.heap.size ≤ gp ∧ ¬ F gp ∧ IsRP w' gp q.1 ∧ e = .returned (.tuple #[PtrV gp, .bool true])))

def RReadRel (w : World) (F : Nat → Prop) (gr gp : Nat) (s : Rd) (i : Value) (wx : World) : Prop :=
  ∃ k : Nat, k ≤ 8 ∧ i = .int .i64 ((k : Int) + 1) ∧ IsRR wx F gr (rdNums 1073741824 k s).2 ∧ IsRP wx gp ((rdNums 1073741824 k s).1 ++ List.replicate (8 - k) 0) ∧ Fr (· = gr) w wx ∧ rdLeft (rdNums 1073741824 k s).2 ≤ 1000000000000
theorem IsRP.zero {w : World} {g : Nat} {p : Pst} (h : IsRP w g p) : w.cell? ⟨g, 0, none⟩ = some (I64 0) := by
  rw [h.2.cell]
  rfl
theorem IsRR.failed {w : World} {F : Nat → Prop} {g : Nat} {s : Rd} (h : IsRR w F g s) : w.cell? ⟨g, 1, none⟩ = some (.bool (!s.isSome)) := by
  cases s with
  | none => have := h.1.cell 1; simpa using this
  | some bs => obtain ⟨_, _, hb, _⟩ := h; have := hb.cell 1; simpa using this

set_option maxRecDepth 100000 in
set_option maxHeartbeats 1000000 in
theorem rRead_any (w : World) (F : Nat → Prop) (gr : Nat) (s : Rd) (h : IsRR w F gr s) (hsz : rdLeft s ≤ 1000000000000) : Calls Try.prog 37 #[PtrV gr] w (RPastRd w F gr (rdNums 1073741824 8 s)) := by
  have hgr := h.lt
  have hF0 := h.out
  obtain ⟨gp, hgp⟩ : ∃ gp, gp = w.heap.size := ⟨_, rfl⟩
  go_enter Try.func37, Try.ntmps37
  go_wp2_with fail
  have q1 : Nw w (w.alloc (.cells (I64 0 :: pNew.map I64).toArray 32)) := (Fr.refl _ w).alloc _
  have hp : IsRP (w.alloc (.cells (I64 0 :: pNew.map I64).toArray 32)) gp pNew := by rw [hgp]; exact ⟨rfl, Blk.new _ _ _⟩
  have hgp2 : w.heap.size ≤ gp := Nat.le_of_eq hgp.symm
  rw [← hgp]
  clear hgp
  go_loopw [5] (fun i wx => RReadRel w F gr gp s i wx) (fun i _ => 9 - (intOf i).toNat)
  case atStart => exact ⟨0, Nat.zero_le _, rfl, h.fr q1 (fun h => h) (fun _ _ h => h), hp, q1.on, hsz⟩
  case round =>
    obtain ⟨k, hk, rfl, hr, hp, hf, hle⟩ := hrel
    have hne : gp ≠ gr := by omega
    have hnF : ¬ F gp := fun hh => by have := hF0.2 gp hh; omega
    by_cases hlt : k < 8
    · have HS := Lib.hid (rdNums_set 1073741824 k hlt s)
      have hcon := fun (W : World) (hi : IsRR W F gr (rdNums 1073741824 k s).2) => rrnumber_any W F gr _ hi 1073741824 hle
      have hstep : (rdNums 1073741824 (k + 1) s).2 = (rdNum 1073741824 (rdNums 1073741824 k s).2).2 := rfl
      have hle2 : rdLeft (rdNums 1073741824 (k + 1) s).2 ≤ 1000000000000 := Nat.le_trans (rdNum_left _ _) hle
      generalize (rdNum 1073741824 (rdNums 1073741824 k s).2).1 = v at hcon HS
      rw [← hstep] at hcon
      have HC := Lib.hid hcon
      clear hcon hstep
      have hcell := hp.num hlt
      generalize ((rdNums 1073741824 k s).1 ++ List.replicate (8 - k) 0).getD k 0 = v0 at hcell
      have hfz := hp.2.frozen (k + 1)
      have hpl := hp.2.lt
      have hm0 := hp.zero
      have e2 : ((k : Int) + 1) = ((k + 1 : Nat) : Int) := by omega
      rw [e2]
      have hi1 : (1 : Nat) ≤ k + 1 := by omega
      have hi9 : k + 1 ≤ 8 := by omega
      generalize hj1 : k + 1 = j1 at hcell hfz e2 hi1 hi9 ⊢
      have HJ := Lib.hid hj1
      clear hj1 e2
      have hk8 : (⟨gp, j1, none⟩ : Addr) ≠ ⟨gp, 0, none⟩ := fun e => by injection e with _ e; omega
      have hi0 : (0 : Int) ≤ (j1 : Int) := by omega
      have hi8 : (j1 : Int) < 9 := by omega
      have hi88 : (j1 : Int) ≤ 8 := by omega
      go_wp2_with fail
      (go_region_held3 (fun w' => w'.cell? ⟨gp, 0, none⟩ = some (I64 0)) (first | go_keep | ((exact c8)) | ((rw [World.cell?_setCell_other _ _ _ _ hk8]; exact c8)))
        ((go_at_call 48; refine (HC.out _ (hr.fr (S := fun _ => False) (Fr.refl _ wr).drew (fun h => h) (fun _ _ h => h))).mono ?_; rintro e w2 ⟨rfl, h2⟩; have c1 : w2.cell? ⟨gp, j1, none⟩ = some (I64 v0) := (h2.2.cell (p := ⟨gp, j1, none⟩) hpl hne).trans hcell; have c8 : w2.cell? ⟨gp, 0, none⟩ = some (I64 0) := (h2.2.cell (p := ⟨gp, 0, none⟩) hpl hne).trans hm0; have fz1 : w2.frozen? ⟨gp, j1, none⟩ = false := (h2.2.frozen (p := ⟨gp, j1, none⟩) hpl hne).trans hfz)))
      go_wp2_with fail
      go_roundw
      case rel =>
        have hj := HJ.out
        subst hj
        have hp2 : IsRP w2 gp ((rdNums 1073741824 k s).1 ++ List.replicate (8 - k) 0) := hp.fr (S := (· = gr)) (((Fr.refl (· = gr) wr).drew).tr h2.2) hne
        have hp3 := hp2.set_ k v
        rw [HS.out] at hp3
        exact ⟨k + 1, by omega, by go_num, h2.1.fr (S := (· = gp)) ((Fr.refl (· = gp) w2).setCell (p := ⟨gp, k + 1, none⟩) (.inl rfl) _) (fun e => hne e.symm) (fun b hb e => hnF (e ▸ hb)), hp3,
          (hf.trans (S' := (· = gr)) (((Fr.refl (· = gr) wr).drew).tr h2.2) (fun b hb => .inl hb)).setCell (p := ⟨gp, k + 1, none⟩) (.inr hgp2) _, hle2⟩
      case measure => simp [intOf]; omega
    · obtain rfl : k = 8 := by omega
      rw [Nat.sub_self, List.replicate_zero, List.append_nil] at hp
      obtain ⟨ns, hns⟩ : ∃ ns, (rdNums 1073741824 8 s).1 = ns := ⟨_, rfl⟩
      have hpost : ∀ (e : Ending) (w' : World) (st : Rd), (rdNums 1073741824 8 s).2 = st → IsRR w' F gr st → Fr (· = gr) w w' → ((st = none ∧ e = .returned (.tuple #[.pointer none, .bool false])) ∨ (∃ bs, st = some bs ∧ IsRP w' gp ns ∧ e = .returned (.tuple #[PtrV gp, .bool true]))) → RPastRd w F gr (rdNums 1073741824 8 s) e w' := by
        intro e w' st hst h1 h2 h3
        refine ⟨by rw [hst]; exact h1, h2, ?_⟩
        rw [hst, hns]
        rcases h3 with h3 | ⟨bs, h4, h5, h6⟩
        · exact .inl h3
        · exact .inr ⟨bs, h4, gp, hgp2, hnF, h5, h6⟩
      have HP := Lib.hid hpost
      rw [hns] at hp
      clear hpost hns
      obtain ⟨st, hst⟩ : ∃ st, (rdNums 1073741824 8 s).2 = st := ⟨_, rfl⟩
      rw [hst] at hr
      have HST := Lib.hid hst
      clear hst
      have hc := hr.failed
      rcases st with _ | bs
      · go_wp2_with fail
        go_ret2
        exact HP.out _ _ _ HST.out hr hf (.inl ⟨rfl, rfl⟩)
      · go_wp2_with fail
        go_ret2
        exact HP.out _ _ _ HST.out hr hf (.inr ⟨_, rfl, hp, rfl⟩)

/-- What the anchor raises. -/
def awNames : List Nm := [(2, 5), (2, 3)]
theorem awake17 (w : World) : Calls Try.prog 11 #[] w fun e w' => e = .returned (.bool true) ∧ Nw w w' := by
  have h1 : raiseE awNames = 0 := by decide
  have h2 : pOf (raiseP awNames pNew) 2 = 5 := by decide
  have h3 : pIs (raiseP awNames pNew) (2, 5) = true := by decide
  have h4 : pIs (raiseP awNames pNew) (2, 6) = false := by decide
  obtain ⟨P, hP⟩ : ∃ P, raiseP awNames pNew = P := ⟨_, rfl⟩
  rw [hP] at h2 h3 h4
  have hraise := fun (W : World) (g b : Nat) (hp : IsPast W g pNew) (hs : Sl W (· = b) (some ⟨b, 0, none⟩) (nmCells awNames)) (hg : g ≠ b) => pastRaise_any W (· = b) _ 2 awNames hs (by decide) g pNew hp hg
  rw [hP, h1] at hraise
  have hof := fun (W : World) (g : Nat) (hp : IsPast W g P) => pastOf_any W g P hp 2
  rw [h2] at hof
  have hi1 := fun (W : World) (g : Nat) (hp : IsPast W g P) => pastIs_any W g P hp (2, 5)
  rw [h3] at hi1
  have hi2 := fun (W : World) (g : Nat) (hp : IsPast W g P) => pastIs_any W g P hp (2, 6)
  rw [h4] at hi2
  have HR := Lib.hid hraise
  have HO := Lib.hid hof
  have H1 := Lib.hid hi1
  have H2 := Lib.hid hi2
  clear hraise hof hi1 hi2 h1 h2 h3 h4 hP
  go_enter Try.func11, Try.ntmps11
  go_wp2_with fail
  refine (pastNew_any _).mono ?_
  rintro e w1 ⟨rfl, hp, q1⟩
  go_wp2_with fail
  refine (HR.out _ _ w1.heap.size (hp.fr (S := fun _ => False) ((Fr.refl _ w1).alloc _) (fun h => h)) (sl_new w1 53 (nmCells awNames) _ rfl) (by have := hp.2.lt; omega)).mono ?_
  rintro e w2 ⟨rfl, hp2, hf2⟩
  have q2 : Nw w w2 := (q1.alloc _).new hf2 (fun b hb => by rw [hb]; exact Nat.le_refl _)
  go_wp2_with fail
  refine (HO.out _ _ hp2).mono ?_
  rintro e w3 ⟨rfl, q3⟩
  have hp3 := hp2.fr q3 (fun h => h)
  go_wp2_with fail
  refine (H1.out _ _ hp3).mono ?_
  rintro e w4 ⟨rfl, q4⟩
  have hp4 := hp3.fr q4 (fun h => h)
  go_wp2_with fail
  refine (H2.out _ _ hp4).mono ?_
  rintro e w5 ⟨rfl, q5⟩
  go_wp2_with fail
  go_ret
  exact ⟨rfl, ((q2.tr q3).tr q4).tr q5⟩
end Go.Proofs.Ytoapobgnfgfobaa
