/- Past: the reference's, raised and merged. -/
import Derived.Test.YtoapobgnfgfobaaPsI
import Derived.BigRegion
namespace Go.Proofs.Ytoapobgnfgfobaa
open Go Go.RowKit

def RRaiseRel (w : World) (g : Nat) (l : List Nm) (p : Pst) (i : Value) (wr : World) : Prop := ∃ k : Nat, k ≤ l.length ∧ i = .int .i64 k ∧ IsRP wr g (pRaise p (l.take k)) ∧ Fr (· = g) w wr

theorem pSet_if (p : Pst) (j : Nat) (v x : Int) (h : p.getD j 0 = x) : pSet p j v = p.set j (if x < v then v else x) := by
  unfold pSet
  rw [h]
  congr 1
  split <;> omega

set_option maxRecDepth 100000 in
set_option maxHeartbeats 1000000 in
theorem rRaise_any (w : World) (F : Nat → Prop) (A : Option Addr) (c : Nat) (l : List Nm) (hs : Sl w F A (nmCells l)) (hl : l.length ≤ 1000000000) (g : Nat) (p : Pst) (h : IsRP w g p) (hg : ¬ F g) :
    Calls Try.prog 17 #[PtrV g, .slice A l.length c] w fun e w' => e = .returned (.int .i64 (raiseE l)) ∧ IsRP w' g (raiseP l p) ∧ Fr (· = g) w w' := by
  go_enter Try.func17, Try.ntmps17
  go_wp2_with fail
  go_loopw [5] (fun i wx => RightTo w l i wx) (fun i _ => l.length - (intOf i).toNat)
  case atStart => exact ⟨0, Nat.zero_le _, rfl, fun _ _ h => by omega, Fr.refl _ _⟩
  case round =>
    obtain ⟨k, hk, rfl, hok, hq⟩ := hrel
    have HK := Lib.hid hok
    clear hok
    by_cases hlt : k < l.length
    · obtain ⟨b, o, rfl, hF, hc1, hc2⟩ := (hs.fr hq (fun _ _ h => h)).name hlt
      have hcon := fun w => rright_any w l[k]
      by_cases hx : nmOk l[k]
      · rw [decide_eq_true hx] at hcon
        have HX := Lib.hid hx
        clear hx
        go_wp2_with (go_at_call 65; refine (hcon _).mono ?_; rintro e w1 ⟨rfl, q1⟩)
        go_roundw
        case rel =>
          refine ⟨k + 1, by omega, rfl, fun j hj hjk => ?_, hq.tr q1⟩
          by_cases hjk2 : j < k
          · exact HK.out j hj hjk2
          · obtain rfl : j = k := by omega
            exact HX.out
        case measure => simp [intOf]; omega
      · rw [decide_eq_false hx] at hcon
        have HX := Lib.hid hx
        clear hx
        go_wp2_with (go_at_call 65; refine (hcon _).mono ?_; rintro e w1 ⟨rfl, q1⟩)
        go_ret
        have e : ¬ allOk l = true := fun h => HX.out (of_decide_eq_true h _ (List.getElem_mem hlt))
        unfold raiseE raiseP
        rw [if_neg e, if_neg e]
        have q2 := hq.tr q1
        exact ⟨rfl, h.fr q2 (fun h => h), Nw.on q2⟩
    · have hall : ∀ x ∈ l, nmOk x := fun x hx => by
        obtain ⟨j, hj, rfl⟩ := List.mem_iff_getElem.1 hx
        exact HK.out j hj (by omega)
      have HA := Lib.hid hall
      clear hall HK
      go_wp2_with fail
      go_loopw [6] (fun i wr => RRaiseRel w g l p i wr) (fun i _ => l.length - (intOf i).toNat)
      case atStart => exact ⟨0, Nat.zero_le _, rfl, h.fr hq (fun h => h), hq.on⟩
      case round =>
        obtain ⟨k, hk, rfl, hp, hf⟩ := hrel
        by_cases hlt : k < l.length
        · obtain ⟨b, o, rfl, hF, hc1, hc2⟩ := (hs.fr hf (fun b hb e => hg (by rw [← e]; exact hb))).name hlt
          have hx := HA.out _ (List.getElem_mem hlt)
          obtain ⟨j, hj, hj8⟩ : ∃ j : Nat, l[k].1 = ((j + 1 : Nat) : Int) ∧ j < 8 := ⟨(l[k].1 - 1).toNat, by have := hx.1; omega, by have := hx.2.1; have := hx.1; omega⟩
          have hj2 : (l[k].1 - 1).toNat = j := by omega
          obtain ⟨x, hxv⟩ : ∃ x, (pRaise p (l.take k)).getD j 0 = x := ⟨_, rfl⟩
          have hc := hp.num hj8
          rw [hxv] at hc
          have hfz := hp.2.frozen (j + 1)
          have hset := hp.set_ j (if x < l[k].2 then l[k].2 else x)
          rw [← pSet_if _ j l[k].2 x hxv] at hset
          have e : pRaise p (l.take (k + 1)) = pSet (pRaise p (l.take k)) j l[k].2 := by
            unfold pRaise
            rw [foldl_take_succ _ l k hlt p]
            unfold pRaise1
            rw [hj2]
          rw [← e] at hset
          have HE := Lib.hid hset
          clear hset e hxv hx hj2
          rw [hj] at hc1
          generalize l[k].2 = v at hc2 HE
          have hi1 : (1 : Nat) ≤ j + 1 := by omega
          have hi9 : j + 1 ≤ 8 := by omega
          generalize j + 1 = j1 at *
          have hi0 : (0 : Int) ≤ (j1 : Int) := by omega
          have hi8 : (j1 : Int) < 9 := by omega
          clear hj hj8
          go_wp2_with fail
          go_region
          go_wp2_with fail
          go_roundw
          case rel => exact ⟨k + 1, by omega, by go_num, (by first | exact HE.out | exact (HE.out.drewN 1)), ((hf.drew).setCell (p := ⟨g, j1, none⟩) (.inl rfl) _)⟩
          case measure => simp [intOf]; omega
        · go_wp2_with fail
          go_ret
          have e : l.take k = l := List.take_of_length_le (by omega)
          rw [e] at hp
          have ea : allOk l = true := decide_eq_true HA.out
          unfold raiseE raiseP
          rw [if_pos ea, if_pos ea]
          exact ⟨rfl, hp, hf⟩

/-- Some pasts of the reference's, one by one. -/
def AreRPs (w : World) (gs : List Nat) (qs : List Pst) : Prop := gs.length = qs.length ∧ ∀ k (h : k < gs.length) (h' : k < qs.length), IsRP w gs[k] qs[k]
theorem AreRPs.fr {w w' : World} {S : Nat → Prop} {gs : List Nat} {qs : List Pst} (h : AreRPs w gs qs) (hf : Fr S w w') (hg : ∀ g ∈ gs, ¬ S g) : AreRPs w' gs qs :=
  ⟨h.1, fun k h1 h2 => (h.2 k h1 h2).fr hf (hg _ (List.getElem_mem h1))⟩

def RMergeIn (wo : World) (g : Nat) (q p : Pst) (j : Value) (wx : World) : Prop := ∃ k : Nat, k ≤ 8 ∧ j = .int .i64 ((k : Int) + 1) ∧ IsRP wx g (pMergeK q k p) ∧ Fr (· = g) wo wx
def RMergeOut (w : World) (g : Nat) (qs : List Pst) (p : Pst) (i : Value) (wx : World) : Prop := ∃ k : Nat, k ≤ qs.length ∧ i = .int .i64 k ∧ IsRP wx g (pMerge p (qs.take k)) ∧ Fr (· = g) w wx

set_option maxRecDepth 100000 in
set_option maxHeartbeats 1000000 in
theorem rMerge_any (w : World) (F : Nat → Prop) (A : Option Addr) (c : Nat) (gs : List Nat) (qs : List Pst) (hs : Sl w F A (gs.map PtrV)) (hl : gs.length ≤ 1000000000) (hq : AreRPs w gs qs) (g : Nat) (p : Pst) (h : IsRP w g p) (hg : ¬ F g) (hgs : ∀ k ∈ gs, k ≠ g) :
    Calls Try.prog 20 #[PtrV g, .slice A gs.length c] w fun e w' => e = .returned (.tuple #[]) ∧ IsRP w' g (pMerge p qs) ∧ Fr (· = g) w w' := by
  go_enter Try.func20, Try.ntmps20
  go_wp2_with fail
  go_loopw [4] (fun i wr => RMergeOut w g qs p i wr) (fun i _ => gs.length - (intOf i).toNat)
  case atStart => exact ⟨0, Nat.zero_le _, rfl, h, Fr.refl _ _⟩
  case round =>
    obtain ⟨k, hk, rfl, hp, hf⟩ := hrel
    obtain ⟨wo, rfl⟩ : ∃ wo : World, wo = wr := ⟨_, rfl⟩
    have HQ := Lib.hid hq
    clear hq
    have hql := HQ.out.1
    by_cases hlt : k < gs.length
    · have hlt2 : k < qs.length := by omega
      have hqk := (HQ.out.2 k hlt hlt2).fr hf (hgs _ (List.getElem_mem hlt))
      have hne := hgs _ (List.getElem_mem hlt)
      clear hql
      go_wp2_with fail
      go_loopw [5] (fun j wx => RMergeIn wo g qs[k] (pMerge p (qs.take k)) j wx) (fun j _ => 9 - (intOf j).toNat)
      case atStart => exact ⟨0, Nat.zero_le _, rfl, hp, Fr.refl _ _⟩
      case round =>
        obtain ⟨j, hj, rfl, hpj, hfj⟩ := hrel
        by_cases hj8 : j < 8
        · obtain ⟨b, o, rfl, hF, hcs⟩ := (hs.fr (hf.tr hfj) (fun b hb e => hg (by rw [← e]; exact hb))).get hlt
          obtain ⟨x, hxv⟩ : ∃ x, (pMergeK qs[k] j (pMerge p (qs.take k))).getD j 0 = x := ⟨_, rfl⟩
          have hc := hpj.num hj8
          rw [hxv] at hc
          have hcq := (hqk.fr hfj hne).num hj8
          obtain ⟨v, hv⟩ : ∃ v, qs[k].getD j 0 = v := ⟨_, rfl⟩
          rw [hv] at hcq
          have hfz := hpj.2.frozen (j + 1)
          have hset := hpj.set_ j (if x < v then v else x)
          rw [← pSet_if _ j v x hxv, ← hv] at hset
          have e : pMergeK qs[k] (j + 1) (pMerge p (qs.take k)) = pSet (pMergeK qs[k] j (pMerge p (qs.take k))) j (qs[k].getD j 0) := rfl
          rw [← e, hv] at hset
          have HE := Lib.hid hset
          clear hset e hxv hv
          have e2 : ((j : Int) + 1) = ((j + 1 : Nat) : Int) := by omega
          rw [e2]
          have hi1 : (1 : Nat) ≤ j + 1 := by omega
          have hi9 : j + 1 ≤ 8 := by omega
          have hj' : 9 - (j + 1) = 8 - j := by omega
          generalize hj1 : j + 1 = j1 at *
          have HJ := Lib.hid hj1
          clear hj1 e2 hj'
          have hi0 : (0 : Int) ≤ (j1 : Int) := by omega
          have hi8 : (j1 : Int) < 9 := by omega
          have hi88 : (j1 : Int) ≤ 8 := by omega
          go_wp2_with fail
          go_region
          go_wp2_with fail
          go_roundw
          case rel => exact ⟨j + 1, by omega, by have := HJ.out; go_num, by have := HJ.out; subst this; exact HE.out, ((hfj.drew).setCell (p := ⟨g, j1, none⟩) (.inl rfl) _)⟩
          case measure => simp [intOf]; omega
        · obtain rfl : j = 8 := by omega
          go_wp2_with fail
          go_roundw
          case rel =>
            refine ⟨k + 1, by omega, by go_num, ?_, hf.tr hfj⟩
            have e : pMerge p (qs.take (k + 1)) = pMerge1 (pMerge p (qs.take k)) qs[k] := by
              unfold pMerge
              exact foldl_take_succ _ qs k hlt2 p
            rw [e]
            exact hpj
          case measure => simp [intOf]; omega
    · go_wp2_with fail
      go_end0
      have e : qs.take k = qs := List.take_of_length_le (by omega)
      rw [e] at hp
      exact ⟨rfl, hp, hf⟩
end Go.Proofs.Ytoapobgnfgfobaa
