/- Rulings: what the document's book has of some kinds. -/
import Derived.Test.YtgmcjfjdjnoljaaRuU
namespace Go.Proofs.Ytgmcjfjdjnoljaa
open Go Go.RowKit

def RInRel (w : World) (nc : Nat) (cm : List Bool) (m : Bool) (b i : Value) (wr : World) : Prop :=
  ∃ (c : Nat) (x : Bool), c ≤ nc ∧ b = .bool x ∧ i = .int .i64 c ∧ x = (decide (nc = 0) || (cm.take c).contains m) ∧ Nw w wr
theorem contains_succ (cm : List Bool) (m : Bool) (c : Nat) (h : c < cm.length) (x : Bool) (nc : Nat) (hx : x = (decide (nc = 0) || (cm.take c).contains m)) : (decide (nc = 0) || (cm.take (c + 1)).contains m) = (x || (cm[c] == m)) := by
  rw [List.take_succ_eq_append_getElem h, hx, Bool.or_assoc]
  congr 1
  rw [List.contains_append]
  congr 1
  generalize cm[c] = y
  cases y <;> cases m <;> rfl
set_option maxRecDepth 100000 in
set_option maxHeartbeats 4000000 in
theorem rbAll_any (w : World) (F Fc : Nat → Prop) (g : Nat) (l : List Ver) (h : IsRB w F g l) (Ac : Option Addr) (cc : Nat) (cm : List Bool) (hc : Sl w Fc Ac (cm.map Value.bool)) (hcl : cm.length ≤ 1000000000) (hz : VersSz l) (hl : l.length ≤ 2000000000) :
    Calls Try.prog 31 #[.pointer (some ⟨g, 0, none⟩), .slice Ac cm.length cc] w fun e w' => ∃ v, e = .returned v ∧ OwnVs w 41 w' (allV cm l) v ∧ Nw w w' := by
  obtain ⟨A, cap, cs, I, hb, ho, hv, _⟩ := id h
  obtain ⟨n, hn⟩ : ∃ n, n = l.length := ⟨_, rfl⟩
  have g0 : w.cell? ⟨g, 0, none⟩ = some (.slice A n cap) := by rw [hn]; simpa using hb.cell 0
  rw [← hn] at hl ho
  have hall : allV cm l = allV cm (l.take n) := by rw [hn, List.take_length]
  have HALL := Lib.hid hall
  obtain ⟨nc, hnc⟩ : ∃ nc, nc = cm.length := ⟨_, rfl⟩
  rw [← hnc] at hcl ⊢
  have HNC := Lib.hid hnc
  have HN := Lib.hid hn
  clear hnc hn hall
  go_enter Try.func31, Try.ntmps31
  go_wp2_with fail
  go_loopw [5, 6] (fun o i wx => AllRel w 41 cm l o i wx) (fun _ i _ => n - (intOf i).toNat)
  case atStart => exact ⟨0, Nat.zero_le _, rfl, ⟨none, 0, [], fun _ => False, rfl, Own.nil _ _ _, VersC.nil _ _, fun k hk => (inA_none k hk).elim, fun k hk => hk.elim⟩, Fr.refl _ _⟩
  case round =>
    obtain ⟨k, hk, rfl, hout, hq⟩ := hrel
    have hkn' : k ≤ n := by rw [HN.out]; exact hk
    have g1 : wr.cell? ⟨g, 0, none⟩ = some (.slice A n cap) := (hq.cell (World.block_lt_of_cell? _ _ g0) (fun h => h)).trans g0
    by_cases hkn : k < n
    · have hlt : k < l.length := by rw [← HN.out]; exact hkn
      have hki : (k : Int) < (n : Int) := by omega
      obtain ⟨bA, oA, A', c', rfl, _, hcell, _, _, hs'⟩ := (ho.fr hq (fun _ _ h => h)).sl.ver (hv.fr hq (fun _ _ h => h)) hlt
      have hsucc := allV_succ cm l k hlt
      have hzk := hz _ (List.getElem_mem hlt)
      obtain ⟨v, hvk⟩ : ∃ v, l[k] = v := ⟨_, rfl⟩
      rw [hvk] at hcell hs' hsucc hzk
      rw [← HNC.out] at hsucc
      have HS := Lib.hid hsucc
      have hvs : (allV cm (l.take k)).length ≤ n := by
        rw [HN.out]
        unfold allV
        exact Nat.le_trans (List.length_filter_le _ _) (by simp; omega)
      generalize allV cm (l.take k) = vs at hout HS hvs
      obtain ⟨A5, c5, cs5, I5, rfl, o5, v5, a5, i5⟩ := hout
      have hby : (vs.length + 1) * 56 ≤ 140737488355328 := by omega
      have hmx : vs.length + 1 ≤ maxLen := by unfold maxLen; omega
      obtain ⟨nv, hnv⟩ : ∃ nv, nv = vs.length := ⟨_, rfl⟩
      rw [← hnv] at o5 hby hmx ⊢
      have HNV := Lib.hid hnv
      have m2 : wr.cell? ⟨bA, oA + k * 5 + 2, none⟩ = some (.bool v.2.1) := hcell 2 _ rfl
      obtain ⟨m, hm⟩ : ∃ m, v.2.1 = m := ⟨_, rfl⟩
      rw [hm] at m2
      have HM := Lib.hid hm
      obtain ⟨wB, hwB⟩ : ∃ wB, wB = wr := ⟨_, rfl⟩
      rw [← hwB] at hq g1 hcell hs' o5 v5 i5 m2 ⊢
      clear hwB hsucc hvk hnv hm g0
      go_wp2_with fail
      go_loopw [7, 8] (fun b i wx => RInRel wB nc cm m b i wx) (fun _ i _ => nc - (intOf i).toNat)
      case atStart => exact ⟨0, _, Nat.zero_le _, rfl, rfl, by simp; rw [Bool.eq_iff_iff, beq_iff_eq, decide_eq_true_eq]; omega, Fr.refl _ _⟩
      case round =>
        obtain ⟨c, x, hcc, rfl, rfl, hxe, q2⟩ := hrel
        have g2 : wr.cell? ⟨g, 0, none⟩ = some (.slice (some ⟨bA, oA, none⟩) n cap) := (q2.cell (World.block_lt_of_cell? _ _ g1) (fun h => h)).trans g1
        by_cases hcn : c < nc
        · have hcl2 : c < cm.length := by rw [← HNC.out]; exact hcn
          have hci : (c : Int) < (nc : Int) := by omega
          obtain ⟨bC, oC, rfl, _, hcc2⟩ := (hc.fr (hq.tr q2) (fun _ _ h => h)).get hcl2
          have m3 : wr.cell? ⟨bA, oA + k * 5 + 2, none⟩ = some (.bool m) := (q2.cell (World.block_lt_of_cell? _ _ m2) (fun h => h)).trans m2
          have hsx := contains_succ cm m c hcl2 x nc hxe
          obtain ⟨y, hy⟩ : ∃ y, cm[c] = y := ⟨_, rfl⟩
          rw [hy] at hcc2 hsx
          have HX := Lib.hid hsx
          clear hsx hy hxe
          obtain ⟨w9, hw9⟩ : ∃ w9, w9 = wr := ⟨_, rfl⟩
          rw [← hw9] at q2 g2 hcc2 m3 ⊢
          clear hw9
          cases x <;> cases y <;> cases m
          all_goals
            go_wp2_with fail
            go_quiet (fail)
            go_wp2_with fail
            go_roundw
          all_goals first | (case rel => exact ⟨c + 1, _, by omega, rfl, by go_num, HX.out.symm, q2.drewN _⟩) | (case measure => simp [intOf]; omega)
        · obtain rfl : c = nc := by omega
          rw [List.take_of_length_le (by rw [HNC.out]; exact Nat.le_refl _)] at hxe
          have HX := Lib.hid hxe
          clear hxe
          have Q2 := hq.tr q2
          have hQs : w.heap.size ≤ wr.heap.size := Q2.size
          cases x
          · go_wp2_with fail
            go_roundw
            case rel =>
              refine ⟨k + 1, by omega, by go_num, ?_, Q2⟩
              rw [HS.out, HM.out, if_neg (by rw [← HX.out]; decide), List.append_nil]
              exact ⟨A5, c5, cs5, I5, by rw [← HNV.out], by rw [← HNV.out]; exact o5.fr q2 (fun _ _ h => h), v5.fr q2 (fun _ _ h => h), a5, fun q hq3 => ⟨(i5 q hq3).1, Nat.lt_of_lt_of_le (i5 q hq3).2.1 q2.size, (i5 q hq3).2.2⟩⟩
            case measure => simp [intOf]; omega
          · have o6 := o5.fr q2 (fun _ _ h => h)
            have v6 := v5.fr q2 (fun _ _ h => h)
            have i6 : ∀ q, I5 q → w.heap.size ≤ q ∧ q < wr.heap.size ∧ ¬ inA A5 q := fun q hq3 => ⟨(i5 q hq3).1, Nat.lt_of_lt_of_le (i5 q hq3).2.1 q2.size, (i5 q hq3).2.2⟩
            have hcop := rcopied_any wr I v A' c' (hs'.fr q2 (fun _ _ h => h)) (by have := hzk.1; omega)
            have hcl3 : ∀ p u, (verL v A' c')[p]? = some u → wr.cell? ⟨bA, oA + k * 5 + p, none⟩ = some u := fun p u hu => (q2.cell (World.block_lt_of_cell? _ _ (hcell p u hu)) (fun h => h)).trans (hcell p u hu)
            go_wp2_with (first | (refine wl_load_cells rfl 41 _ rfl bA (oA + k * 5) rfl (verL v A' c') _ hcl3 Try.underlying41 rfl rver_size ?_) | (go_at_call 39; refine hcop.mono ?_; rintro e w3 ⟨A3, c3, rfl, hl3, hm3, hs3, q3⟩; have o3 := o6.fr q3 (fun _ _ h => h)) | (at_builtin; refine wl_append2 rfl _ _ _ rfl 56 (.agg #[.int .i64 0, .int .i64 0, .bool false, .int .i64 0, .slice none 0 0]) Try.underlying29 info_rver rfl (by decide) rfl (o3.alloc _) rfl (sl_new w3 41 (verL v A3 c3) _ rfl) rfl (verL_one v A3 c3) hby hmx ?_; intro A6 c6 w6 hap6; obtain ⟨hown, f6⟩ := ownVs_app HNV.out o6 v6 a5 i6 hQs v hl3 hm3 hs3 q3 hap6))
            go_roundw
            case rel =>
              refine ⟨k + 1, by omega, by go_num, ?_, Q2.trans f6 fun j hj => .inr (a5 j hj)⟩
              rw [HS.out, HM.out, if_pos (by rw [← HX.out])]
              exact hown
            case measure => simp [intOf]; omega
    · obtain rfl : k = n := by omega
      go_wp2_with fail
      go_ret
      rw [HALL.out]
      exact ⟨_, rfl, hout, hq⟩
end Go.Proofs.Ytgmcjfjdjnoljaa
