/- Rulings: the document's book copied. -/
import Derived.Test.YtgmcjfjdjnoljaaRuO
import Derived.Test.YtgmcjfjdjnoljaaRuL
namespace Go.Proofs.Ytgmcjfjdjnoljaa
open Go Go.RowKit

def RCopyRel (w : World) (go n : Nat) (l : List Ver) (i : Value) (wr : World) : Prop :=
  ∃ k F, k ≤ n ∧ i = .int .i64 (k : Nat) ∧ IsRB wr F go (l.take k) ∧ (∀ q, F q → w.heap.size ≤ q) ∧ Nw w wr
set_option maxRecDepth 100000 in
set_option maxHeartbeats 4000000 in
theorem rbCopy_any (w : World) (F : Nat → Prop) (g : Nat) (l : List Ver) (h : IsRB w F g l) (hz : VersSz l) (hl : l.length ≤ 2000000000) :
    Calls Try.prog 11 #[.pointer (some ⟨g, 0, none⟩)] w fun e w' => ∃ g' F', e = .returned (.pointer (some ⟨g', 0, none⟩)) ∧ IsRB w' F' g' l ∧ (∀ j, F' j → w.heap.size ≤ j) ∧ Nw w w' := by
  obtain ⟨A, cap, cs, I, hb, ho, hv, hFg, hFA, hFI, hlt⟩ := id h
  obtain ⟨n, hn⟩ : ∃ n, n = l.length := ⟨_, rfl⟩
  have g0 : w.cell? ⟨g, 0, none⟩ = some (.slice A n cap) := by rw [hn]; simpa using hb.cell 0
  rw [← hn] at hl ho
  have hb0 := Blk.new w 31 #[.slice none 0 0]
  have q0 : Nw w (w.alloc (.cells #[.slice none 0 0] 31)) := (Fr.refl _ w).alloc _
  have hgw := hb.lt
  have HN := Lib.hid hn
  clear hn
  go_enter Try.func11, Try.ntmps11
  go_wp2_with fail
  go_loopw [4] (fun i wx => RCopyRel w w.heap.size n l i wx) (fun i _ => n - (intOf i).toNat)
  case atStart =>
    refine ⟨0, (· = w.heap.size), Nat.zero_le _, rfl, ⟨none, 0, [], fun _ => False, hb0, Own.nil _ _ _, VersC.nil _ _, rfl, fun k hk => (inA_none k hk).elim, fun k hk => hk.elim, fun k hk => by subst hk; simp⟩, fun q hq => by subst hq; exact Nat.le_refl _, q0⟩
  case round =>
    clear hb0 q0
    obtain ⟨k, Fk, hk, rfl, hbk, hFk, hq⟩ := hrel
    have g1 : wr.cell? ⟨g, 0, none⟩ = some (.slice A n cap) := (hq.cell (World.block_lt_of_cell? _ _ g0) (fun h => h)).trans g0
    by_cases hkn : k < n
    · have hkl : k < l.length := by rw [← HN.out]; exact hkn
      obtain ⟨bA, oA, A', c', rfl, _, hcell, _, _, hs'⟩ := (ho.fr hq (fun _ _ h => h)).sl.ver (hv.fr hq (fun _ _ h => h)) hkl
      have hsucc : l.take (k + 1) = l.take k ++ [l[k]] := List.take_succ_eq_append_getElem hkl
      have hzk := hz _ (List.getElem_mem hkl)
      obtain ⟨v, hvk⟩ : ∃ v, l[k] = v := ⟨_, rfl⟩
      rw [hvk] at hcell hs' hzk hsucc
      have HS := Lib.hid hsucc
      have hlk : k = (l.take k).length := by rw [List.length_take]; omega
      have HK := Lib.hid hlk
      clear hsucc hvk hlk
      generalize l.take k = lk at hbk HS HK
      obtain ⟨A2, cap2, cs2, I2, hb2, ho2, hv2, hFg2, hFA2, hFI2, hlt2⟩ := hbk
      rw [← HK.out] at hb2 ho2
      obtain ⟨W, hW⟩ : ∃ W, W = wr.drew := ⟨_, rfl⟩
      have qW : Nw wr W := by rw [hW]; exact (Fr.refl (fun _ => False) wr).drew
      have hb3 := hb2.fr qW (fun h => h)
      have ho3 := ho2.fr qW (fun _ _ h => h)
      have hv3 := hv2.fr qW (fun _ _ h => h)
      have hlt3 : ∀ q, Fk q → q < W.heap.size := fun q h => Nat.lt_of_lt_of_le (hlt2 q h) qW.size
      have hcop := rcopied_any W I v A' c' (hs'.fr qW (fun _ _ h => h)) (by have := hzk.1; omega)
      have hgd : ∀ w1, Nw W w1 → w1.cell? ⟨w.heap.size, 0, none⟩ = some (.slice A2 k cap2) := fun w1 q => by simpa using (hb3.fr q (fun h => h)).cell 0
      have gg0 := hgd _ (Fr.refl _ W)
      have gs : W.cell? ⟨g, 0, none⟩ = some (.slice (some ⟨bA, oA, none⟩) n cap) := (qW.cell (World.block_lt_of_cell? _ _ g1) (fun h => h)).trans g1
      have hcl : ∀ p u, (verL v A' c')[p]? = some u → W.cell? ⟨bA, oA + k * 5 + p, none⟩ = some u := fun p u hu => (qW.cell (World.block_lt_of_cell? _ _ (hcell p u hu)) (fun h => h)).trans (hcell p u hu)
      have b0 : W.cell? ⟨bA, oA + k * 5, none⟩ = some (I64 v.1.1) := hcl 0 _ rfl
      have b1 : W.cell? ⟨bA, oA + k * 5 + 1, none⟩ = some (I64 v.1.2) := hcl 1 _ rfl
      have b2 : W.cell? ⟨bA, oA + k * 5 + 2, none⟩ = some (.bool v.2.1) := hcl 2 _ rfl
      have b3 : W.cell? ⟨bA, oA + k * 5 + 3, none⟩ = some (I64 v.2.2.1) := hcl 3 _ rfl
      have b4 : W.cell? ⟨bA, oA + k * 5 + 4, none⟩ = some (.slice A' v.2.2.2.length c') := hcl 4 _ rfl
      have hby : (k + 1) * 56 ≤ 140737488355328 := by omega
      have hmx : k + 1 ≤ maxLen := by unfold maxLen; omega
      have hki : (k : Int) < (n : Int) := by omega
      rw [hW] at gg0 gs b0 b1 b2 b3 b4 hcop hgd hb3 ho3 hv3 hlt3
      have hend : ∀ F6 w7, IsRB w7 F6 w.heap.size (lk ++ [v]) → Fr Fk wr.drew w7 → (∀ q, F6 q → Fk q ∨ wr.drew.heap.size ≤ q) → RCopyRel w w.heap.size n l (.int .i64 ((k : Int) + 1)) w7 := fun F6 w7 h1 h2 h3 => by
        have s1 := hq.size
        have s2 : wr.drew.heap.size = wr.heap.size := rfl
        refine ⟨k + 1, F6, by omega, by go_num, by rw [HS.out]; exact h1, fun q hq => (h3 q hq).elim (hFk q) (fun h => by omega), ?_⟩
        exact (hq.tr (Fr.refl (fun _ => False) wr).drew).trans h2 (fun q h => .inr (hFk q h))
      clear hcell hcl hW hb2 ho2 hv2 hs'
      go_wp2_with fail
      go_region_law (first | (refine step_append2g (by rfl) _ _ _ (by rfl) 56 (.agg #[.int .i64 0, .int .i64 0, .bool false, .int .i64 0, .slice none 0 0]) Try.underlying29 info_rver rfl (by decide) (by rfl) (o3.alloc _) (by rfl) (sl_new w3 41 (verL v A3 c3) _ rfl) rfl (verL_one v A3 c3) hby hmx ?_; intro A6 c6 w6 hap6; obtain ⟨hnd, hb6, f6⟩ := rb_end k HK.out hb3 ho3 hv3 hFg2 hFA2 hFI2 hlt3 v hl3 hm3 hs3 q3 hap6; have gg6 : w6.cell? ⟨w.heap.size, 0, none⟩ = some (.slice A2 k cap2) := hb6.cell 0; have fg6 := hb6.frozen 0) | (go_simp; go_at_call 39; refine hcop.mono ?_; rintro e w3 ⟨A3, c3, rfl, hl3, hm3, hs3, q3⟩; have gg3 := hgd w3 q3; have ggA := fun o => hgd _ (q3.alloc o); have o3 := ho3.fr q3 (fun _ _ h => h)))
      all_goals
        obtain ⟨F6, hb7, f7, n7⟩ := hnd
        have hfin := hend F6 _ hb7 f7 n7
        go_wp2_with fail
        go_roundw
      all_goals first | (case rel => exact hfin) | (case measure => simp [intOf]; omega)
    · obtain rfl : k = n := by omega
      go_wp2_with fail
      go_ret
      rw [List.take_of_length_le (by rw [← HN.out]; omega)] at hbk
      exact ⟨w.heap.size, Fk, rfl, hbk, hFk, hq⟩
end Go.Proofs.Ytgmcjfjdjnoljaa
