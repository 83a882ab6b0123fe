/- Rulings: a book's copy; verdicts of the program held against each other; picking. -/
import Derived.Test.YtgmcjfjdjnoljaaRuP
import Derived.Test.YtgmcjfjdjnoljaaRuM
import Derived.Deep.RegionHeld3
namespace Go.Proofs.Ytgmcjfjdjnoljaa
open Go Go.RowKit

def CopyRel (w : World) (go : Nat) (l : List Ver) (i : Value) (wr : World) : Prop :=
  ∃ k : Nat, k ≤ l.length ∧ i = .int .i64 k ∧ ∃ F, IsBk wr F go (l.take k) ∧ (∀ j, F j → w.heap.size ≤ j) ∧ Nw w wr
theorem take_no {l : List Ver} (h : BookOk l) (k : Nat) (hk : k < l.length) : findV l[k].1 (l.take k) = none := (take_ahead h k hk).1
theorem nm_wf {n : Nm} (h : nmOk n) : NmWf n := ⟨WalkArith.wf_i64 (by unfold nmOk at h; omega), WalkArith.wf_i64 (by unfold nmOk at h; omega)⟩
set_option maxRecDepth 100000 in
set_option maxHeartbeats 4000000 in
theorem bkCopy_any (w : World) (F : Nat → Prop) (g : Nat) (l : List Ver) (h : IsBk w F g l) (hbo : BookOk l) (hl : l.length ≤ 2000000000) :
    Calls Try.prog 10 #[.pointer (some ⟨g, 0, none⟩)] w fun e w' => ∃ g' F', e = .returned (.pointer (some ⟨g', 0, none⟩)) ∧ IsBk w' F' g' l ∧ (∀ j, F' j → w.heap.size ≤ j) ∧ Nw w w' := by
  obtain ⟨A, cap, hm, cs, I, hb, ho, hv, hM, hFg, hFA, hFm, hFI, hx, hlt⟩ := id h
  have hz := bookOk_sz hbo
  go_enter Try.func10, Try.ntmps10
  go_wp2_with (go_at_call 37; refine (bkKnown_any _ _ _ _ h).mono ?_; rintro e w' ⟨rfl, rfl⟩)
  refine (bkNew_any _).mono ?_
  rintro e w1 ⟨go, F1, rfl, hb1, q1, hF1⟩
  have g0 : w1.cell? ⟨g, 0, none⟩ = some (.slice A l.length cap) := by simpa using (hb.fr q1 (fun h => h)).cell 0
  obtain ⟨n, hn⟩ : ∃ n, n = l.length := ⟨_, rfl⟩
  rw [← hn] at g0
  have HN := Lib.hid hn
  have hl : n ≤ 2000000000 := by omega
  clear hn
  go_wp2_with fail
  go_loopw [16] (fun i wx => CopyRel w go l i wx) (fun i _ => n - (intOf i).toNat)
  case atStart => exact ⟨0, Nat.zero_le _, rfl, F1, hb1, hF1, q1⟩
  case round =>
    clear hb1 g0
    obtain ⟨k, hk, rfl, Fk, hbk, hFk, hq⟩ := hrel
    have hkn : k ≤ n := by rw [HN.out]; exact hk
    by_cases hlt2 : k < n
    · have hkl : k < l.length := by rw [← HN.out]; exact hlt2
      obtain ⟨bA, oA, A', c', rfl, _, hcell, hc1, hc2, hs'⟩ := (ho.fr hq (fun _ _ h => h)).sl.ver (hv.fr hq (fun _ _ h => h)) hkl
      have hfn := take_no hbo k hkl
      have hzk := hz _ (List.getElem_mem hkl)
      have hvo := nm_wf (verOk_parts (hbo.1 _ (List.getElem_mem hkl))).1
      have hsucc : l.take (k + 1) = l.take k ++ [l[k]] := List.take_succ_eq_append_getElem hkl
      have htl : (l.take k).length ≤ 2000000000 := by rw [List.length_take]; omega
      obtain ⟨v, hvk⟩ : ∃ v, l[k] = v := ⟨_, rfl⟩
      rw [hvk] at hcell hs' hfn hzk hvo hsucc hc1
      have HS := Lib.hid hsucc
      generalize l.take k = lk at hbk hfn htl HS
      have hT := Blk.new wr 38 zeroC
      have h1T := ver_one v.1.1 v.1.2 v.2.1 v.2.2.1 (.slice A' v.2.2.2.length c') rfl
      have hT2 := hT.row #[I64 v.1.1, I64 v.1.2, .bool v.2.1, I64 v.2.2.1, .slice A' v.2.2.2.length c']
      obtain ⟨w2, hw2⟩ : ∃ w2, w2 = (wr.alloc (.cells zeroC 38)).setRow wr.heap.size #[I64 v.1.1, I64 v.1.2, .bool v.2.1, I64 v.2.2.1, .slice A' v.2.2.2.length c'] := ⟨_, rfl⟩
      have q12 : Nw wr w2 := by rw [hw2]; exact ((Fr.refl (fun _ => False) wr).alloc _).setRow (.inr (Nat.le_refl _)) _
      rw [← hw2] at hT2
      have HW2 := Lib.hid hw2
      clear hw2 hsucc hvk
      have b0 : w2.drew.cell? ⟨wr.heap.size, 0, none⟩ = some (I64 v.1.1) := by simpa using hT2.drew.cell 0
      have b1 : w2.drew.cell? ⟨wr.heap.size, 1, none⟩ = some (I64 v.1.2) := by simpa using hT2.drew.cell 1
      have b2 : w2.drew.cell? ⟨wr.heap.size, 2, none⟩ = some (.bool v.2.1) := by simpa using hT2.drew.cell 2
      have b3 : w2.drew.cell? ⟨wr.heap.size, 3, none⟩ = some (I64 v.2.2.1) := by simpa using hT2.drew.cell 3
      have b4 : w2.drew.cell? ⟨wr.heap.size, 4, none⟩ = some (.slice A' v.2.2.2.length c') := by simpa using hT2.drew.cell 4
      have hput := bkPut_any w2.drew Fk I go lk (hbk.fr q12.drew (fun _ _ h => h)) v A' c' (hs'.fr q12.drew (fun _ _ h => h)) (fun j hj hF => by have := hFk j hF; have := (hFI j hj).1; have := hlt j this; omega) hzk hvo hfn htl
      go_wp2_with (first | (refine wl_load_cells rfl 38 _ rfl bA (oA + k * 5) rfl (verL v A' c') _ hcell Try.underlying38 rfl ver_size ?_) | (refine wpList_store_row rfl 38 _ _ rfl wr.heap.size _ rfl rfl 38 _ hT ver_size rfl h1T ?_; rw [← HW2.out]))
      refine wp_region_tail 4 (by kernel_rfl) (by kernel_rfl) ?_
      simp only [List.take_succ_cons, List.take_zero, List.drop_succ_cons, List.drop_zero]
      repeat still_step
      refine wpStill_nil ?_
      go_wp2_with fail
      refine hput.mono ?_
      rintro e w3 ⟨rfl, F3, hb3, f3, n3⟩
      have hqs := hq.size
      have h2s : w.heap.size ≤ w2.drew.heap.size := (hq.tr q12.drew).size
      go_wp2_with fail
      go_roundw
      case rel =>
        refine ⟨k + 1, by rw [← HN.out]; omega, by go_num, F3, ?_, fun j hj => (n3 j hj).elim (hFk j) (fun h => by omega), (hq.tr q12.drew).trans f3 fun j hj => .inr (hFk j hj)⟩
        rw [HS.out]
        exact hb3
      case measure => simp [intOf]; omega
    · have hkl : k = l.length := by have := HN.out; omega
      subst hkl
      go_wp2_with fail
      go_ret
      rw [List.take_length] at hbk
      exact ⟨go, Fk, rfl, hbk, hFk, hq⟩

set_option maxRecDepth 100000 in
/-- A verdict of the program's as the document's. -/
theorem turned_any (w : World) (v : Ver) (A : Option Addr) (c : Nat) : Calls Try.prog 14 #[VerV v A c] w fun e w' => e = .returned (VerV v A c) ∧ Nw w w' := by
  obtain ⟨⟨a, b⟩, m, t, l⟩ := v
  have hD : Blk ((w.alloc (.cells #[I64 a, I64 b, .bool m, I64 t, .slice A l.length c] 38)).alloc (.cells zeroC 41)) (w.heap.size + 1) 41 zeroC := by
    simpa using Blk.new (w.alloc (.cells #[I64 a, I64 b, .bool m, I64 t, .slice A l.length c] 38)) 41 zeroC
  have h1 := ver_one a b m t (.slice A l.length c) rfl
  have hE := hD.row #[I64 a, I64 b, .bool m, I64 t, .slice A l.length c]
  go_enter Try.func14, Try.ntmps14
  go_wp2_with (refine wpList_store_row rfl 41 _ _ rfl (w.heap.size + 1) _ rfl rfl 41 _ hD rver_size rfl h1 ?_)
  refine bodyPost_ret (v := .agg #[I64 a, I64 b, .bool m, I64 t, .slice A l.length c]) ?_ rfl ?_
  · exact results_cell_row rfl _ _ (w.heap.size + 1) 41 _ (0, 0) _ rfl hE Try.underlying41 rfl rver_size
  exact ⟨rfl, (((Fr.refl _ w).alloc _).alloc _).setRow (.inr (by omega)) _⟩
set_option maxRecDepth 100000 in
theorem equal_any (w : World) (F1 F2 : Nat → Prop) (a b : Ver) (A A' : Option Addr) (c c' : Nat) (h1 : Sl w F1 A (rdgsCells a.2.2.2)) (h2 : Sl w F2 A' (rdgsCells b.2.2.2)) (hl : a.2.2.2.length ≤ 1000000000) :
    Calls Try.prog 36 #[VerV a A c, VerV b A' c'] w fun e w' => e = .returned (.bool (sameV a b)) ∧ Nw w w' := by
  have hX := (Blk.new w 38 #[I64 a.1.1, I64 a.1.2, .bool a.2.1, I64 a.2.2.1, .slice A a.2.2.2.length c]).alloc (.cells #[I64 b.1.1, I64 b.1.2, .bool b.2.1, I64 b.2.2.1, .slice A' b.2.2.2.length c'] 38)
  have hY : Blk ((w.alloc (.cells #[I64 a.1.1, I64 a.1.2, .bool a.2.1, I64 a.2.2.1, .slice A a.2.2.2.length c] 38)).alloc (.cells #[I64 b.1.1, I64 b.1.2, .bool b.2.1, I64 b.2.2.1, .slice A' b.2.2.2.length c'] 38)) (w.heap.size + 1) 38 #[I64 b.1.1, I64 b.1.2, .bool b.2.1, I64 b.2.2.1, .slice A' b.2.2.2.length c'] := by
    simpa using Blk.new (w.alloc (.cells #[I64 a.1.1, I64 a.1.2, .bool a.2.1, I64 a.2.2.1, .slice A a.2.2.2.length c] 38)) 38 #[I64 b.1.1, I64 b.1.2, .bool b.2.1, I64 b.2.2.1, .slice A' b.2.2.2.length c']
  obtain ⟨W, hW⟩ : ∃ W, W = (w.alloc (.cells #[I64 a.1.1, I64 a.1.2, .bool a.2.1, I64 a.2.2.1, .slice A a.2.2.2.length c] 38)).alloc (.cells #[I64 b.1.1, I64 b.1.2, .bool b.2.1, I64 b.2.2.1, .slice A' b.2.2.2.length c'] 38) := ⟨_, rfl⟩
  have q0 : Nw w W := by rw [hW]; exact ((Fr.refl _ w).alloc _).alloc _
  rw [← hW] at hX hY
  have HW := Lib.hid hW
  clear hW
  have hcon := fun (w1 : World) (q : Nw W w1) => same_any w1 F1 F2 a b A A' c c' (h1.fr (q0.tr q) (fun _ _ h => h)) (h2.fr (q0.tr q) (fun _ _ h => h)) hl
  have htur := fun (w1 : World) => turned_any w1 b A' c'
  have x0 : W.cell? ⟨w.heap.size, 0, none⟩ = some (I64 a.1.1) := by simpa using hX.cell 0
  have x1 : W.cell? ⟨w.heap.size, 1, none⟩ = some (I64 a.1.2) := by simpa using hX.cell 1
  have x2 : W.cell? ⟨w.heap.size, 2, none⟩ = some (.bool a.2.1) := by simpa using hX.cell 2
  have x3 : W.cell? ⟨w.heap.size, 3, none⟩ = some (I64 a.2.2.1) := by simpa using hX.cell 3
  have x4 : W.cell? ⟨w.heap.size, 4, none⟩ = some (.slice A a.2.2.2.length c) := by simpa using hX.cell 4
  have y0 : W.cell? ⟨w.heap.size + 1, 0, none⟩ = some (I64 b.1.1) := by simpa using hY.cell 0
  have y1 : W.cell? ⟨w.heap.size + 1, 1, none⟩ = some (I64 b.1.2) := by simpa using hY.cell 1
  have y2 : W.cell? ⟨w.heap.size + 1, 2, none⟩ = some (.bool b.2.1) := by simpa using hY.cell 2
  have y3 : W.cell? ⟨w.heap.size + 1, 3, none⟩ = some (I64 b.2.2.1) := by simpa using hY.cell 3
  have y4 : W.cell? ⟨w.heap.size + 1, 4, none⟩ = some (.slice A' b.2.2.2.length c') := by simpa using hY.cell 4
  have X0 := fun (n : Later W) => n.cell x0
  have X1 := fun (n : Later W) => n.cell x1
  have X2 := fun (n : Later W) => n.cell x2
  have X3 := fun (n : Later W) => n.cell x3
  have X4 := fun (n : Later W) => n.cell x4
  have Y0 := fun (n : Later W) => n.cell y0
  have Y1 := fun (n : Later W) => n.cell y1
  have Y2 := fun (n : Later W) => n.cell y2
  have Y3 := fun (n : Later W) => n.cell y3
  have Y4 := fun (n : Later W) => n.cell y4
  clear x0 x1 x2 x3 x4 y0 y1 y2 y3 y4 hX hY
  go_enter Try.func36, Try.ntmps36
  go_wp2_with fail
  rw [← HW.out]
  refine wp_region_later (by kernel_rfl) (by kernel_rfl) ?_
  repeat (go_big_quiet_step ((first | (go_at_call 14; exact Later.call (htur _)) | (go_at_call 17; exact Later.call (hcon _ (Later.nw _))))))
  refine wpQuiet_later fun w5 q5 => ?_
  go_wp2_with fail
  go_ret
  exact ⟨rfl, q0.tr q5⟩
end Go.Proofs.Ytgmcjfjdjnoljaa
