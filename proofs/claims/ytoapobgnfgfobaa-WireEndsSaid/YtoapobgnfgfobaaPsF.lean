/- Past: merging, copies. -/
import Derived.Test.YtoapobgnfgfobaaPsE
namespace Go.Proofs.Ytoapobgnfgfobaa
open Go Go.RowKit

theorem ret_bool {a b : Bool} (h : a = b) : Ending.returned (.bool a) = Ending.returned (.bool b) := by rw [h]

theorem idx8 (q : Pst) (hq : q.length = 8) (j : Nat) (hj : j < 8) (w : World) : (Instr.index 104 (.agg (q.map I64).toArray) (.int .i64 (j : Int))).run Try.prog w = .ok (I64 (q.getD j 0)) w := by
  obtain ⟨a, b, c, d, e, f, g, h, rfl⟩ : ∃ a b c d e f g h : Int, q = [a, b, c, d, e, f, g, h] := by
    match q, hq with
    | [a, b, c, d, e, f, g, h], _ => exact ⟨a, b, c, d, e, f, g, h, rfl⟩
  rcases (show j = 0 ∨ j = 1 ∨ j = 2 ∨ j = 3 ∨ j = 4 ∨ j = 5 ∨ j = 6 ∨ j = 7 by omega) with rfl | rfl | rfl | rfl | rfl | rfl | rfl | rfl
  all_goals kernel_rfl

/-- Some pasts, one by one. -/
def ArePasts (w : World) (gs : List Nat) (qs : List Pst) : Prop := gs.length = qs.length ∧ ∀ k (h : k < gs.length) (h' : k < qs.length), IsPast w gs[k] qs[k]
theorem ArePasts.fr {w w' : World} {S : Nat → Prop} {gs : List Nat} {qs : List Pst} (h : ArePasts w gs qs) (hf : Fr S w w') (hg : ∀ g ∈ gs, ¬ S g) : ArePasts w' gs qs :=
  ⟨h.1, fun k h1 h2 => (h.2 k h1 h2).fr hf (hg _ (List.getElem_mem h1))⟩
theorem ArePasts.made {w : World} {gs : List Nat} {qs : List Pst} (h : ArePasts w gs qs) : ∀ g ∈ gs, w.cell? ⟨g, 8, none⟩ = some (.bool true) := by
  intro g hg
  obtain ⟨k, hk, rfl⟩ := List.mem_iff_getElem.1 hg
  exact (h.2 k hk (by rw [← h.1]; exact hk)).made

theorem IsPast.cells {w : World} {g : Nat} {p : Pst} (h : IsPast w g p) : ∀ j v, (p.map I64)[j]? = some v → w.cell? ⟨g, 0 + j, none⟩ = some v := by
  intro j v hv
  rw [Nat.zero_add]
  have hj : j < p.length := by
    rcases Nat.lt_or_ge j p.length with h | h
    · exact h
    · rw [List.getElem?_eq_none (by simpa using h)] at hv; cases hv
  rw [h.num (by rw [← h.1]; exact hj), ← hv]
  simp [hj, List.getD_eq_getElem?_getD]

def MergeIn (wo : World) (g : Nat) (q p : Pst) (j : Value) (wx : World) : Prop := ∃ k : Nat, k ≤ 8 ∧ j = .int .i64 k ∧ IsPast wx g (pMergeK q k p) ∧ Fr (· = g) wo wx
def MergeOut (w : World) (g : Nat) (qs : List Pst) (p : Pst) (i : Value) (wx : World) : Prop := ∃ k : Nat, k ≤ qs.length ∧ i = .int .i64 k ∧ IsPast wx g (pMerge p (qs.take k)) ∧ Fr (· = g) w wx

set_option maxRecDepth 100000 in
set_option maxHeartbeats 1000000 in
theorem pastMerge_any (w : World) (F : Nat → Prop) (A : Option Addr) (c : Nat) (gs : List Nat) (qs : List Pst) (hs : Sl w F A (gs.map PtrV)) (hl : gs.length ≤ 1000000000) (hq : ArePasts w gs qs) (g : Nat) (p : Pst) (h : IsPast w g p) (hg : ¬ F g) (hgs : ∀ k ∈ gs, k ≠ g) :
    Calls Try.prog 21 #[PtrV g, .slice A gs.length c] w fun e w' => e = .returned (.int .i64 0) ∧ IsPast w' g (pMerge p qs) ∧ Fr (· = g) w w' := by
  have hk := known1_any w g p h
  have q1 : Nw w (w.alloc (.cells #[PtrV g] 27)) := (Fr.refl _ w).alloc _
  have hk2 := pastKnown_any (w.alloc (.cells #[PtrV g] 27)) F A c gs (hs.alloc _) (hq.fr q1 (fun _ _ h => h)).made hl
  go_enter Try.func21, Try.ntmps21
  go_wp2_with fail
  refine hk.mono ?_
  rintro e w1 ⟨rfl, rfl⟩
  go_wp2_with fail
  refine hk2.mono ?_
  rintro e w1 ⟨rfl, rfl⟩
  clear hk hk2
  go_wp2_with fail
  generalize hW : w.alloc (.cells #[PtrV g] 27) = w1 at q1
  clear hW
  go_loopw [20] (fun i wr => MergeOut w g qs p i wr) (fun i _ => gs.length - (intOf i).toNat)
  case atStart => exact ⟨0, Nat.zero_le _, rfl, h.fr q1 (fun h => h), q1.on⟩
  case round =>
    obtain ⟨k, hk, rfl, hp, hf⟩ := hrel
    obtain ⟨wo, rfl⟩ : ∃ wo : World, wo = wr := ⟨_, rfl⟩
    have HQ := Lib.hid hq
    clear hq
    have hql := HQ.out.1
    by_cases hlt : k < gs.length
    · obtain ⟨b, o, rfl, hF, hc⟩ := (hs.fr hf (fun b hb e => hg (by rw [← e]; exact hb))).get hlt
      have hlt2 : k < qs.length := by omega
      have hqk := (HQ.out.2 k hlt hlt2).fr hf (hgs _ (List.getElem_mem hlt))
      have hq8 := hqk.1
      have hcells := hqk.cells
      have HI := Lib.hid (idx8 qs[k] hq8)
      have H8 := Lib.hid hq8
      clear hq8 hql
      have HCL := Lib.hid hcells
      clear hcells
      go_wp2_with (refine wl_load_cells rfl 104 _ rfl gs[k] 0 rfl (qs[k].map I64) _ HCL.out Try.underlying104 rfl (by rw [List.length_map, H8.out]; kernel_rfl) ?_)
      go_loopw [29] (fun j wx => MergeIn wo g qs[k] (pMerge p (qs.take k)) j wx) (fun j _ => 8 - (intOf j).toNat)
      case atStart => exact ⟨0, Nat.zero_le _, rfl, hp, Fr.refl _ _⟩
      case round =>
        obtain ⟨j, hj, rfl, hpj, hfj⟩ := hrel
        by_cases hj8 : j < 8
        · have hidx := HI.out j hj8
          have hcon := fun (W : World) (hi : IsPast W g (pMergeK qs[k] j (pMerge p (qs.take k)))) => raise_any W g _ hi j hj8 (qs[k].getD j 0)
          have HC := Lib.hid hcon
          clear hcon
          go_wp2_with (go_at_call 67; refine (HC.out _ hpj).mono ?_; rintro e w2 ⟨rfl, hp2, hf2⟩)
          go_roundw
          case rel => exact ⟨j + 1, by omega, by go_num, hp2, hfj.tr hf2⟩
          case measure => simp [intOf]; omega
        · obtain rfl : j = 8 := by omega
          go_wp2_with fail
          go_roundw
          case rel =>
            refine ⟨k + 1, by omega, by go_num, ?_, hf.tr hfj⟩
            have e : pMerge p (qs.take (k + 1)) = pMerge1 (pMerge p (qs.take k)) qs[k] := by
              unfold pMerge
              exact foldl_take_succ _ qs k hlt2 p
            rw [e]
            exact hpj
          case measure => simp [intOf]; omega
    · go_wp2_with fail
      go_ret
      have e : qs.take k = qs := List.take_of_length_le (by omega)
      rw [e] at hp
      exact ⟨rfl, hp, hf⟩

theorem pst_eight (p : Pst) (hp : p.length = 8) : ∃ a b c d e f g h : Int, p = [a, b, c, d, e, f, g, h] := by
  match p, hp with
  | [a, b, c, d, e, f, g, h], _ => exact ⟨a, b, c, d, e, f, g, h, rfl⟩

theorem pastCopy_any (w : World) (g : Nat) (p : Pst) (h : IsPast w g p) : Calls Try.prog 22 #[PtrV g] w fun e w' => ∃ g', e = .returned (PtrV g') ∧ IsPast w' g' p ∧ w.heap.size ≤ g' ∧ Nw w w' := by
  have hk := known1_any w g p h
  obtain ⟨n0, n1, n2, n3, n4, n5, n6, n7, rfl⟩ := pst_eight p h.1
  have h1 := (h.fr (S := fun _ => False) ((Fr.refl _ w).alloc (.cells #[PtrV g] 27)) (fun h => h)).2
  have c0 := h1.cell 0
  have c1 := h1.cell 1
  have c2 := h1.cell 2
  have c3 := h1.cell 3
  have c4 := h1.cell 4
  have c5 := h1.cell 5
  have c6 := h1.cell 6
  have c7 := h1.cell 7
  simp at c0 c1 c2 c3 c4 c5 c6 c7
  have H := Lib.hid h
  clear h h1
  go_enter Try.func22, Try.ntmps22
  go_wp2_with (first | (go_at_call 66; refine hk.mono ?_; rintro e w1 ⟨rfl, rfl⟩))
  go_ret
  exact ⟨w.heap.size + 1, rfl, ⟨rfl, by simpa using Blk.new (w.alloc (.cells #[PtrV g] 27)) 108 #[I64 n0, I64 n1, I64 n2, I64 n3, I64 n4, I64 n5, I64 n6, I64 n7, .bool true]⟩, by omega, ((Fr.refl _ w).alloc _).alloc _⟩
end Go.Proofs.Ytoapobgnfgfobaa
