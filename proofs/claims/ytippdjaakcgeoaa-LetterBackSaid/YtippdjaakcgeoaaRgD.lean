/- Letters: which are right, by the document. (Printed by genrgd.py.) -/
import Derived.Test.YtippdjaakcgeoaaRgB
import Derived.Test.YtippdjaakcgeoaaQld
namespace Go.Proofs.Ytippdjaakcgeoaa
open Go Go.RowKit
set_option linter.unusedVariables false
set_option linter.unusedSimpArgs false
theorem bas_parts (x : BasM) : basOk x.x = (decide (0 ≤ x.index) && (decide (x.index ≤ 1073741824) && (decide (0 ≤ x.term) && (decide (x.term ≤ 1073741824) && cfgOk x.cfg.x)))) := by
  rw [Bool.eq_iff_iff]
  unfold basOk topOk
  simp only [Bool.and_eq_true, decide_eq_true_eq]
  constructor
  · rintro ⟨⟨a, b⟩, ⟨c, d⟩, e⟩; exact ⟨a, b, c, d, e⟩
  · rintro ⟨a, b, c, d, e⟩; exact ⟨⟨a, b⟩, ⟨c, d⟩, e⟩
/-- The numbers of a letter that are at most the top. -/
def topNs (x : LetM) : List Int := [x.term, x.index, x.logt, x.commit, x.size, x.at_]
def RRightR (V : World) (x : LetM) (i : Value) (wr : World) : Prop := ∃ k : Nat, k ≤ 6 ∧ i = .int .i64 k ∧ Nw V wr
def RRightE (V : World) (x : LetM) (i : Value) (wr : World) : Prop := ∃ k : Nat, k ≤ x.ents.l.length ∧ i = .int .i64 k ∧ (∀ j (h : j < x.ents.l.length), j < k → entOkM x.ents.l[j] = true) ∧ Nw V wr
theorem let_lin (x : LetM) (h : letOk x.x = true) : ((1 ≤ x.kind ∧ x.kind ≤ 8) ∧ (0 ≤ x.group ∧ x.group ≤ 4) ∧ (1 ≤ x.src ∧ x.src ≤ 5) ∧ (1 ≤ x.dst ∧ x.dst ≤ 5)) ∧ (0 ≤ x.tag ∧ x.tag ≤ 4611686018427387903) ∧ x.ents.l.length ≤ 30 ∧ x.bytes.l.length ≤ 131072 := by
  have hs := (letOk_iff _).1 h
  obtain ⟨⟨⟨h8, h9⟩, h10, h11⟩, _, h7, ⟨h12, h15⟩, h14, h13⟩ := hs
  have h12 : (x.ents.l.map EntM.x).length ≤ 30 := h12
  rw [List.length_map] at h12
  exact ⟨⟨h8, h9, h10, h11⟩, h7, h12, h13⟩
theorem let_tops (x : LetM) (h : letOk x.x = true) : ∀ n ∈ topNs x, 0 ≤ n ∧ n ≤ 1073741824 := by
  have hs := ((letOk_iff _).1 h).nums
  obtain ⟨⟨h1, h2⟩, ⟨h3, h4⟩, h5, h6⟩ := hs
  intro n hn
  simp only [topNs, List.mem_cons, List.not_mem_nil, or_false] at hn
  rcases hn with rfl | rfl | rfl | rfl | rfl | rfl
  · exact h1
  · exact h2
  · exact h3
  · exact h4
  · exact h5
  · exact h6
theorem let_base (x : LetM) (h : letOk x.x = true) : basOk x.base.x = true := ((letOk_iff _).1 h).base
theorem let_ents (x : LetM) (h : letOk x.x = true) : ∀ j (hj : j < x.ents.l.length), entOkM x.ents.l[j] = true := fun j hj => ((letOk_iff _).1 h).ents.2 _ (List.mem_map.2 ⟨_, List.getElem_mem hj, rfl⟩)
theorem let_all (x : LetM) (h1 : ∀ n ∈ topNs x, 0 ≤ n ∧ n ≤ 1073741824) (h2 : ((1 ≤ x.kind ∧ x.kind ≤ 8) ∧ (0 ≤ x.group ∧ x.group ≤ 4) ∧ (1 ≤ x.src ∧ x.src ≤ 5) ∧ (1 ≤ x.dst ∧ x.dst ≤ 5)) ∧ (0 ≤ x.tag ∧ x.tag ≤ 4611686018427387903) ∧ x.ents.l.length ≤ 30 ∧ x.bytes.l.length ≤ 131072)
    (h3 : basOk x.base.x = true) (h4 : ∀ j (hj : j < x.ents.l.length), entOkM x.ents.l[j] = true) : letOk x.x = true := by
  obtain ⟨⟨h8, h9, h10, h11⟩, h7, h12, h13⟩ := h2
  refine (letOk_iff _).2 ⟨⟨⟨h8, h9⟩, h10, h11⟩, ⟨⟨h1 _ ?_, h1 _ ?_⟩, ⟨h1 _ ?_, h1 _ ?_⟩, h1 _ ?_, h1 _ ?_⟩, h7, ⟨by show (x.ents.l.map EntM.x).length ≤ 30; rw [List.length_map]; exact h12, fun e he => ?_⟩, h3, h13⟩
  rotate_right
  · obtain ⟨y, hy, rfl⟩ := List.mem_map.1 he
    obtain ⟨j, hj, rfl⟩ := List.mem_iff_getElem.1 hy
    exact h4 j hj
  all_goals simp [topNs]
end Go.Proofs.Ytippdjaakcgeoaa
