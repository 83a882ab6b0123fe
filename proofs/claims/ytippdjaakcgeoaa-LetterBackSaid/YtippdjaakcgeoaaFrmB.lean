/- What comes in: slices of elements of whatever many cells. -/
import Derived.Test.YtippdjaakcgeoaaFrm
namespace Go.Proofs.Ytippdjaakcgeoaa
open Go Go.RowKit Go.ChangeShapes Go.WideShapes Go.Deep

theorem flat_len {α : Type} (f : α → List Value) (C : Nat) (l : List α) (hC : ∀ x ∈ l, (f x).length = C) : ((l.map f).flatten).length = l.length * C := by
  induction l with
  | nil => simp
  | cons x l ih =>
    simp only [List.map_cons, List.flatten_cons, List.length_append, List.length_cons]
    rw [ih (fun y hy => hC y (by simp [hy])), hC x (by simp), Nat.succ_mul, Nat.add_comm]
theorem flat_at {α : Type} (f : α → List Value) (C : Nat) (l : List α) (hC : ∀ x ∈ l, (f x).length = C) (i j : Nat) (hi : i < l.length) (hj : j < C) : ((l.map f).flatten)[i * C + j]? = (f l[i])[j]? := by
  induction l generalizing i with
  | nil => simp at hi
  | cons x l ih =>
    simp only [List.map_cons, List.flatten_cons]
    have hx := hC x (by simp)
    cases i with
    | zero =>
      rw [Nat.zero_mul, Nat.zero_add, List.getElem?_append_left (by omega)]
      rfl
    | succ i =>
      rw [List.getElem?_append_right (by rw [Nat.succ_mul]; omega), hx]
      have e : (i + 1) * C + j - C = i * C + j := by rw [Nat.succ_mul]; omega
      rw [e, ih (fun y hy => hC y (by simp [hy])) i (by simpa using hi)]
      rfl

section
variable {H : Type} {enc : TypeId × Value → H} {P : Program} {w : World} {held : Bool} {base : Nat}
/-- A slice that came in, its elements of so many cells each. -/
theorem in_many {α : Type} [Inhabited α] (f : α → List Value) (Q : α → Prop) {t e : TypeId} {fuel : Nat} {cs : List Value} {x : DataW H × List MemPlace} (C : Nat) (hC0 : 0 < C) (ht : P.underlying t = some (.slice e)) (hc : P.cellsOf e = C)
    (h : DataW.trod enc P w base (fun _ => true) held fuel t cs = some x) (hw : Lighter P t x.1)
    (each : ∀ n cs' d pl, DataW.trod enc P w base (fun _ => true) held n e cs' = some (d, pl) → cs'.length = C → Lighter P e d → ∃ x, cs' = f x ∧ Q x) :
    ∃ (A : Option Addr) (c : Nat) (l : List α), cs = [.slice A l.length c] ∧ l.length ≤ c ∧ c ≤ maxLen ∧ c * P.bytesOf e ≤ reachBytes ∧ Sl w (· < w.heap.size) A ((l.map f).flatten) ∧ (∀ x ∈ l, (f x).length = C) ∧ ∀ x ∈ l, Q x := by
  rcases open_slice ht h with ⟨rfl, rfl⟩ | ⟨a, len, cap, m, n, D, Pl, rfl, _, hl, hm, hmm, rfl, hx⟩
  · exact ⟨none, 0, [], rfl, Nat.le_refl _, by decide, by simp [reachBytes], .inl rfl, by simp, by simp⟩
  · simp only [if_true] at hmm
    subst hmm
    rw [hc] at hx
    have hsz : m * P.bytesOf e ≤ reachBytes := by
      have := hw ((len + (m - len)) * P.bytesOf e) (by simp [DataW.weights, ht])
      rwa [show len + (m - len) = m by omega] at this
    have hel : ∀ i, i < len → ∃ x : α, (w.cells? base (a.add (i * C)) C = some (f x)) ∧ (f x).length = C ∧ Q x := fun i hi => by
      obtain ⟨cs', h1, h2⟩ := hx i (by omega)
      obtain ⟨_, hlen, _⟩ := World.cells?_some h1
      obtain ⟨x, rfl, hq⟩ := each n cs' (D i) (Pl i) h2 hlen fun k hk => hw k (by
        simp only [DataW.weights, ht, List.mem_cons, List.mem_append]
        exact .inr (.inl (weightsAll_mem (List.mem_map.2 ⟨i, List.mem_range.2 hi, rfl⟩) k hk)))
      exact ⟨x, h1, hlen, hq⟩
    obtain ⟨X, hX⟩ := choose_lt (α := α) (p := fun i x => (w.cells? base (a.add (i * C)) C = some (f x)) ∧ (f x).length = C ∧ Q x) hel
    have hC : ∀ x ∈ (List.range len).map X, (f x).length = C := fun x hxm => by
      obtain ⟨i, hi, rfl⟩ := List.mem_map.1 hxm
      exact (hX i (List.mem_range.1 hi)).2.1
    refine ⟨some a, m, (List.range len).map X, by simp, by simpa using hl, hm, hsz, ?_, hC, fun x hxm => ?_⟩
    · by_cases hz : len = 0
      · subst hz; exact .inl rfl
      · have h0 := (World.cells?_some (hX 0 (by omega)).1).2.2 0 hC0
        have hl0 := (hX 0 (by omega)).2.1
        rw [show (a.add (0 * C)).add 0 = a by rw [Nat.zero_mul]; rfl, List.getElem?_eq_getElem (by omega)] at h0
        obtain ⟨hs, hb⟩ := spot_none h0
        obtain ⟨b, o, s⟩ := a
        simp only at hs hb
        subst hs
        refine .inr ⟨b, o, rfl, hb, hb, fun j u hu => ?_⟩
        have hj : j < len * C := by
          rcases Nat.lt_or_ge j (len * C) with h | h
          · exact h
          · rw [List.getElem?_eq_none (by rw [flat_len f C _ hC]; simpa using h)] at hu; cases hu
        have hd : j = j / C * C + j % C := by rw [Nat.mul_comm]; exact (Nat.div_add_mod j C).symm
        have hi : j / C < len := by rw [Nat.div_lt_iff_lt_mul hC0]; exact hj
        have hr : j % C < C := Nat.mod_lt _ hC0
        have h1 := (World.cells?_some (hX (j / C) hi).1).2.2 (j % C) hr
        rw [Go.Deep.add_add, ← hd, Addr.add_lit] at h1
        rw [h1, ← hu]
        have h2 := flat_at f C ((List.range len).map X) hC (j / C) (j % C) (by simpa using hi) hr
        rw [← hd] at h2
        rw [h2]
        simp
    · obtain ⟨i, hi, rfl⟩ := List.mem_map.1 hxm
      exact (hX i (List.mem_range.1 hi)).2.2
end
end Go.Proofs.Ytippdjaakcgeoaa
