/- Slices written out, of elements of many cells each. -/
import Derived.Test.YtippdjaakcgeoaaMid
namespace Go.Proofs.Ytippdjaakcgeoaa
open Go Go.RowKit

/-- Values put into an array, one behind the other. -/
theorem fold_set (v : List Value) : ∀ (j off : Nat) (cs : Array Value) (i : Nat), ((v.zipIdx j).foldl (fun (cs : Array Value) (p : Value × Nat) => cs.setIfInBounds (off + p.2) p.1) cs)[i]? =
    if off + j ≤ i ∧ i < off + j + v.length ∧ i < cs.size then v[i - (off + j)]? else cs[i]? := by
  induction v with
  | nil =>
    intro j off cs i
    rw [if_neg (by simp; omega)]
    rfl
  | cons c v ih =>
    intro j off cs i
    rw [List.zipIdx_cons, List.foldl_cons, ih (j + 1) off]
    simp only [List.length_cons, Array.size_setIfInBounds]
    rcases Nat.lt_trichotomy i (off + j) with h | h | h
    · rw [if_neg (by omega), if_neg (by omega), Array.getElem?_setIfInBounds_ne (by omega)]
    · subst h
      by_cases hs : off + j < cs.size
      · rw [if_neg (by omega), if_pos (by omega), Array.getElem?_setIfInBounds_self_of_lt hs, Nat.sub_self]
        rfl
      · rw [if_neg (by omega), if_neg (by omega), Array.getElem?_eq_none (by simp; omega), Array.getElem?_eq_none (by omega)]
    · by_cases hs : off + (j + 1) ≤ i ∧ i < off + (j + 1) + v.length ∧ i < cs.size
      · rw [if_pos hs, if_pos (by omega), show i - (off + j) = (i - (off + (j + 1))) + 1 by omega]
        rfl
      · rw [if_neg hs, if_neg (by omega), Array.getElem?_setIfInBounds_ne (by omega)]
theorem fill_rows (C : Nat) : ∀ (vs : List (List Value)) (k : Nat) (cs : Array Value), (∀ v ∈ vs, v.length = C) → cs.size = (k + vs.length) * C →
    Instr.fill (fun i => some (i * C, C)) cs ((vs.zipIdx k).map fun p => (p.2, Value.agg p.1.toArray)) = some (cs.toList.take (k * C) ++ vs.flatten).toArray := by
  intro vs
  induction vs with
  | nil =>
    intro k cs _ hs
    show some cs = _
    simp at hs
    rw [List.take_of_length_le (by simp [hs])]
    simp
  | cons v vs ih =>
    intro k cs hv hs
    have hvl := hv v (by simp)
    simp only [List.length_cons] at hs
    rw [List.zipIdx_cons, List.map_cons]
    unfold Instr.fill
    simp only
    have e1 : (Value.agg v.toArray).cells = v.toArray := rfl
    have hb : k * C + C ≤ cs.size := by
      rw [hs, ← Nat.succ_mul]
      exact Nat.mul_le_mul_right _ (by omega)
    rw [e1, if_neg (by simp [hvl]; omega)]
    have e2 : v.toArray.zipIdx.foldl (fun cs x => cs.setIfInBounds (k * C + x.2) x.1) cs = (v.zipIdx 0).foldl (fun (cs : Array Value) (p : Value × Nat) => cs.setIfInBounds (k * C + p.2) p.1) cs := by simp
    have e3 : ((v.zipIdx 0).foldl (fun (cs : Array Value) (p : Value × Nat) => cs.setIfInBounds (k * C + p.2) p.1) cs).size = cs.size := by
      have hg : ∀ (l : List (Value × Nat)) (c : Array Value), (l.foldl (fun (cs : Array Value) (p : Value × Nat) => cs.setIfInBounds (k * C + p.2) p.1) c).size = c.size := fun l => by
        induction l with
        | nil => intro c; rfl
        | cons x l ih => intro c; rw [List.foldl_cons, ih]; simp
      exact hg _ _
    have e4 := ih (k + 1) ((v.zipIdx 0).foldl (fun (cs : Array Value) (p : Value × Nat) => cs.setIfInBounds (k * C + p.2) p.1) cs) (fun x hx => hv x (by simp [hx])) (by rw [e3, hs]; congr 1; omega)
    refine Eq.trans ?_ (e4.trans ?_)
    · rw [← e2]
    · congr 2
      rw [List.flatten_cons, ← List.append_assoc]
      congr 1
      refine List.ext_getElem? fun i => ?_
      rw [List.getElem?_take, List.getElem?_append, List.getElem?_take]
      have e5 : ((v.zipIdx 0).foldl (fun (cs : Array Value) (p : Value × Nat) => cs.setIfInBounds (k * C + p.2) p.1) cs).toList[i]? = if k * C + 0 ≤ i ∧ i < k * C + 0 + v.length ∧ i < cs.size then v[i - (k * C + 0)]? else cs[i]? := by
        rw [Array.getElem?_toList]
        exact fold_set v 0 (k * C) cs i
      rw [e5, hvl]
      have hlt : (List.take (k * C) cs.toList).length = k * C := by simp; omega
      rw [hlt, Nat.succ_mul]
      simp only [Nat.add_zero, Array.getElem?_toList]
      by_cases h1 : i < k * C
      · rw [if_pos (by omega), if_neg (by omega), if_pos h1, if_pos h1]
      · by_cases h2 : i < k * C + C
        · rw [if_pos h2, if_pos (by omega), if_neg h1]
        · rw [if_neg h2, if_neg h1, List.getElem?_eq_none (by omega)]
theorem run_build {P : Program} (w : World) (t E : TypeId) (C : Nat) (vs : List (List Value)) (z : Value) (ht : P.underlying t = some (.slice E)) (hinfo : (P.info? E).map (fun i => (i.zero, i.size)) = some (some z, C))
    (hn0 : 0 < vs.length) (hC : 0 < C) (hl : ∀ v ∈ vs, v.length = C) (hsz : vs.length * C ≤ 16777216) :
    (Instr.buildSlice t vs.length ((vs.zipIdx 0).map fun p => (p.2, Value.agg p.1.toArray)).toArray).run P w = .ok (.slice (some ⟨w.heap.size, 0, none⟩) vs.length vs.length) (w.alloc (.cells vs.flatten.toArray E)) := by
  have hne : ¬ vs.length * C = 0 := Nat.ne_of_gt (Nat.mul_pos hn0 hC)
  have hle : ¬ vs.length * C > 2 ^ 24 := by show ¬ vs.length * C > 16777216; omega
  cases hi : P.info? E with
  | none => rw [hi] at hinfo; cases hinfo
  | some i =>
    rw [hi] at hinfo
    simp only [Option.map_some, Option.some.injEq, Prod.mk.injEq] at hinfo
    obtain ⟨hz, hs⟩ := hinfo
    have hf := fill_rows C vs 0 ((Array.range (vs.length * C)).map fun k => z.cells[k % z.cells.size]!) hl (by simp)
    rw [Nat.zero_mul, List.take_zero, List.nil_append] at hf
    simp [Instr.buildSlice, run_underlying ht, sizeOf, typeInfo, hi, hs, hle, hne, zeroValue, hz, hf, newRow]
section
variable {P : Program} {w : World} {ops : Array Oper} {rest : List Oper} {o : Oper} {a : Act} {Q : Exit → Act → World → Prop}
/-- The walk over a slice written out. -/
theorem wl_build (hgd : o.guard = none) {E : TypeId} (t : TypeId) (n : Nat) (ps : List (Nat × Operand)) (C : Nat) (vs : List (List Value)) (z : Value) (ho : o.op = .buildSlice t n ps.toArray) (ht : P.underlying t = some (.slice E)) (hinfo : (P.info? E).map (fun i => (i.zero, i.size)) = some (some z, C))
    (hn : vs.length = n) (hn0 : 0 < n) (hC : 0 < C) (hl : ∀ v ∈ vs, v.length = C) (hsz : n * C ≤ 16777216)
    (hp : (ps.map fun (i, x) => (i, a.eval x)) = (vs.zipIdx 0).map fun p => (p.2, Value.agg p.1.toArray))
    (h : ∀ g w', g = w.heap.size → w' = w.alloc (.cells vs.flatten.toArray E) → wpList P ops Q rest (a.put o.dst (.slice (some ⟨g, 0, none⟩) n n)) w') : wpList P ops Q (o :: rest) a w := by
  refine wpList_plain hgd fun K hK => ?_
  subst hn
  unfold Oper.wp execOp
  simp only [ho, List.map_toArray, hp]
  rw [Sem.run_bind, run_build w t E C vs z ht hinfo hn0 hC hl hsz]
  exact hK _ _ (h _ _ rfl rfl)
/-- The same, behind a guard that says yes. -/
theorem wl_buildw (hw : Region.wanted o (yielded ops a.tmps) = true) {E : TypeId} (t : TypeId) (n : Nat) (ps : List (Nat × Operand)) (C : Nat) (vs : List (List Value)) (z : Value) (ho : o.op = .buildSlice t n ps.toArray) (ht : P.underlying t = some (.slice E)) (hinfo : (P.info? E).map (fun i => (i.zero, i.size)) = some (some z, C))
    (hn : vs.length = n) (hn0 : 0 < n) (hC : 0 < C) (hl : ∀ v ∈ vs, v.length = C) (hsz : n * C ≤ 16777216)
    (hp : (ps.map fun (i, x) => (i, a.eval x)) = (vs.zipIdx 0).map fun p => (p.2, Value.agg p.1.toArray))
    (h : ∀ g w', g = w.heap.size → w' = w.alloc (.cells vs.flatten.toArray E) → wpList P ops Q rest (a.put o.dst (.slice (some ⟨g, 0, none⟩) n n)) w') : wpList P ops Q (o :: rest) a w := by
  refine BigFrame.wpList_want hw fun K hK => ?_
  subst hn
  unfold Oper.wp execOp
  simp only [ho, List.map_toArray, hp]
  rw [Sem.run_bind, run_build w t E C vs z ht hinfo hn0 hC hl hsz]
  exact hK _ _ (h _ _ rfl rfl)
end
end Go.Proofs.Ytippdjaakcgeoaa
