/- What comes in: names, rows of names. -/
import Derived.Test.YtoapobgnfgfobaaFrmB
import Derived.Test.YtoapobgnfgfobaaPsB
namespace Go.Proofs.Ytoapobgnfgfobaa
open Go Go.RowKit Go.ChangeShapes Go.WideShapes Go.Deep

/-- Values that are slices of names, one by one. -/
def NamesV (w : World) (F : Nat → Prop) (v : Value) (l : List Nm) : Prop := ∃ A c, v = .slice A l.length c ∧ l.length ≤ c ∧ c ≤ maxLen ∧ Sl w F A (nmCells l)
theorem NamesV.fr {w w' : World} {F S : Nat → Prop} {v : Value} {l : List Nm} (h : NamesV w F v l) (hf : Fr S w w') (hn : ∀ b, F b → ¬ S b) : NamesV w' F v l := by
  obtain ⟨A, c, e, h1, h2, h3⟩ := h
  exact ⟨A, c, e, h1, h2, h3.fr hf hn⟩
def RowsN (w : World) (F : Nat → Prop) (vs : List Value) (rs : List (List Nm)) : Prop := vs.length = rs.length ∧ ∀ k (h : k < rs.length), ∃ v, vs[k]? = some v ∧ NamesV w F v rs[k]
theorem RowsN.fr {w w' : World} {F S : Nat → Prop} {vs : List Value} {rs : List (List Nm)} (h : RowsN w F vs rs) (hf : Fr S w w') (hn : ∀ b, F b → ¬ S b) : RowsN w' F vs rs :=
  ⟨h.1, fun k hk => by obtain ⟨v, e, hv⟩ := h.2 k hk; exact ⟨v, e, hv.fr hf hn⟩⟩

theorem i64_of_wf {n : Int} (h : (Lit.int .i64 n).wf = true) : -9223372036854775808 ≤ n ∧ n ≤ 9223372036854775807 := by
  simpa [Lit.wf, IntKind.min, IntKind.max, IntKind.signed, IntKind.bits] using h

section
variable {H : Type} {enc : TypeId × Value → H} {P : Program} {w : World} {held : Bool} {base : Nat}
theorem in_names {t e : TypeId} {f0 f1 : Field} {fuel : Nat} {cs : List Value} {x : DataW H × List MemPlace} (ht : P.underlying t = some (.slice e)) (he : P.underlying e = some (.struct #[f0, f1]))
    (o0 : f0.offset = 0) (o1 : f1.offset = 1) (k0 : P.cellsOf f0.type = 1) (k1 : P.cellsOf f1.type = 1) (u0 : P.underlying f0.type = some (.int .i64)) (u1 : P.underlying f1.type = some (.int .i64)) (hc : P.cellsOf e = 2)
    (h : DataW.trod enc P w base (fun _ => true) held fuel t cs = some x) (hw : Lighter P t x.1) :
    ∃ (A : Option Addr) (c : Nat) (l : List Nm), cs = [.slice A l.length c] ∧ l.length ≤ c ∧ c ≤ maxLen ∧ c * P.bytesOf e ≤ reachBytes ∧ Sl w (· < w.heap.size) A (nmCells l) := by
  obtain ⟨A, c, l, h1, h2, h3, h4, h5, _⟩ := in_many (fun x : Nm => [I64 x.1, I64 x.2]) (fun _ => True) 2 (by omega) ht hc h hw fun n cs' d pl hd hlen _ => by
    obtain ⟨xs, m, _, _, _, hxl, hf⟩ := DataW.trod_struct he hd
    have hf0 := hf 0 f0 rfl
    have hf1 := hf 1 f1 rfl
    rw [o0, k0] at hf0
    rw [o1, k1] at hf1
    match cs', hlen with
    | [v0, v1], _ =>
      simp only [List.drop_zero, List.take_succ_cons, List.take_zero, List.drop_succ_cons] at hf0 hf1
      have hx0 : xs[0]? = some (xs[0]'(by simp [hxl])) := List.getElem?_eq_getElem _
      have hx1 : xs[1]? = some (xs[1]'(by simp [hxl])) := List.getElem?_eq_getElem _
      rw [hx0] at hf0
      rw [hx1] at hf1
      obtain ⟨z0, hz0, _, _⟩ := DataW.trod_int u0 hf0
      obtain ⟨z1, hz1, _, _⟩ := DataW.trod_int u1 hf1
      simp at hz0 hz1
      exact ⟨(z0, z1), by rw [hz0, hz1], trivial⟩
  exact ⟨A, c, l, h1, h2, h3, h4, h5⟩
theorem in_nmrows {t q e : TypeId} {f0 f1 : Field} {fuel : Nat} {cs : List Value} {x : DataW H × List MemPlace} (ht : P.underlying t = some (.slice q)) (hq : P.underlying q = some (.slice e)) (he : P.underlying e = some (.struct #[f0, f1]))
    (o0 : f0.offset = 0) (o1 : f1.offset = 1) (k0 : P.cellsOf f0.type = 1) (k1 : P.cellsOf f1.type = 1) (u0 : P.underlying f0.type = some (.int .i64)) (u1 : P.underlying f1.type = some (.int .i64)) (hc : P.cellsOf e = 2) (hcq : P.cellsOf q = 1)
    (h : DataW.trod enc P w base (fun _ => true) held fuel t cs = some x) (hw : Lighter P t x.1) :
    ∃ (A : Option Addr) (c : Nat) (vs : List Value) (l : List (List Nm)), cs = [.slice A l.length c] ∧ l.length ≤ c ∧ c ≤ maxLen ∧ c * P.bytesOf q ≤ reachBytes ∧ Sl w (· < w.heap.size) A vs ∧ RowsN w (· < w.heap.size) vs l ∧ ∀ x ∈ l, x.length * P.bytesOf e ≤ reachBytes := by
  obtain ⟨A, c, l, h1, h2, h3, h4, h5, h6⟩ := in_list (α := Value × List Nm) Prod.fst (fun x => NamesV w (· < w.heap.size) x.1 x.2 ∧ x.2.length * P.bytesOf e ≤ reachBytes) ht hcq h hw fun n v d pl hd hwt => by
    obtain ⟨A, c, l, h1, h2, h3, h4, h5⟩ := in_names hq he o0 o1 k0 k1 u0 u1 hc hd hwt
    simp at h1
    exact ⟨(v, l), rfl, ⟨A, c, h1, h2, h3, h5⟩, Nat.le_trans (Nat.mul_le_mul_right _ h2) h4⟩
  refine ⟨A, c, l.map Prod.fst, l.map Prod.snd, by simpa using h1, by simpa using h2, h3, h4, h5, ⟨by simp, fun k hk => ?_⟩, fun x hx => ?_⟩
  · have hk' : k < l.length := by simpa using hk
    exact ⟨(l[k]).1, by simp [hk'], by simpa using (h6 _ (List.getElem_mem hk')).1⟩
  · obtain ⟨y, hy, rfl⟩ := List.mem_map.1 hx
    exact (h6 y hy).2
end
end Go.Proofs.Ytoapobgnfgfobaa
