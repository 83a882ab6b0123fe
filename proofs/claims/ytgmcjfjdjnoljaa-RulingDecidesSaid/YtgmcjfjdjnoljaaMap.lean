/- A map of the call's own whose keys are names, as a table: what it has under a name, and how many names. -/
import Derived.Test.YtgmcjfjdjnoljaaMemB
import Derived.Test.YtgmcjfjdjnoljaaPast
import Derived.Maps.OwnSet
import Derived.Maps.Views
import Derived.DeepKeys4
import Derived.WideKeyPair
namespace Go.Proofs.Ytgmcjfjdjnoljaa
open Go Go.RowKit

/-- How a value of a table is kept: as it is. -/
def heldV (v : Value) : Option (DataW Value × List MemPlace) := some (.held v, [])
/-- A name as a key. -/
abbrev nmKey (n : Nm) : Value := .agg #[.int .i64 n.1, .int .i64 n.2]
/-- A name's numbers are numbers of the machine. -/
def NmWf (n : Nm) : Prop := (Lit.int .i64 n.1).wf = true ∧ (Lit.int .i64 n.2).wf = true
structure NameKey (P : Program) (k : TypeId) : Prop where
  law : Maps.Keyed P k
  key : ∀ n, NmWf n → ∃ kl, keyOf P k (nmKey n) = some kl
/-- Block b is a map of s names: what it has under a name is f's. -/
def MapN (P : Program) (k : TypeId) (w : World) (b s : Nat) (f : Nm → Option Value) : Prop :=
  ∃ D : DataW Value, w.ownsMap P k heldV b s D ∧ Maps.size D = s ∧ ∀ n kl, keyOf P k (nmKey n) = some kl → Maps.has D kl = (f n).isSome ∧ ∀ v, f n = some v → ∀ z, D.atKey kl z = .held v
section
variable {P : Program} {k e t : TypeId} {w w' : World} {b s : Nat} {f : Nm → Option Value} {S : Nat → Prop}
theorem MapN.lt (h : MapN P k w b s f) : b < w.heap.size := by
  obtain ⟨D, h1, _⟩ := h
  exact h1.lt
theorem MapN.fr (h : MapN P k w b s f) (hf : Fr S w w') (hn : ¬ S b) : MapN P k w' b s f := by
  have hb := h.lt
  obtain ⟨D, ⟨es, clock, h1, h2⟩, h3⟩ := h
  exact ⟨D, ⟨es, clock, (hf.block b hb hn).trans h1, h2⟩, h3⟩
theorem MapN.made (w : World) (hz : Maps.size (.map [] : DataW Value) = 0) : MapN P k (w.alloc (.map #[] 0)) w.heap.size 0 (fun _ => none) := by
  refine ⟨.map [], World.ownsMap_made w P k heldV, hz, fun n kl _ => ⟨by rw [Maps.has_eq]; rfl, fun v hv => by cases hv⟩⟩
theorem MapN.look (h : MapN P k w b s f) (K : NameKey P k) (ht : P.underlying t = some (.map k e)) {z : Value} (hz : (zeroValue e).run P w = .ok z w) (n : Nm) (hn : NmWf n) :
    (Instr.lookup t (.map (some b)) (nmKey n) true).run P w = .ok (.tuple #[(f n).getD z, .bool (f n).isSome]) w := by
  obtain ⟨D, h1, _, h3⟩ := h
  obtain ⟨kl, hk⟩ := K.key n hn
  obtain ⟨v, ps, hrun, hv⟩ := h1.look_ok K.law ht hz (zd := .held z) (zp := []) rfl hk
  rw [hrun]
  obtain ⟨h4, h5⟩ := h3 n kl hk
  rw [h4]
  have e : v = (f n).getD z := by
    unfold heldV at hv
    injection hv with hv
    injection hv with hv _
    cases hf : f n with
    | some u =>
      rw [h5 u hf] at hv
      injection hv with hv
    | none =>
      rw [Maps.atKey_of_not_has (by rw [h4, hf]; rfl)] at hv
      injection hv with hv
  rw [e]
theorem MapN.look1 (h : MapN P k w b s f) (K : NameKey P k) (ht : P.underlying t = some (.map k e)) {z : Value} (hz : (zeroValue e).run P w = .ok z w) (n : Nm) (hn : NmWf n) :
    (Instr.lookup t (.map (some b)) (nmKey n) false).run P w = .ok ((f n).getD z) w := by
  obtain ⟨D, h1, _, h3⟩ := h
  obtain ⟨kl, hk⟩ := K.key n hn
  obtain ⟨v, ps, hrun, hv⟩ := h1.lookup K.law ht hz (zd := .held z) (zp := []) rfl hk
  rw [hrun]
  obtain ⟨h4, h5⟩ := h3 n kl hk
  have e : v = (f n).getD z := by
    unfold heldV at hv
    injection hv with hv
    injection hv with hv _
    cases hf : f n with
    | some u =>
      rw [h5 u hf] at hv
      injection hv with hv
    | none =>
      rw [Maps.atKey_of_not_has (by rw [h4, hf]; rfl)] at hv
      injection hv with hv
  rw [e]
/-- A new name put. -/
theorem MapN.put (h : MapN P k w b s f) (K : NameKey P k) (ht : P.underlying t = some (.map k e)) (hs : s < maxLen) (n : Nm) (hn : NmWf n) (hf : f n = none) (v : Value) :
    ∃ w', (Instr.mapUpdate t (.map (some b)) (nmKey n) v).run P w = .ok () w' ∧ MapN P k w' b (s + 1) (fun x => if x = n then some v else f x) ∧ Fr (· = b) w w' := by
  obtain ⟨D, h1, h2, h3⟩ := h
  obtain ⟨kl, hk⟩ := K.key n hn
  obtain ⟨w', hrun, h4, h5⟩ := h1.update K.law ht hs hk (val := v) (d := .held v) (ps := []) rfl
  have hno : Maps.has D kl = false := by rw [(h3 n kl hk).1, hf]; rfl
  refine ⟨w', hrun, ⟨_, h4, ?_, ?_⟩, ⟨h5.os, h5.tape, h5.output, h5.size, fun i hi hne => h5.block i hi (fun e => hne (Option.some.inj e))⟩⟩
  · rw [Maps.size_put (h1.tidy K.law), hno, h2]
    rfl
  · intro m ml hm
    dsimp only
    by_cases he : m = n
    · subst he
      rw [hk] at hm
      injection hm with hm
      subst hm
      refine ⟨by rw [if_pos rfl, Maps.has_put_same h1.isMap (K.law.key hk)]; rfl, fun u hu z => ?_⟩
      rw [if_pos rfl] at hu
      injection hu with hu
      subst hu
      exact Maps.atKey_put_same h1.isMap (K.law.key hk) _ _
    · have hne : ml ≠ kl := by
        rintro rfl
        have := K.law.inj hm hk
        apply he
        injection this with this
        have h6 := congrArg Array.toList this
        simp only [List.cons.injEq, Value.int.injEq, true_and, and_true] at h6
        exact Prod.ext h6.1 h6.2
      rw [if_neg he, Maps.has_put_other hne]
      refine ⟨(h3 m ml hm).1, fun u hu z => ?_⟩
      rw [Maps.atKey_put_other hne]
      exact (h3 m ml hm).2 u hu z
theorem MapN.len (h : MapN P k w b s f) (ht : P.underlying t = some (.map k e)) (ty : TypeId) : (Builtin.len_ #[t] ty #[.map (some b)]).run P w = .ok (.int .i64 (s : Nat)) w := by
  obtain ⟨D, h1, h2, _⟩ := h
  rw [h1.len ht ty, h2]
end
end Go.Proofs.Ytgmcjfjdjnoljaa
