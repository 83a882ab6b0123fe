/- A map of the call's own whose keys are bytes, as a table. -/
import Derived.Test.YtfglibkffcogcaaGreatMemB
import Derived.Maps.OwnSet
import Derived.Maps.Views
namespace Go.Proofs.YtfglibkffcogcaaGreat
open Go Go.RowKit

/-- How a value of a table is kept: as it is. -/
def heldV (v : Value) : Option (DataW Value × List MemPlace) := some (.held v, [])
/-- A byte as a key. -/
abbrev u8Key (n : Int) : Value := .int .u8 n
def U8Wf (n : Int) : Prop := (Lit.int .u8 n).wf = true
structure U8MapKey (P : Program) (k : TypeId) : Prop where
  law : Maps.Keyed P k
  key : ∀ n, U8Wf n → ∃ kl, keyOf P k (u8Key n) = some kl
theorem U8MapKey.of {P : Program} {k : TypeId} (hk : P.underlying k = some (.int .u8)) : U8MapKey P k := ⟨Maps.int_keyed hk, fun _ h => ⟨_, Maps.keyOf_int_mk hk h⟩⟩
theorem u8Wf {n : Int} (h : 0 ≤ n ∧ n ≤ 255) : U8Wf n := WalkArith.wf_u8 h
/-- Block b is a map of s names: what it has under a name is f's. -/
def MapU (P : Program) (k : TypeId) (w : World) (b s : Nat) (f : Int → Option Value) : Prop :=
  ∃ D : DataW Value, w.ownsMap P k heldV b s D ∧ Maps.size D = s ∧ ∀ n kl, keyOf P k (u8Key n) = some kl → Maps.has D kl = (f n).isSome ∧ ∀ v, f n = some v → ∀ z, D.atKey kl z = .held v
section
variable {P : Program} {k e t : TypeId} {w w' : World} {b s : Nat} {f : Int → Option Value} {S : Nat → Prop}
theorem MapU.lt (h : MapU P k w b s f) : b < w.heap.size := by
  obtain ⟨D, h1, _⟩ := h
  exact h1.lt
theorem MapU.fr (h : MapU P k w b s f) (hf : Fr S w w') (hn : ¬ S b) : MapU P k w' b s f := by
  have hb := h.lt
  obtain ⟨D, ⟨es, clock, h1, h2⟩, h3⟩ := h
  exact ⟨D, ⟨es, clock, (hf.block b hb hn).trans h1, h2⟩, h3⟩
theorem MapU.made (w : World) (hz : Maps.size (.map [] : DataW Value) = 0) : MapU P k (w.alloc (.map #[] 0)) w.heap.size 0 (fun _ => none) := by
  refine ⟨.map [], World.ownsMap_made w P k heldV, hz, fun n kl _ => ⟨by rw [Maps.has_eq]; rfl, fun v hv => by cases hv⟩⟩
theorem MapU.look (h : MapU P k w b s f) (K : U8MapKey P k) (ht : P.underlying t = some (.map k e)) {z : Value} (hz : (zeroValue e).run P w = .ok z w) (n : Int) (hn : U8Wf n) :
    (Instr.lookup t (.map (some b)) (u8Key n) true).run P w = .ok (.tuple #[(f n).getD z, .bool (f n).isSome]) w := by
  obtain ⟨D, h1, _, h3⟩ := h
  obtain ⟨kl, hk⟩ := K.key n hn
  obtain ⟨v, ps, hrun, hv⟩ := h1.look_ok K.law ht hz (zd := .held z) (zp := []) rfl hk
  rw [hrun]
  obtain ⟨h4, h5⟩ := h3 n kl hk
  rw [h4]
  have e : v = (f n).getD z := by
    unfold heldV at hv
    injection hv with hv
    injection hv with hv _
    cases hf : f n with
    | some u =>
      rw [h5 u hf] at hv
      injection hv with hv
    | none =>
      rw [Maps.atKey_of_not_has (by rw [h4, hf]; rfl)] at hv
      injection hv with hv
  rw [e]
theorem MapU.look1 (h : MapU P k w b s f) (K : U8MapKey P k) (ht : P.underlying t = some (.map k e)) {z : Value} (hz : (zeroValue e).run P w = .ok z w) (n : Int) (hn : U8Wf n) :
    (Instr.lookup t (.map (some b)) (u8Key n) false).run P w = .ok ((f n).getD z) w := by
  obtain ⟨D, h1, _, h3⟩ := h
  obtain ⟨kl, hk⟩ := K.key n hn
  obtain ⟨v, ps, hrun, hv⟩ := h1.lookup K.law ht hz (zd := .held z) (zp := []) rfl hk
  rw [hrun]
  obtain ⟨h4, h5⟩ := h3 n kl hk
  have e : v = (f n).getD z := by
    unfold heldV at hv
    injection hv with hv
    injection hv with hv _
    cases hf : f n with
    | some u =>
      rw [h5 u hf] at hv
      injection hv with hv
    | none =>
      rw [Maps.atKey_of_not_has (by rw [h4, hf]; rfl)] at hv
      injection hv with hv
  rw [e]
/-- A new name put. -/
theorem MapU.put (h : MapU P k w b s f) (K : U8MapKey P k) (ht : P.underlying t = some (.map k e)) (hs : s < maxLen) (n : Int) (hn : U8Wf n) (hf : f n = none) (v : Value) :
    ∃ w', (Instr.mapUpdate t (.map (some b)) (u8Key n) v).run P w = .ok () w' ∧ MapU P k w' b (s + 1) (fun x => if x = n then some v else f x) ∧ Fr (· = b) w w' := by
  obtain ⟨D, h1, h2, h3⟩ := h
  obtain ⟨kl, hk⟩ := K.key n hn
  obtain ⟨w', hrun, h4, h5⟩ := h1.update K.law ht hs hk (val := v) (d := .held v) (ps := []) rfl
  have hno : Maps.has D kl = false := by rw [(h3 n kl hk).1, hf]; rfl
  refine ⟨w', hrun, ⟨_, h4, ?_, ?_⟩, ⟨h5.os, h5.tape, h5.output, h5.size, fun i hi hne => h5.block i hi (fun e => hne (Option.some.inj e))⟩⟩
  · rw [Maps.size_put (h1.tidy K.law), hno, h2]
    rfl
  · intro m ml hm
    dsimp only
    by_cases he : m = n
    · subst he
      rw [hk] at hm
      injection hm with hm
      subst hm
      refine ⟨by rw [if_pos rfl, Maps.has_put_same h1.isMap (K.law.key hk)]; rfl, fun u hu z => ?_⟩
      rw [if_pos rfl] at hu
      injection hu with hu
      subst hu
      exact Maps.atKey_put_same h1.isMap (K.law.key hk) _ _
    · have hne : ml ≠ kl := by
        rintro rfl
        have := K.law.inj hm hk
        apply he
        injection this
      rw [if_neg he, Maps.has_put_other hne]
      refine ⟨(h3 m ml hm).1, fun u hu z => ?_⟩
      rw [Maps.atKey_put_other hne]
      exact (h3 m ml hm).2 u hu z
theorem MapU.len (h : MapU P k w b s f) (ht : P.underlying t = some (.map k e)) (ty : TypeId) : (Builtin.len_ #[t] ty #[.map (some b)]).run P w = .ok (.int .i64 (s : Nat)) w := by
  obtain ⟨D, h1, h2, _⟩ := h
  rw [h1.len ht ty, h2]
end
end Go.Proofs.YtfglibkffcogcaaGreat
