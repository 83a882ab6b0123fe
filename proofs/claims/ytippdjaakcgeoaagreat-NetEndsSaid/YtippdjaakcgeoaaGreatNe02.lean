/- Lemmas of the walks: NoA, Past, Map, NoB, Wire, Le, LeP, LeM, WrA, WrB, KitA, KitB. (Laid together by shake.py.) -/
import Derived.ArgAppend
import Derived.WalkKit
import Derived.Maps.OwnSet
import Derived.Maps.Views
import Derived.DeepKeys4
import Derived.WideKeyPair
import Derived.Maps.RangeWalk
import Derived.Test.YtippdjaakcgeoaaGreatProg
import Derived.Deep.QuietTactic
import Derived.BigQuiet
import Derived.Test.YtippdjaakcgeoaaGreatNe01
set_option linter.unusedVariables false
set_option linter.unusedSimpArgs false
namespace Go.Proofs.YtippdjaakcgeoaaGreat
open Go Go.RowKit

/-- A list of the call's own, from some place of its block to that block's end. -/
def OwnO (w : World) (E : TypeId) (z : Nat) (A : Option Addr) (n cap : Nat) (cs : List Value) : Prop :=
  cs.length = n * z ∧ ((A = none ∧ n = 0 ∧ cap = 0) ∨
    ∃ g o cur, A = some ⟨g, o, none⟩ ∧ Blk w g E cur ∧ n ≤ cap ∧ cap ≤ maxLen ∧ cur.size = o + cap * z ∧ (cur.toList.drop o).take (n * z) = cs)
section
variable {w w' : World} {E : TypeId} {z n cap : Nat} {A : Option Addr} {cs : List Value} {S F : Nat → Prop}
theorem Own.o (h : Own w E z A n cap cs) : OwnO w E z A n cap cs := by
  refine ⟨h.1, ?_⟩
  rcases h.2 with h2 | ⟨g, cur, rfl, hb, h1, h2, h3, h4⟩
  · exact .inl h2
  · exact .inr ⟨g, 0, cur, rfl, hb, h1, h2, by omega, by rw [List.drop_zero]; exact h4⟩
theorem OwnO.nil (w : World) (E : TypeId) (z : Nat) : OwnO w E z none 0 0 [] := (Own.nil w E z).o
theorem OwnO.fr (h : OwnO w E z A n cap cs) (hf : Fr S w w') (hn : ∀ k, inA A k → ¬ S k) : OwnO w' E z A n cap cs := by
  refine ⟨h.1, ?_⟩
  rcases h.2 with h2 | ⟨g, o, cur, rfl, hb, r⟩
  · exact .inl h2
  · exact .inr ⟨g, o, cur, rfl, hb.fr hf (hn g ((inA_some _ _).2 rfl)), r⟩
theorem OwnO.sl (h : OwnO w E z A n cap cs) : Sl w (inA A) A cs := by
  rcases h.2 with ⟨_, rfl, _⟩ | ⟨g, o, cur, rfl, hb, _, _, _, rfl⟩
  · exact .inl (List.eq_nil_of_length_eq_zero (by simpa using h.1))
  · exact (hb.sl o (n * z)).mono fun b hb' _ => (inA_some _ _).2 hb'
theorem OwnO.lt (h : OwnO w E z A n cap cs) : ∀ k, inA A k → k < w.heap.size := by
  intro k hk
  rcases h.2 with ⟨rfl, _⟩ | ⟨g, o, cur, rfl, hb, _⟩
  · exact (inA_none _ hk).elim
  · rw [(inA_some _ _).1 hk]; exact hb.lt
theorem OwnO.ne_ {g : Nat} {t : TypeId} {bs : Array Value} (h : OwnO w E z A n cap cs) (hb : Blk w g t bs) (hne : t ≠ E) : ¬ inA A g := by
  intro hk
  rcases h.2 with ⟨rfl, _⟩ | ⟨g', o, cur, rfl, hb', _⟩
  · exact inA_none _ hk
  · have := (inA_some _ _).1 hk
    subst this
    exact hne (hb.inj hb').1
theorem OwnO.cap_le (h : OwnO w E z A n cap cs) : n ≤ cap ∧ cap ≤ maxLen := by
  rcases h.2 with ⟨_, rfl, rfl⟩ | ⟨g, o, cur, rfl, hb, h1, h2, _⟩
  · exact ⟨Nat.le_refl _, Nat.zero_le _⟩
  · exact ⟨h1, h2⟩
/-- The list behind its first. -/
theorem OwnO.tail (h : OwnO w E z A n cap cs) (hn : 1 < n) : OwnO w E z (cutA A cap 1 z) (n - 1) (cap - 1) (cs.drop z) := by
  rcases h.2 with ⟨_, rfl, _⟩ | ⟨g, o, cur, rfl, hb, h1, h2, h3, h4⟩
  · omega
  have hne : ¬ cap = 1 := by omega
  have e : (n - 1) * z = n * z - z := by rw [Nat.sub_mul, Nat.one_mul]
  have e2 : (cap - 1) * z = cap * z - z := by rw [Nat.sub_mul, Nat.one_mul]
  have hz : z ≤ cap * z := Nat.le_mul_of_pos_left z (by omega)
  refine ⟨by rw [List.length_drop, h.1, e], .inr ⟨g, o + z, cur, ?_, hb, by omega, by omega, by rw [e2, h3]; omega, ?_⟩⟩
  · simp only [cutA, if_neg hne, Option.map_some, Addr.add_lit, Nat.one_mul]
  · rw [← h4, List.drop_take, List.drop_drop, e]
/-- What an append leaves: it had room, or it grew. -/
def AppO (w : World) (E : TypeId) (z : Nat) (A : Option Addr) (n _cap m : Nat) (cs news : List Value) (A' : Option Addr) (cap' : Nat) (w' : World) : Prop :=
  OwnO w' E z A' (n + m) cap' (cs ++ news) ∧ ((A' = A ∧ Fr (inA A) w w') ∨ (A' = some ⟨w.heap.size, 0, none⟩ ∧ Nw w w'))
theorem AppO.fr {m : Nat} {news : List Value} {A' : Option Addr} {cap' : Nat} (h : AppO w E z A n cap m cs news A' cap' w') : Fr (inA A) w w' := by
  rcases h.2 with ⟨_, h⟩ | ⟨_, h⟩
  · exact h
  · exact Nw.on h
theorem AppO.inA_ {m : Nat} {news : List Value} {A' : Option Addr} {cap' : Nat} (h : AppO w E z A n cap m cs news A' cap' w') : ∀ j, inA A' j → inA A j ∨ j = w.heap.size := by
  intro j hj
  rcases h.2 with ⟨rfl, _⟩ | ⟨rfl, _⟩
  · exact .inl hj
  · exact .inr ((inA_some _ _).1 hj)
theorem putL_mid (pre old new post : List Value) (hl : old.length = new.length) : putL (pre ++ old ++ post) pre.length new = pre ++ new ++ post := by
  induction new generalizing pre old with
  | nil =>
    have : old = [] := List.eq_nil_of_length_eq_zero (by simpa using hl)
    subst this
    rw [putL_nil]
  | cons v vs ih =>
    cases old with
    | nil => simp at hl
    | cons u us =>
      rw [putL_cons]
      have e1 : (pre ++ u :: us ++ post).set pre.length v = (pre ++ [v]) ++ us ++ post := by
        rw [List.append_assoc, List.set_append_right _ _ (Nat.le_refl _), Nat.sub_self]
        simp
      have e2 := ih (pre ++ [v]) us (by simpa using hl)
      rw [List.length_append, List.length_singleton] at e2
      rw [e1, e2]
      simp
theorem putL_size {cur : Array Value} {o : Nat} {vs : List Value} {k : Nat} (h : cur.size = k) : ((putL cur.toList o vs).toArray).size = k := by
  rw [List.size_toArray, putL_len, Array.length_toList, h]
theorem putL_take {l cs vs : List Value} {o k r : Nat} (h : (l.drop o).take k = cs) (hk : cs.length = k) (hl : o + k + vs.length ≤ l.length) (hr : (cs ++ vs).length = r) : (((putL l (o + k) vs).toArray).toList.drop o).take r = cs ++ vs := by
  have e0 : l = l.take o ++ cs ++ ((l.drop (o + k)).take vs.length) ++ l.drop (o + k + vs.length) := by
    rw [← h, List.append_assoc, List.append_assoc, ← List.drop_drop (i := vs.length) (j := o + k), List.take_append_drop, ← List.drop_drop (i := k) (j := o), List.take_append_drop, List.take_append_drop]
  have l1 : (l.take o ++ cs).length = o + k := by rw [List.length_append, List.length_take, hk]; omega
  have l2 : ((l.drop (o + k)).take vs.length).length = vs.length := by rw [List.length_take, List.length_drop]; omega
  have e1 := putL_mid (l.take o ++ cs) ((l.drop (o + k)).take vs.length) vs (l.drop (o + k + vs.length)) l2
  rw [← e0, l1] at e1
  have e2 : ((putL l (o + k) vs).toArray).toList = putL l (o + k) vs := rfl
  rw [e2, e1, List.append_assoc, List.append_assoc, List.drop_append_of_le_length (by rw [List.length_take]; omega), List.drop_eq_nil_of_le (by rw [List.length_take]; omega), List.nil_append, ← List.append_assoc, ← hr]
  exact List.take_left
variable {P : Program}
/-- 'append(s, x...)', s the call's own, from any place of its block. -/
theorem run_append_o (w : World) (t ty : TypeId) (bytes : Nat) (zv : Value) (ht : P.underlying t = some (.slice E))
    (hinfo : (P.info? E).map (fun i => (i.zero, i.size, i.bytes)) = some (some zv, z, bytes)) (hzs : zv.cells.size = z) (hsz : 0 < z)
    (hown : OwnO w E z A n cap cs) {A2 : Option Addr} {m c : Nat} {news : List Value} (hsl : Sl w F A2 news) (hl : news.length = m * z) (h1 : ∀ u ∈ news, u.oneCell' = true)
    (hbytes : (n + m) * bytes ≤ 140737488355328) (hmax : n + m ≤ maxLen) (hm : 0 < m) :
    ∃ A' cap' w', (Builtin.append_ #[t, t] ty #[.slice A n cap, .slice A2 m c]).run P w = .ok (.slice A' (n + m) cap') w' ∧ AppO w E z A n cap m cs news A' cap' w' := by
  rcases hown.2 with ⟨rfl, rfl, rfl⟩ | ⟨g, o, cur, rfl, hb, hnc, hcm, hsz2, htk⟩
  · have hx : cs = [] := List.eq_nil_of_length_eq_zero (by simpa using hown.1)
    subst hx
    obtain ⟨A', cap', w', hr, h2, _, h3⟩ := run_append_two (P := P) w t ty bytes zv ht hinfo hzs hsz (Own.nil w E z) hsl hl h1 hbytes hmax (c := c)
    refine ⟨A', cap', w', hr, h2.o, ?_⟩
    rcases h3 with ⟨_, e, _, hf⟩ | ⟨_, e, hf⟩
    · exact .inl ⟨e, hf⟩
    · exact .inr ⟨e, hf⟩
  · obtain ⟨i, hi, hz0, hz1, hz2⟩ := info_parts hinfo
    subst hz1
    subst hz2
    have hne : news ≠ [] := by
      rintro rfl
      have := Nat.mul_pos hm hsz
      simp at hl; omega
    obtain ⟨b, o2, rfl, _, _, hc⟩ := hsl.at_ hne
    have hcells : ∀ j u, news[j]? = some u → w.cell? ((⟨b, o2, none⟩ : Addr).add j) = some u := by
      intro j u hu
      rw [Addr.add_lit]
      exact hc j u hu
    have hlen : (cs ++ news).length = (n + m) * i.size := by rw [List.length_append, hown.1, hl, Nat.add_mul]
    have hsmall : n + m ≤ 9223372036854775807 := by simp only [maxLen] at hmax; omega
    by_cases hroom : n + m ≤ cap
    · have hfit : n * i.size + news.length ≤ cap * i.size := by rw [hl, ← Nat.add_mul]; exact Nat.mul_le_mul_right _ hroom
      have hth := Blk.there (l := cur.toList) hb (o + n * i.size) news.length (by have := Array.length_toList (xs := cur); omega)
      have hr := run_append_room_cells (P := P) w t ty E i ht hi g o n cap _ m c news hl hcells h1 hroom (fun j hj => (hth j hj).1) (fun j hj => (hth j hj).2)
      refine ⟨_, _, _, hr, ⟨hlen, .inr ⟨g, o, _, rfl, Blk.setCells (l := cur.toList) hb (o + n * i.size) news, hroom, hcm, ?_, ?_⟩⟩, .inl ⟨rfl, ?_⟩⟩
      · exact putL_size hsz2
      · exact putL_take htk hown.1 (by have := Array.length_toList (xs := cur); omega) hlen
      · exact (Fr.setCells (Fr.refl (· = g) w) _ _).mono fun k (hk : k = g) => .inl ((inA_some _ _).2 hk)
    · have hlt : cap < n + m := by omega
      have hge := grownCap_ge w (n + m) cap E
      have hcm2 : grownCap w (n + m) cap E ≤ maxLen := grownCap_le_maxLen w (n + m) cap E hmax
      have holds : ∀ j u, cs[j]? = some u → w.cell? ((⟨g, o, none⟩ : Addr).add j) = some u := by
        intro j u hu
        rcases hown.sl with h | ⟨b', o', h, _, _, hc'⟩
        · subst h; simp at hu
        · injection h with h
          injection h with h1 h2
          subst h1; subst h2
          rw [Addr.add_lit]
          exact hc' j u hu
      have hr := run_append_grow (P := P) w t ty E i zv ht hi hz0 ⟨g, o, none⟩ n cap cs hown.1 holds _ m c news hl hcells (by omega) (by omega) (growslice_fits (by omega) hbytes)
      refine ⟨_, _, _, hr, ⟨hlen, .inr ⟨w.heap.size, 0, _, rfl, heap_alloc_new w.drew _, hge, hcm2, ?_, ?_⟩⟩, .inr ⟨rfl, ((Fr.refl _ w).drew).alloc _⟩⟩
      · simp only [Array.size_append, List.size_toArray, size_zeroCells, hzs, hown.1, hl, ← Nat.add_mul]
        rw [Nat.zero_add]
        congr 1
        omega
      · rw [List.drop_zero]
        simp only [Array.toList_append, List.append_assoc]
        rw [← List.append_assoc, ← hlen]
        exact List.take_left
end
end Go.Proofs.YtippdjaakcgeoaaGreat

namespace Go.Proofs.YtippdjaakcgeoaaGreat
open Go Go.RowKit

/-- A name: the client's number, and its own. -/
abbrev Nm := Int × Int
def nmOk (x : Nm) : Prop := 1 ≤ x.1 ∧ x.1 ≤ 8 ∧ 1 ≤ x.2 ∧ x.2 ≤ 1073741824
instance (x : Nm) : Decidable (nmOk x) := by unfold nmOk; infer_instance
/-- The eight clients' numbers. -/
abbrev Pst := List Int
end Go.Proofs.YtippdjaakcgeoaaGreat

namespace Go.Proofs.YtippdjaakcgeoaaGreat
open Go Go.RowKit

/-- How a value of a table is kept: as it is. -/
def heldV (v : Value) : Option (DataW Value × List MemPlace) := some (.held v, [])
/-- A name as a key. -/
abbrev nmKey (n : Nm) : Value := .agg #[.int .i64 n.1, .int .i64 n.2]
/-- A name's numbers are numbers of the machine. -/
def NmWf (n : Nm) : Prop := (Lit.int .i64 n.1).wf = true ∧ (Lit.int .i64 n.2).wf = true
section
variable {P : Program} {k e t : TypeId} {w w' : World} {b s : Nat} {f : Nm → Option Value} {S : Nat → Prop}
end
end Go.Proofs.YtippdjaakcgeoaaGreat

namespace Go.Proofs.YtippdjaakcgeoaaGreat
open Go Go.RowKit Go.ChangeMaps
set_option linter.unusedVariables false

structure WayKey (P : Program) (k : TypeId) : Prop where
  law : Maps.Keyed P k
  key : ∀ n, NmWf n → ∃ kl, keyOf P k (nmKey n) = some kl
  inv : ∀ v kl, keyOf P k v = some kl → ∃ n, v = nmKey n ∧ NmWf n
theorem nmKey_inj {m n : Nm} (h : nmKey m = nmKey n) : m = n := by
  injection h with h
  have h6 := congrArg Array.toList h
  simp only [List.cons.injEq, Value.int.injEq, true_and, and_true] at h6
  exact Prod.ext h6.1 h6.2
/-- What a map's table says. -/
def TabW (P : Program) (k : TypeId) (D : DataW Value) (f : Nm → Option Value) : Prop :=
  ∀ n kl, keyOf P k (nmKey n) = some kl → Maps.has D kl = (f n).isSome ∧ ∀ v, f n = some v → ∀ z, D.atKey kl z = .held v
/-- Block b is a map into which at most s things were put: what it has under a key is f's. -/
def MapW (P : Program) (k : TypeId) (w : World) (b s : Nat) (f : Nm → Option Value) : Prop := ∃ D : DataW Value, w.ownsMap P k heldV b s D ∧ TabW P k D f
/-- Block r goes through it: vs were there already, cnt are to come. -/
def MapRg (P : Program) (k : TypeId) (w : World) (b r s : Nat) (f : Nm → Option Value) (vs : List Nm) (cnt : Nat) : Prop :=
  ∃ (D : DataW Value) (left : Lit → Bool), w.ranges P k heldV b r s D left cnt ∧ TabW P k D f ∧ ∀ n kl, keyOf P k (nmKey n) = some kl → left kl = ((f n).isSome && !(decide (n ∈ vs)))
section
variable {P : Program} {k e t : TypeId} {w w' : World} {b r s cnt : Nat} {f : Nm → Option Value} {S : Nat → Prop} {vs : List Nm}
theorem MapW.lt (h : MapW P k w b s f) : b < w.heap.size := by
  obtain ⟨D, h1, _⟩ := h
  exact h1.lt
theorem MapW.fr (h : MapW P k w b s f) (hf : Fr S w w') (hn : ¬ S b) : MapW P k w' b s f := by
  have hb := h.lt
  obtain ⟨D, ⟨es, clock, h1, h2⟩, h3⟩ := h
  exact ⟨D, ⟨es, clock, (hf.block b hb hn).trans h1, h2⟩, h3⟩
theorem MapW.more {s' : Nat} (h : MapW P k w b s f) (hs : s ≤ s') : MapW P k w b s' f := by
  obtain ⟨D, ⟨es, clock, h1, h2, h3, h4⟩, h5⟩ := h
  exact ⟨D, ⟨es, clock, h1, h2, Nat.le_trans h3 hs, h4⟩, h5⟩
theorem MapW.made (w : World) : MapW P k (w.alloc (.map #[] 0)) w.heap.size 0 (fun _ => none) :=
  ⟨.map [], World.ownsMap_made w P k heldV, fun n kl _ => ⟨by rw [Maps.has_eq]; rfl, fun v hv => by cases hv⟩⟩
theorem MapW.blk (h : MapW P k w b s f) {g : Nat} {t : TypeId} {cs : Array Value} (hg : Blk w g t cs) : b ≠ g := by
  rintro rfl
  obtain ⟨D, ⟨es, clock, h1, h2⟩, h3⟩ := h
  unfold Blk at hg
  rw [h1] at hg
  cases hg
theorem MapW.look1 (h : MapW P k w b s f) (K : WayKey P k) (ht : P.underlying t = some (.map k e)) {z : Value} (hz : (zeroValue e).run P w = .ok z w) (n : Nm) (hn : NmWf n) :
    (Instr.lookup t (.map (some b)) (nmKey n) false).run P w = .ok ((f n).getD z) w := by
  obtain ⟨D, h1, h3⟩ := h
  obtain ⟨kl, hk⟩ := K.key n hn
  obtain ⟨v, ps, hrun, hv⟩ := h1.lookup K.law ht hz (zd := .held z) (zp := []) rfl hk
  rw [hrun]
  obtain ⟨h4, h5⟩ := h3 n kl hk
  have e : v = (f n).getD z := by
    unfold heldV at hv
    injection hv with hv
    injection hv with hv _
    cases hf : f n with
    | some u =>
      rw [h5 u hf] at hv
      injection hv with hv
    | none =>
      rw [Maps.atKey_of_not_has (by rw [h4, hf]; rfl)] at hv
      injection hv with hv
  rw [e]
/-- Something put under a key, whether it had something or not. -/
theorem MapW.put (h : MapW P k w b s f) (K : WayKey P k) (ht : P.underlying t = some (.map k e)) (hs : s < maxLen) (n : Nm) (hn : NmWf n) (v : Value) :
    ∃ w', (Instr.mapUpdate t (.map (some b)) (nmKey n) v).run P w = .ok () w' ∧ MapW P k w' b (s + 1) (fun x => if x = n then some v else f x) ∧ Fr (· = b) w w' := by
  obtain ⟨D, h1, h3⟩ := h
  obtain ⟨kl, hk⟩ := K.key n hn
  obtain ⟨w', hrun, h4, h5⟩ := h1.update K.law ht hs hk (val := v) (d := .held v) (ps := []) rfl
  refine ⟨w', hrun, ⟨_, h4, ?_⟩, ⟨h5.os, h5.tape, h5.output, h5.size, fun i hi hne => h5.block i hi (fun e => hne (Option.some.inj e))⟩⟩
  intro m ml hm
  dsimp only
  by_cases he : m = n
  · subst he
    rw [hk] at hm
    injection hm with hm
    subst hm
    refine ⟨by rw [if_pos rfl, Maps.has_put_same h1.isMap (K.law.key hk)]; rfl, fun u hu z => ?_⟩
    rw [if_pos rfl] at hu
    injection hu with hu
    subst hu
    exact Maps.atKey_put_same h1.isMap (K.law.key hk) _ _
  · have hne : ml ≠ kl := by
      rintro rfl
      exact he (nmKey_inj (K.law.inj hm hk))
    rw [if_neg he, Maps.has_put_other hne]
    refine ⟨(h3 m ml hm).1, fun u hu z => ?_⟩
    rw [Maps.atKey_put_other hne]
    exact (h3 m ml hm).2 u hu z
/-- A key dropped. -/
theorem MapW.drop (h : MapW P k w b s f) (K : WayKey P k) (ht : P.underlying t = some (.map k e)) (ty : TypeId) (n : Nm) (hn : NmWf n) :
    ∃ w', (Builtin.delete_ #[t, k] ty #[.map (some b), nmKey n]).run P w = .ok (.tuple #[]) w' ∧ MapW P k w' b s (fun x => if x = n then none else f x) ∧ Fr (· = b) w w' := by
  obtain ⟨D, h1, h3⟩ := h
  obtain ⟨kl, hk⟩ := K.key n hn
  obtain ⟨w', hrun, h4, es, clock, es', clock', hb, rfl⟩ := h1.drop K.law ht hk ty
  refine ⟨_, hrun, ⟨_, h4, ?_⟩, ⟨rfl, rfl, rfl, by simp [setBlock], fun i hi hne => heap_setBlock_other hb _ (fun e => hne (by rw [e]))⟩⟩
  intro m ml hm
  dsimp only
  by_cases he : m = n
  · subst he
    rw [hk] at hm
    injection hm with hm
    subst hm
    refine ⟨by rw [if_pos rfl, Maps.has_del_same]; rfl, fun u hu z => ?_⟩
    rw [if_pos rfl] at hu
    cases hu
  · have hne : ml ≠ kl := by
      rintro rfl
      exact he (nmKey_inj (K.law.inj hm hk))
    rw [if_neg he, Maps.has_del_other hne]
    refine ⟨(h3 m ml hm).1, fun u hu z => ?_⟩
    rw [Maps.atKey_del_other hne]
    exact (h3 m ml hm).2 u hu z
theorem MapRg.left_eq (h : MapRg P k w b r s f vs cnt) : w.rangeLeft b r = cnt := by
  obtain ⟨D, left, h1, _⟩ := h
  exact h1.left_eq
theorem MapRg.lt (h : MapRg P k w b r s f vs cnt) : r < w.heap.size := by
  obtain ⟨D, left, h1, _⟩ := h
  exact h1.lt
theorem MapRg.ne (h : MapRg P k w b r s f vs cnt) : r ≠ b := by
  obtain ⟨D, left, h1, _⟩ := h
  exact h1.ne
theorem MapRg.fr (h : MapRg P k w b r s f vs cnt) (hf : Fr S w w') (hb : ¬ S b) (hr : ¬ S r) : MapRg P k w' b r s f vs cnt := by
  obtain ⟨D, left, h1, h2, h3⟩ := h
  have hbl := h1.owns.lt
  have hrl := h1.lt
  have hg : (w.grownBy w (none)) := ⟨rfl, rfl, rfl, Nat.le_refl _, fun _ _ _ => rfl⟩
  refine ⟨D, left, ?_, h2, h3⟩
  unfold World.ranges at h1 ⊢
  rw [hf.block b hbl hb, hf.block r hrl hr]
  exact h1
variable {ops : Array Oper} {rest : List Oper} {o : Oper} {a : Act} {Q : Exit → Act → World → Prop}
/-- 'm[k] = v'. -/
theorem wl_putW (hg : o.guard = none) (m x v : Operand) (t : TypeId) (hop : o.op = Op.mapUpdate t m x v) (k e : TypeId) (K : WayKey P k) (ht : P.underlying t = some (.map k e)) (b s : Nat) (f : Nm → Option Value)
    (hm : a.eval m = .map (some b)) (h : MapW P k w b s f) (hs : s < maxLen) (n : Nm) (hn : NmWf n) (u : Value) (hx : a.eval x = nmKey n) (hv : a.eval v = u)
    (hK : ∀ w', MapW P k w' b (s + 1) (fun x => if x = n then some u else f x) → Fr (· = b) w w' → wpList P ops Q rest (a.put o.dst undef) w') :
    wpList P ops Q (o :: rest) a w := by
  refine wpList_plain hg fun K' hK' => ?_
  obtain ⟨w', hrun, r1, r2⟩ := h.put K ht hs n hn u
  unfold Oper.wp
  simp [execOp, hop, hm, hx, hv, hrun, Result.andThen]
  exact hK' _ _ (hK w' r1 r2)
/-- 'delete(m, k)'. -/
theorem wl_dropW (hg : o.guard = none) (m x : Operand) (t k : TypeId) (hop : o.op = Op.call { callee := Callee.builtin Builtin.delete, args := #[m, x], argTypes := #[t, k] }) (e : TypeId) (K : WayKey P k) (ht : P.underlying t = some (.map k e)) (b s : Nat) (f : Nm → Option Value)
    (hm : a.eval m = .map (some b)) (h : MapW P k w b s f) (n : Nm) (hn : NmWf n) (hx : a.eval x = nmKey n)
    (hK : ∀ w', MapW P k w' b s (fun x => if x = n then none else f x) → Fr (· = b) w w' → wpList P ops Q rest (a.put o.dst (.tuple #[])) w') :
    wpList P ops Q (o :: rest) a w := by
  refine wpList_plain hg fun K' hK' => ?_
  obtain ⟨w', hrun, r1, r2⟩ := h.drop K ht o.type n hn
  unfold Oper.wp
  simp [execOp, hop, resolve, invoke, builtin, hm, hx, hrun, Result.andThen]
  exact hK' _ _ (hK w' r1 r2)
/-- 'range m'. -/
theorem wl_rangeW (hg : o.guard = none) (m : Operand) (t : TypeId) (hop : o.op = Op.range t m) (k e : TypeId) (K : WayKey P k) (ht : P.underlying t = some (.map k e)) (b s : Nat) (f : Nm → Option Value)
    (hm : a.eval m = .map (some b)) (h : MapW P k w b s f)
    (hK : ∀ w' cnt, cnt ≤ s → MapRg P k w' b w.heap.size s f [] cnt → Nw w w' → w'.heap.size = w.heap.size + 1 → wpList P ops Q rest (a.put o.dst (.pointer (some ⟨w.heap.size, 0, none⟩))) w') :
    wpList P ops Q (o :: rest) a w := by
  obtain ⟨D, h1, h2⟩ := h
  refine wpList_range_own w hg m t hop k e K.law ht heldV b s D hm h1 fun w' r1 r2 r3 => ?_
  refine hK w' _ h1.size_le ⟨D, _, r1, h2, fun n kl hk => ?_⟩ ⟨r2.os, r2.tape, r2.output, r2.size, fun i hi _ => r2.block i hi (by simp)⟩ r3
  rw [(h2 n kl hk).1]
  simp
/-- The step. -/
theorem wl_nextW (hg : o.guard = none) (it : Operand) (hop : o.op = Op.next it false) (k : TypeId) (K : WayKey P k) (b r s : Nat) (f : Nm → Option Value) (vs : List Nm) (cnt : Nat)
    (hit : a.eval it = .pointer (some ⟨r, 0, none⟩)) (h : MapRg P k w b r s f vs cnt)
    (hDone : cnt = 0 → (∀ n, NmWf n → (f n).isSome = true → n ∈ vs) → wpList P ops Q rest (a.put o.dst (.tuple #[.bool false])) w)
    (hMore : ∀ (n : Nm) (v : Value) (w' : World) (cnt' : Nat), NmWf n → f n = some v → n ∉ vs → MapRg P k w' b r s f (n :: vs) cnt' → cnt' < cnt → Fr (· = r) w w' → w'.heap.size = w.heap.size →
      (Instr.entry (.pointer (some ⟨r, 0, none⟩))).run P w' = .ok (.tuple #[nmKey n, v]) w' → wpList P ops Q rest (a.put o.dst (.tuple #[.bool true, nmKey n, v])) w') :
    wpList P ops Q (o :: rest) a w := by
  obtain ⟨D, left, h1, h2, h3⟩ := h
  refine wpList_next_ranges w hg it hop k K.law heldV (fun n : Nm => nmKey n) (fun v : Value => v) (fun key kl hk => by obtain ⟨n, e, _⟩ := K.inv key kl hk; exact ⟨n, e⟩) (fun v y _ => ⟨v, rfl⟩) b r s D left cnt hit h1 ?_ ?_
  · intro h0 hl
    refine hDone h0 fun n hn hf => ?_
    obtain ⟨kl, hk⟩ := K.key n hn
    have h4 := h3 n kl hk
    rw [hl kl, hf] at h4
    simpa using h4.symm
  · intro n v kl y w' cnt' hk hlk hv hat hrg hlt hgr hsz hen
    obtain ⟨n', e', hn'⟩ := K.inv _ _ hk
    have e2 := nmKey_inj e'
    subst e2
    have h4 := h3 n kl hk
    rw [hlk] at h4
    have h5 : (f n).isSome = true ∧ n ∉ vs := by
      have := h4.symm
      simpa using this
    obtain ⟨u, hu⟩ := Option.isSome_iff_exists.1 h5.1
    have h6 := (h2 n kl hk).2 u hu
    have e3 : v = u := by
      unfold heldV at hv
      injection hv with hv
      have h7 := hat (.held u)
      rw [h6, ← hv] at h7
      injection h7 with h7
      exact h7.symm
    subst e3
    refine hMore n v w' cnt' hn' hu h5.2 ⟨D, _, hrg, h2, fun m ml hm => ?_⟩ hlt ⟨hgr.os, hgr.tape, hgr.output, hgr.size, fun i hi hne => hgr.block i hi (fun e => hne (Option.some.inj e))⟩ hsz hen
    rw [h3 m ml hm]
    by_cases he : m = n
    · subst he
      rw [hk] at hm
      injection hm with hm
      subst hm
      rw [(WideAt.sameKey_iff (K.law.key hk)).2 rfl]
      simp
    · have hne : ml ≠ kl := by
        rintro rfl
        exact he (nmKey_inj (K.law.inj hm hk))
      rw [Maps.sameKey_ne hne]
      simp [he]
end
end Go.Proofs.YtippdjaakcgeoaaGreat

namespace Go.Proofs.YtippdjaakcgeoaaGreat
open Go Go.RowKit

/-- The bytes of a number, by fuel. -/
def encF : Nat → Nat → List UInt8
  | 0, _ => []
  | f + 1, n => if n < 128 then [UInt8.ofNat n] else UInt8.ofNat (n % 128 + 128) :: encF f (n / 128)
def enc (n : Nat) : List UInt8 := encF 9 n

/-- A byte as a value. -/
abbrev B8 (b : UInt8) : Value := .int .u8 (b.toNat : Int)
theorem B8_oneCell (bs : List UInt8) : ∀ u ∈ bs.map B8, u.oneCell' = true := by
  intro u hu
  obtain ⟨_, _, rfl⟩ := List.mem_map.1 hu
  rfl

end Go.Proofs.YtippdjaakcgeoaaGreat

namespace Go.Proofs.YtippdjaakcgeoaaGreat
open Go Go.RowKit

/-- Who is of a group. -/
structure Cfg where
  v : List Int
  o : List Int
  l : List Int
  w : List Int
deriving DecidableEq
/-- An entry. -/
structure Ent where
  term : Int
  kind : Int
  cmd : List UInt8
  cfg : Cfg
deriving DecidableEq
/-- A base. -/
structure Bas where
  index : Int
  term : Int
  cfg : Cfg
deriving DecidableEq
/-- A letter. -/
structure LetF where
  kind : Int
  group : Int
  src : Int
  dst : Int
  term : Int
  index : Int
  logt : Int
  commit : Int
  ok : Bool
  ents : List Ent
  base : Bas
  size : Int
  at_ : Int
  tag : Int
  bytes : List UInt8
deriving DecidableEq
/-- A node at its place in a row: it is one, and greater than the one ahead. -/
def ndAt (l : List Int) (i : Nat) : Bool := decide (1 ≤ l.getD i 0 ∧ l.getD i 0 ≤ 5) && (decide (i = 0) || decide (l.getD (i - 1) 0 < l.getD i 0))
def nodesOk (l : List Int) : Bool := (List.range l.length).all (ndAt l)
def cfgOk (c : Cfg) : Bool := nodesOk c.v && (nodesOk c.o && (nodesOk c.l && nodesOk c.w))
def cfgNone (c : Cfg) : Bool := decide (c.v.length + c.o.length + c.l.length + c.w.length = 0)
def topOk (n : Int) : Bool := decide (0 ≤ n ∧ n ≤ 1073741824)
def entOk (e : Ent) : Bool :=
  topOk e.term && (if e.kind = 1 then decide (e.cmd.length = 0) && cfgNone e.cfg
    else if e.kind = 2 then decide (e.cmd.length ≤ 131072) && cfgNone e.cfg
    else decide (e.kind = 3) && (decide (e.cmd.length = 0) && cfgOk e.cfg))
def basOk (b : Bas) : Bool := topOk b.index && (topOk b.term && cfgOk b.cfg)
def letOk (x : LetF) : Bool :=
  (topOk x.term && (topOk x.index && (topOk x.logt && (topOk x.commit && (topOk x.size && topOk x.at_))))) && (decide (0 ≤ x.tag ∧ x.tag ≤ 4611686018427387903) &&
    ((decide (1 ≤ x.kind ∧ x.kind ≤ 8) && (decide (0 ≤ x.group ∧ x.group ≤ 4) && (decide (1 ≤ x.src ∧ x.src ≤ 5) && decide (1 ≤ x.dst ∧ x.dst ≤ 5)))) &&
      ((decide (x.ents.length ≤ 30) && (decide (x.bytes.length ≤ 131072) && basOk x.base)) && x.ents.all entOk)))
def letsOk (l : List LetF) : Bool := l.all letOk

/-! As bytes. -/
/-! What is read. -/
end Go.Proofs.YtippdjaakcgeoaaGreat

namespace Go.Proofs.YtippdjaakcgeoaaGreat
open Go Go.RowKit

/-! Rows of numbers. -/
/-! Configs, entries, bases. -/
theorem topOk_iff (n : Int) : topOk n = true ↔ 0 ≤ n ∧ n ≤ 1073741824 := by unfold topOk; simp
theorem basOk_sm {b : Bas} (h : basOk b = true) : (0 ≤ b.index ∧ b.index ≤ 1073741824) ∧ (0 ≤ b.term ∧ b.term ≤ 1073741824) ∧ cfgOk b.cfg = true := by
  unfold basOk at h
  simpa only [Bool.and_eq_true, topOk_iff] using h
/-! Letters. -/
/-- What holds of a letter that is right. -/
structure LetSm (x : LetF) : Prop where
  head : ((1 ≤ x.kind ∧ x.kind ≤ 8) ∧ (0 ≤ x.group ∧ x.group ≤ 4)) ∧ (1 ≤ x.src ∧ x.src ≤ 5) ∧ (1 ≤ x.dst ∧ x.dst ≤ 5)
  nums : ((0 ≤ x.term ∧ x.term ≤ 1073741824) ∧ (0 ≤ x.index ∧ x.index ≤ 1073741824)) ∧ ((0 ≤ x.logt ∧ x.logt ≤ 1073741824) ∧ (0 ≤ x.commit ∧ x.commit ≤ 1073741824)) ∧ (0 ≤ x.size ∧ x.size ≤ 1073741824) ∧ (0 ≤ x.at_ ∧ x.at_ ≤ 1073741824)
  tag : 0 ≤ x.tag ∧ x.tag ≤ 4611686018427387903
  ents : x.ents.length ≤ 30 ∧ ∀ e ∈ x.ents, entOk e = true
  base : basOk x.base = true
  bytes : x.bytes.length ≤ 131072
theorem letOk_iff (x : LetF) : letOk x = true ↔ LetSm x := by
  unfold letOk
  simp only [Bool.and_eq_true, decide_eq_true_eq, topOk_iff, List.all_eq_true]
  constructor
  · rintro ⟨⟨h1, h2, h3, h4, h5, h6⟩, h7, ⟨h8, h9, h10, h11⟩, ⟨h12, h13, h14⟩, h15⟩
    exact ⟨⟨⟨h8, h9⟩, h10, h11⟩, ⟨⟨h1, h2⟩, ⟨h3, h4⟩, h5, h6⟩, h7, ⟨h12, h15⟩, h14, h13⟩
  · rintro ⟨⟨⟨h8, h9⟩, h10, h11⟩, ⟨⟨h1, h2⟩, ⟨h3, h4⟩, h5, h6⟩, h7, ⟨h12, h15⟩, h14, h13⟩
    exact ⟨⟨h1, h2, h3, h4, h5, h6⟩, h7, ⟨h8, h9, h10, h11⟩, ⟨h12, h13, h14⟩, h15⟩
end Go.Proofs.YtippdjaakcgeoaaGreat

namespace Go.Proofs.YtippdjaakcgeoaaGreat
open Go Go.RowKit

/-- A list that lies somewhere. -/
structure Ls (α : Type) where
  a : Option Addr
  c : Nat
  l : List α
abbrev Ls.v {α : Type} (s : Ls α) : Value := .slice s.a s.l.length s.c
structure CfgM where
  v : Ls Int
  o : Ls Int
  l : Ls Int
  w : Ls Int
structure EntM where
  term : Int
  kind : Int
  cmd : Ls UInt8
  cfg : CfgM
structure BasM where
  index : Int
  term : Int
  cfg : CfgM
structure LetM where
  kind : Int
  group : Int
  src : Int
  dst : Int
  term : Int
  index : Int
  logt : Int
  commit : Int
  ok : Bool
  ents : Ls EntM
  base : BasM
  size : Int
  at_ : Int
  tag : Int
  bytes : Ls UInt8
def lsZ {α : Type} : Ls α := ⟨none, 0, []⟩
def cfgMZ : CfgM := ⟨lsZ, lsZ, lsZ, lsZ⟩
def entMZ : EntM := ⟨0, 0, lsZ, cfgMZ⟩
def basMZ : BasM := ⟨0, 0, cfgMZ⟩
def letMZ : LetM := ⟨0, 0, 0, 0, 0, 0, 0, 0, false, lsZ, basMZ, 0, 0, 0, lsZ⟩
/-- What they say, wherever they lie. -/
abbrev CfgM.x (c : CfgM) : Cfg := ⟨c.v.l, c.o.l, c.l.l, c.w.l⟩
abbrev EntM.x (e : EntM) : Ent := ⟨e.term, e.kind, e.cmd.l, e.cfg.x⟩
abbrev BasM.x (b : BasM) : Bas := ⟨b.index, b.term, b.cfg.x⟩
abbrev LetM.x (x : LetM) : LetF := ⟨x.kind, x.group, x.src, x.dst, x.term, x.index, x.logt, x.commit, x.ok, x.ents.l.map EntM.x, x.base.x, x.size, x.at_, x.tag, x.bytes.l⟩
abbrev U8V (n : Int) : Value := .int .u8 n
abbrev entL (e : EntM) : List Value := [I64 e.term, U8V e.kind, e.cmd.v, e.cfg.v.v, e.cfg.o.v, e.cfg.l.v, e.cfg.w.v]
abbrev letL (x : LetM) : List Value :=
  [U8V x.kind, I64 x.group, I64 x.src, I64 x.dst, I64 x.term, I64 x.index, I64 x.logt, I64 x.commit, .bool x.ok, x.ents.v, I64 x.base.index, I64 x.base.term, x.base.cfg.v.v, x.base.cfg.o.v, x.base.cfg.l.v, x.base.cfg.w.v, I64 x.size, I64 x.at_, I64 x.tag, x.bytes.v]
abbrev cfgA (c : CfgM) : Array Value := #[c.v.v, c.o.v, c.l.v, c.w.v]
abbrev entA (e : EntM) : Array Value := #[I64 e.term, U8V e.kind, e.cmd.v, e.cfg.v.v, e.cfg.o.v, e.cfg.l.v, e.cfg.w.v]
abbrev basA (b : BasM) : Array Value := #[I64 b.index, I64 b.term, b.cfg.v.v, b.cfg.o.v, b.cfg.l.v, b.cfg.w.v]
abbrev letA (x : LetM) : Array Value :=
  #[U8V x.kind, I64 x.group, I64 x.src, I64 x.dst, I64 x.term, I64 x.index, I64 x.logt, I64 x.commit, .bool x.ok, x.ents.v, I64 x.base.index, I64 x.base.term, x.base.cfg.v.v, x.base.cfg.o.v, x.base.cfg.l.v, x.base.cfg.w.v, I64 x.size, I64 x.at_, I64 x.tag, x.bytes.v]
def entF (e : EntM) : List Value := entL e
def letF (x : LetM) : List Value := letL x
def intsC (l : List Int) : List Value := l.map I64
def entsC (l : List EntM) : List Value := (l.map entF).flatten
def letsC (l : List LetM) : List Value := (l.map letF).flatten
theorem entsC_len (l : List EntM) : (entsC l).length = l.length * 7 := by
  unfold entsC
  induction l with
  | nil => rfl
  | cons a l ih => rw [List.map_cons, List.flatten_cons, List.length_append, ih, List.length_cons]; show 7 + _ = _; omega
theorem letsC_len (l : List LetM) : (letsC l).length = l.length * 20 := by
  unfold letsC
  induction l with
  | nil => rfl
  | cons a l ih => rw [List.map_cons, List.flatten_cons, List.length_append, ih, List.length_cons]; show 20 + _ = _; omega
theorem entsC_append (l m : List EntM) : entsC (l ++ m) = entsC l ++ entsC m := by simp [entsC]
theorem letsC_append (l m : List LetM) : letsC (l ++ m) = letsC l ++ letsC m := by simp [letsC]
theorem intsC_append (l m : List Int) : intsC (l ++ m) = intsC l ++ intsC m := by simp [intsC]
theorem entsC_one (e : EntM) : entsC [e] = entL e := by simp [entsC, entF]
theorem letsC_one (x : LetM) : letsC [x] = letL x := by simp [letsC, letF]
theorem intsC_cell (l : List Int) : ∀ u ∈ intsC l, u.oneCell' = true := by
  intro u hu
  obtain ⟨n, _, rfl⟩ := List.mem_map.1 hu
  rfl
theorem entL_cell (e : EntM) : ∀ u ∈ entL e, u.oneCell' = true := by
  intro u hu
  simp only [List.mem_cons, List.not_mem_nil, or_false] at hu
  rcases hu with rfl | rfl | rfl | rfl | rfl | rfl | rfl <;> rfl
theorem entsC_cell (l : List EntM) : ∀ u ∈ entsC l, u.oneCell' = true := by
  intro u hu
  obtain ⟨c, hc, hu⟩ := List.mem_flatten.1 hu
  obtain ⟨e, _, rfl⟩ := List.mem_map.1 hc
  exact entL_cell e u hu
theorem letL_cell (x : LetM) : ∀ u ∈ letL x, u.oneCell' = true := by
  intro u hu
  simp only [List.mem_cons, List.not_mem_nil, or_false] at hu
  rcases hu with rfl | rfl | rfl | rfl | rfl | rfl | rfl | rfl | rfl | rfl | rfl | rfl | rfl | rfl | rfl | rfl | rfl | rfl | rfl | rfl <;> rfl
theorem letsC_cell (l : List LetM) : ∀ u ∈ letsC l, u.oneCell' = true := by
  intro u hu
  obtain ⟨c, hc, hu⟩ := List.mem_flatten.1 hu
  obtain ⟨x, _, rfl⟩ := List.mem_map.1 hc
  exact letL_cell x u hu
theorem cfgA_one (c : CfgM) : (cfgA c).all (·.oneCell') = true := by rw [List.all_toArray]; simp only [List.all_cons, List.all_nil]; rfl
theorem entA_one (e : EntM) : (entA e).all (·.oneCell') = true := by rw [List.all_toArray]; simp only [List.all_cons, List.all_nil]; rfl
theorem letA_one (x : LetM) : (letA x).all (·.oneCell') = true := by rw [List.all_toArray]; simp only [List.all_cons, List.all_nil]; rfl

/-- A list that lies in blocks of F. -/
structure LsIn {α : Type} (w : World) (F : Nat → Prop) (f : List α → List Value) (s : Ls α) : Prop where
  sl : Sl w F s.a (f s.l)
  cap : s.l.length ≤ s.c ∧ s.c ≤ maxLen
def bytesC (l : List UInt8) : List Value := l.map B8
structure CfgIn (w : World) (F : Nat → Prop) (c : CfgM) : Prop where
  v : LsIn w F intsC c.v
  o : LsIn w F intsC c.o
  l : LsIn w F intsC c.l
  w : LsIn w F intsC c.w
structure EntIn (w : World) (F : Nat → Prop) (e : EntM) : Prop where
  kind : 0 ≤ e.kind ∧ e.kind ≤ 255
  cmd : LsIn w F bytesC e.cmd
  cfg : CfgIn w F e.cfg
structure LetIn (w : World) (F : Nat → Prop) (x : LetM) : Prop where
  kind : 0 ≤ x.kind ∧ x.kind ≤ 255
  ents : LsIn w F entsC x.ents
  each : ∀ e ∈ x.ents.l, EntIn w F e
  cfg : CfgIn w F x.base.cfg
  bytes : LsIn w F bytesC x.bytes
section
variable {w w' : World} {F F' S : Nat → Prop} {α : Type} {f : List α → List Value}
theorem LsIn.fr {s : Ls α} (h : LsIn w F f s) (hf : Fr S w w') (hn : ∀ k, F k → ¬ S k) : LsIn w' F f s := ⟨h.sl.fr hf hn, h.cap⟩
theorem LsIn.mono {s : Ls α} (h : LsIn w F f s) (hF : ∀ k, F k → k < w.heap.size → F' k) : LsIn w F' f s := ⟨h.sl.mono hF, h.cap⟩
theorem CfgIn.fr {c : CfgM} (h : CfgIn w F c) (hf : Fr S w w') (hn : ∀ k, F k → ¬ S k) : CfgIn w' F c := ⟨h.v.fr hf hn, h.o.fr hf hn, h.l.fr hf hn, h.w.fr hf hn⟩
theorem CfgIn.mono {c : CfgM} (h : CfgIn w F c) (hF : ∀ k, F k → k < w.heap.size → F' k) : CfgIn w F' c := ⟨h.v.mono hF, h.o.mono hF, h.l.mono hF, h.w.mono hF⟩
theorem EntIn.fr {e : EntM} (h : EntIn w F e) (hf : Fr S w w') (hn : ∀ k, F k → ¬ S k) : EntIn w' F e := ⟨h.kind, h.cmd.fr hf hn, h.cfg.fr hf hn⟩
theorem EntIn.mono {e : EntM} (h : EntIn w F e) (hF : ∀ k, F k → k < w.heap.size → F' k) : EntIn w F' e := ⟨h.kind, h.cmd.mono hF, h.cfg.mono hF⟩
theorem LetIn.fr {x : LetM} (h : LetIn w F x) (hf : Fr S w w') (hn : ∀ k, F k → ¬ S k) : LetIn w' F x := ⟨h.kind, h.ents.fr hf hn, fun e he => (h.each e he).fr hf hn, h.cfg.fr hf hn, h.bytes.fr hf hn⟩
theorem LetIn.mono {x : LetM} (h : LetIn w F x) (hF : ∀ k, F k → k < w.heap.size → F' k) : LetIn w F' x := ⟨h.kind, h.ents.mono hF, fun e he => (h.each e he).mono hF, h.cfg.mono hF, h.bytes.mono hF⟩
theorem LsIn.nw {s : Ls α} (h : LsIn w F f s) (hf : Nw w w') : LsIn w' F f s := h.fr hf (fun _ _ h => h)
theorem CfgIn.nw {c : CfgM} (h : CfgIn w F c) (hf : Nw w w') : CfgIn w' F c := h.fr hf (fun _ _ h => h)
theorem EntIn.nw {e : EntM} (h : EntIn w F e) (hf : Nw w w') : EntIn w' F e := h.fr hf (fun _ _ h => h)
theorem LetIn.nw {x : LetM} (h : LetIn w F x) (hf : Nw w w') : LetIn w' F x := h.fr hf (fun _ _ h => h)
theorem LsIn.nil (w : World) (F : Nat → Prop) (f : List α → List Value) (hf : f [] = []) : LsIn w F f lsZ := ⟨by show Sl w F none (f []); rw [hf]; exact Sl.nil _ _ _, Nat.le_refl _, Nat.zero_le _⟩
theorem CfgIn.zero (w : World) (F : Nat → Prop) : CfgIn w F cfgMZ := ⟨LsIn.nil w F intsC rfl, LsIn.nil w F intsC rfl, LsIn.nil w F intsC rfl, LsIn.nil w F intsC rfl⟩
theorem LetIn.zero (w : World) (F : Nat → Prop) : LetIn w F letMZ := ⟨⟨by decide, by decide⟩, LsIn.nil w F entsC rfl, (by intro e he; cases he), CfgIn.zero w F, LsIn.nil w F bytesC rfl⟩

/-- Entries, one behind the other. -/
structure EntsIn (w : World) (F : Nat → Prop) (s : Ls EntM) : Prop where
  ls : LsIn w F entsC s
  each : ∀ x ∈ s.l, EntIn w F x
theorem EntsIn.fr {s : Ls EntM} (h : EntsIn w F s) (hf : Fr S w w') (hn : ∀ k, F k → ¬ S k) : EntsIn w' F s := ⟨h.ls.fr hf hn, fun e he => (h.each e he).fr hf hn⟩
theorem EntsIn.mono {s : Ls EntM} (h : EntsIn w F s) (hF : ∀ k, F k → k < w.heap.size → F' k) : EntsIn w F' s := ⟨h.ls.mono hF, fun e he => (h.each e he).mono hF⟩
theorem EntsIn.nw {s : Ls EntM} (h : EntsIn w F s) (hf : Nw w w') : EntsIn w' F s := h.fr hf (fun _ _ h => h)
/-- Letters, one behind the other. -/
structure LetsIn (w : World) (F : Nat → Prop) (s : Ls LetM) : Prop where
  ls : LsIn w F letsC s
  each : ∀ x ∈ s.l, LetIn w F x
theorem LetsIn.fr {s : Ls LetM} (h : LetsIn w F s) (hf : Fr S w w') (hn : ∀ k, F k → ¬ S k) : LetsIn w' F s := ⟨h.ls.fr hf hn, fun e he => (h.each e he).fr hf hn⟩
theorem flat_get {α : Type} (f : α → List Value) (C : Nat) (l : List α) (hC : ∀ x ∈ l, (f x).length = C) (i j : Nat) (hi : i < l.length) (hj : j < C) : ((l.map f).flatten)[i * C + j]? = (f l[i])[j]? := by
  induction l generalizing i with
  | nil => simp at hi
  | cons x l ih =>
    rw [List.map_cons, List.flatten_cons]
    have hx := hC x List.mem_cons_self
    cases i with
    | zero =>
      rw [List.getElem?_append_left (by omega), Nat.zero_mul, Nat.zero_add]
      rfl
    | succ i =>
      rw [List.getElem?_append_right (by rw [hx, Nat.succ_mul]; omega), hx]
      have e : (i + 1) * C + j - C = i * C + j := by rw [Nat.succ_mul]; omega
      rw [e]
      exact ih (fun y hy => hC y (List.mem_cons_of_mem _ hy)) i (by simpa using hi)
/-- The cells of one of a list of structs. -/
theorem Sl.struct {A : Option Addr} {f : α → List Value} {C : Nat} (hC0 : 0 < C) {l : List α} (hC : ∀ x ∈ l, (f x).length = C) (h : Sl w F A ((l.map f).flatten)) {k : Nat} (hk : k < l.length) :
    ∃ b o, A = some ⟨b, o, none⟩ ∧ F b ∧ b < w.heap.size ∧ ∀ j u, (f l[k])[j]? = some u → w.cell? ⟨b, o + k * C + j, none⟩ = some u := by
  have hf := flat_get f C l hC k
  obtain ⟨u0, hu0⟩ : ∃ u, (f l[k])[0]? = some u := ⟨_, List.getElem?_eq_getElem (by rw [hC _ (List.getElem_mem hk)]; exact hC0)⟩
  have h0 := (hf 0 hk hC0).trans hu0
  obtain ⟨b, o, hA, hF, hb, hc⟩ := h.at_ (by intro e; rw [e] at h0; cases h0)
  refine ⟨b, o, hA, hF, hb, fun j u hu => ?_⟩
  have hj : j < C := by
    rcases Nat.lt_or_ge j C with h | h
    · exact h
    · rw [List.getElem?_eq_none (by rw [hC _ (List.getElem_mem hk)]; exact h)] at hu; cases hu
  rw [Nat.add_assoc]
  exact hc _ u ((hf j hk hj).trans hu)
theorem Sl.ent {A : Option Addr} {l : List EntM} (h : Sl w F A (entsC l)) {k : Nat} (hk : k < l.length) :
    ∃ b o, A = some ⟨b, o, none⟩ ∧ F b ∧ b < w.heap.size ∧ ∀ j u, (entL l[k])[j]? = some u → w.cell? ⟨b, o + k * 7 + j, none⟩ = some u := Sl.struct (f := entF) (by omega) (fun _ _ => rfl) h hk
theorem Sl.let_ {A : Option Addr} {l : List LetM} (h : Sl w F A (letsC l)) {k : Nat} (hk : k < l.length) :
    ∃ b o, A = some ⟨b, o, none⟩ ∧ F b ∧ b < w.heap.size ∧ ∀ j u, (letL l[k])[j]? = some u → w.cell? ⟨b, o + k * 20 + j, none⟩ = some u := Sl.struct (f := letF) (by omega) (fun _ _ => rfl) h hk
end
/-- Sizes that are far within what a machine has. -/
structure CfgSz (c : CfgM) : Prop where
  v : c.v.l.length ≤ 1000000
  o : c.o.l.length ≤ 1000000
  l : c.l.l.length ≤ 1000000
  w : c.w.l.length ≤ 1000000
structure EntSz (e : EntM) : Prop where
  cmd : e.cmd.l.length ≤ 1000000
  cfg : CfgSz e.cfg
structure LetSz (x : LetM) : Prop where
  ents : x.ents.l.length ≤ 1000000
  each : ∀ e ∈ x.ents.l, EntSz e
  cfg : CfgSz x.base.cfg
  bytes : x.bytes.l.length ≤ 1000000
theorem CfgSz.zero : CfgSz cfgMZ := ⟨by decide, by decide, by decide, by decide⟩
theorem LetSz.zero : LetSz letMZ := ⟨by decide, (by intro e he; cases he), CfgSz.zero, by decide⟩
end Go.Proofs.YtippdjaakcgeoaaGreat

namespace Go.Proofs.YtippdjaakcgeoaaGreat
open Go Go.RowKit

theorem info_u8 : (Tryz.prog.info? 5).map (fun i => (i.zero, i.size, i.bytes)) = some (some (.int .u8 0), 1, 1) := by kernel_rfl

theorem size_bytes (w : World) : (sizeOf (Tryz.prog.elem 48)).run Tryz.prog w = .ok 1 w := by kernel_rfl

theorem under_bytes : Tryz.prog.underlying 48 = some (.slice (Tryz.prog.elem 48)) := by kernel_rfl

end Go.Proofs.YtippdjaakcgeoaaGreat

namespace Go.Proofs.YtippdjaakcgeoaaGreat
open Go Go.RowKit

/-- 'slices.Clone' of bytes. -/
theorem clone_u8 (w : World) (F : Nat → Prop) (A : Option Addr) (c : Nat) (bs : List UInt8) (hs : Sl w F A (bs.map B8)) (hsz : bs.length ≤ 1000000000000) :
    Calls Tryz.prog 74 #[.slice A bs.length c] w fun e w' => ∃ A' c', e = .returned (.slice A' bs.length c') ∧ Own w' 5 1 A' bs.length c' (bs.map B8) ∧ Fr (fun _ => False) w w' ∧ ∀ k, inA A' k → w.heap.size ≤ k := by
  have hnil := fun (w : World) (A : Option Addr) (n : Nat) => Lib.run_eql_slice_nil (P := Tryz.prog) w 48 5 A n c 0 0 Tryz.underlying48
  cases A with
  | none =>
    have hb : bs = [] := by
      rcases hs with h | ⟨b, o, h, _⟩
      · simpa using h
      · cases h
    subst hb
    go_enter Tryz.func74, Tryz.ntmps74
    go_wp2_with fail
    go_ret
    exact ⟨none, 0, rfl, Own.nil _ _ _, Fr.refl _ _, fun k hk => (inA_none k hk).elim⟩
  | some a =>
    go_enter Tryz.func74, Tryz.ntmps74
    go_wp2_with (at_builtin; refine wl_append rfl _ _ _ rfl 1 (.int .u8 0) Tryz.underlying48 info_u8 rfl (by decide) rfl (Own.new w 5 1 0 0 #[] (Nat.le_refl _) (by decide) rfl) rfl (hs.alloc _) (by simp) (B8_oneCell bs) (by omega) (by unfold maxLen; omega) ?_; intro A' cap' w1 ho hf hin)
    go_ret
    simp only [Nat.zero_add, Nat.zero_mul, List.take_zero, List.nil_append] at ho
    refine ⟨A', cap', rfl, ho, ((Fr.refl _ w).alloc _).trans hf fun k hk => .inr ?_, fun k hk => ?_⟩
    · rw [(inA_some _ _).1 hk]; exact Nat.le_refl _
    · rcases hin k hk with h | h
      · rw [(inA_some _ _).1 h]; exact Nat.le_refl _
      · rw [h]; simp

end Go.Proofs.YtippdjaakcgeoaaGreat

namespace Go.Proofs.YtippdjaakcgeoaaGreat
open Go Go.RowKit

/-- Nothing but draws. -/
def Quiet (w w' : World) : Prop := ∃ n, w' = w.drewN n
theorem Quiet.refl (w : World) : Quiet w w := ⟨0, rfl⟩
theorem Quiet.drewN {w w' : World} (h : Quiet w w') (n : Nat) : Quiet w (w'.drewN n) := by
  obtain ⟨k, rfl⟩ := h
  exact ⟨k + n, by rw [World.drewN_drewN]⟩
theorem Quiet.fr {w w' : World} (h : Quiet w w') (S : Nat → Prop) : Fr S w w' := by
  obtain ⟨k, rfl⟩ := h
  exact (Fr.refl S w).drewN k

theorem ret_eq {v v' : Value} (h : v = v') : Ending.returned v = .returned v' := by rw [h]

theorem Quiet.cell {w w' : World} (h : Quiet w w') (a : Addr) : w'.cell? a = w.cell? a := by obtain ⟨n, rfl⟩ := h; rfl
def SameRel (w : World) (xs ys : List UInt8) (i : Value) (wr : World) : Prop :=
  ∃ k : Nat, i = .int .i64 k ∧ k ≤ xs.length ∧ xs.take k = ys.take k ∧ Quiet w wr

theorem same_u8 (w : World) (F1 F2 : Nat → Prop) (A1 A2 : Option Addr) (c1 c2 : Nat) (xs ys : List UInt8) (h1 : Sl w F1 A1 (xs.map B8)) (h2 : Sl w F2 A2 (ys.map B8)) (hm1 : xs.length ≤ 1000000000000) :
    Calls Tryz.prog 34 #[.slice A1 xs.length c1, .slice A2 ys.length c2] w fun e w' => e = .returned (.bool (decide (xs = ys))) ∧ Quiet w w' := by
  by_cases hl : xs.length = ys.length
  · have hlen : ((xs.length : Int) != (ys.length : Int)) = false := by simp [hl]
    have HL := Lib.hid hl
    clear hl
    go_enter Tryz.func34, Tryz.ntmps34
    go_wp2
    go_loopw [5] (fun i wr => SameRel w xs ys i wr) (fun i _ => xs.length - (intOf i).toNat)
    case atStart => exact ⟨0, rfl, Nat.zero_le _, rfl, Quiet.refl _⟩
    case round =>
      obtain ⟨k, rfl, hk, ht, hq⟩ := hrel
      have HT := Lib.hid ht
      clear ht
      by_cases hlt : k < xs.length
      · have hlt2 : k < ys.length := by have := HL.out; omega
        obtain ⟨n, rfl⟩ := hq
        obtain ⟨b1, o1, rfl, _, hc1⟩ := h1.get hlt
        obtain ⟨b2, o2, rfl, _, hc2⟩ := h2.get hlt2
        have hi1 : (k : Int) < (xs.length : Int) := by omega
        have hi2 : (k : Int) < (ys.length : Int) := by omega
        go_wp2
        go_quiet (fail)
        by_cases heq : (((xs[k].toNat : Nat) : Int) != ((ys[k].toNat : Nat) : Int)) = false
        rotate_left
        · have hne : (((xs[k].toNat : Nat) : Int) != ((ys[k].toNat : Nat) : Int)) = true := by simpa using heq
          clear heq
          go_wp2
          go_ret
          refine ⟨ret_eq (congrArg Value.bool (decide_eq_false ?_).symm), ((Quiet.refl w).drewN n).drewN _⟩
          rintro rfl
          simp at hne
        · go_wp2
          go_roundw
          case rel =>
            refine ⟨k + 1, by go_num, by omega, ?_, ⟨_, rfl⟩⟩
            rw [List.take_succ_eq_append_getElem hlt, List.take_succ_eq_append_getElem hlt2, HT.out]
            congr 2
            have h5 : ((xs[k].toNat : Nat) : Int) = ((ys[k].toNat : Nat) : Int) := by simpa using heq
            have : xs[k].toNat = ys[k].toNat := by omega
            exact UInt8.toNat_inj.1 this
          case measure => simp [intOf]; omega
      · go_wp2
        go_ret
        have hx : xs = ys := by
          have := HT.out
          rwa [List.take_of_length_le (by omega), List.take_of_length_le (by have := HL.out; omega)] at this
        exact ⟨ret_eq (congrArg Value.bool (decide_eq_true hx).symm), hq⟩
  · have hlen : ((xs.length : Int) != (ys.length : Int)) = true := by simp; omega
    go_enter Tryz.func34, Tryz.ntmps34
    go_wp2
    go_ret
    exact ⟨ret_eq (congrArg Value.bool (decide_eq_false fun h => hl (by rw [h])).symm), Quiet.refl _⟩
end Go.Proofs.YtippdjaakcgeoaaGreat

namespace Go.Proofs.YtippdjaakcgeoaaGreat
open Go Go.RowKit

/-- The mark of a place in a list of bytes. -/
def mkB (k i : Nat) : UInt8 := UInt8.ofNat ((1000003 * (k + 7) + i) * 11400714819323198485 % 18446744073709551616 / 72057594037927936)
theorem mkB_int (k i : Nat) :
    IntKind.u64.wrap ((1000003 * ((k : Int) + 7) + (i : Int)) * 11400714819323198485) / 72057594037927936 % 256 = ((mkB k i).toNat : Int) := by
  unfold mkB
  rw [UInt8.toNat_ofNat']
  have e : (1000003 * ((k : Int) + 7) + (i : Int)) * 11400714819323198485 = (((1000003 * (k + 7) + i) * 11400714819323198485 : Nat) : Int) := by omega
  rw [e]
  generalize (1000003 * (k + 7) + i) * 11400714819323198485 = Y
  simp only [IntKind.wrap_u64]
  omega

theorem mark_any (w : World) (k i : Int) (hk : 0 ≤ k) (hk2 : k ≤ 1000000000000) (hi : 0 ≤ i) (hi2 : i ≤ 100000000000000) :
    Calls Tryz.prog 136 #[.int .i64 k, .int .i64 i] w fun e w' => e = .returned (.int .i64 (1000003 * (k + 7) + i)) ∧ w = w' := by
  go_enter Tryz.func136, Tryz.ntmps136
  go_wp2
  go_ret
  exact ⟨rfl, rfl⟩

theorem markByte_any (w : World) (k i : Int) (hk : 0 ≤ k) (hk2 : k ≤ 1000000000000) (hi : 0 ≤ i) (hi2 : i ≤ 100000000000000) :
    Calls Tryz.prog 93 #[.int .i64 k, .int .i64 i] w fun e w' => e = .returned (B8 (mkB k.toNat i.toNat)) ∧ w = w' := by
  obtain ⟨k', rfl⟩ := Int.eq_ofNat_of_zero_le hk
  obtain ⟨i', rfl⟩ := Int.eq_ofNat_of_zero_le hi
  go_enter Tryz.func93, Tryz.ntmps93
  go_wp2_with (go_at_call 136; refine (mark_any _ _ _ hk hk2 hi hi2).mono ?_; rintro e w1 ⟨rfl, rfl⟩)
  go_ret
  refine ⟨ret_eq ?_, rfl⟩
  show Value.int IntKind.u8 _ = Value.int IntKind.u8 _
  rw [Int.toNat_natCast, Int.toNat_natCast, ← mkB_int k' i']

/-- The marks behind what is lent. -/
def behind : List UInt8 := (List.range 12).map (mkB 1)
/-- What 'LentBytes' hands out: a slice with marks in its spare room. -/
def Lent (w : World) (A : Option Addr) (ys : List UInt8) : Prop := Own w 5 1 A (ys.length + 12) (ys.length + 12) ((ys ++ behind).map B8)

def LentRel (w : World) (g : Nat) (ys : List UInt8) (v i : Value) (wr : World) : Prop :=
  ∃ k : Nat, k ≤ 12 ∧ i = .int .i64 k ∧ v = .slice (some ⟨g, 0, none⟩) (ys.length + k) (ys.length + 12) ∧ Own wr 5 1 (some ⟨g, 0, none⟩) (ys.length + k) (ys.length + 12) ((ys ++ (List.range k).map (mkB 1)).map B8) ∧ Nw w wr

set_option maxRecDepth 100000 in
theorem lent_u8 (w : World) (F : Nat → Prop) (A : Option Addr) (c : Nat) (ys : List UInt8) (h : Sl w F A (ys.map B8)) (hsz : ys.length ≤ 1000000000000) :
    Calls Tryz.prog 42 #[.slice A ys.length c] w fun e w' => ∃ g, e = .returned (.slice (some ⟨g, 0, none⟩) ys.length (ys.length + 12)) ∧ Lent w' (some ⟨g, 0, none⟩) ys ∧ Nw w w' ∧ w.heap.size ≤ g := by
  go_enter Tryz.func42, Tryz.ntmps42
  go_wp2_with (first | (at_make; refine wl_make0 rfl _ _ _ rfl 1 (.int .u8 0) Tryz.underlying48 info_u8 .i64 .i64 ((ys.length : Int) + 12) (ys.length + 12) rfl rfl (by omega) (by omega) (by unfold maxLen; omega) ?_; intro w1 ho1 hq1; have hs1 := h.fr hq1 (fun _ _ h => h)) | (at_builtin; refine wl_append2 rfl _ _ _ rfl 1 (.int .u8 0) Tryz.underlying48 info_u8 rfl (by decide) rfl ho1 rfl hs1 (by simp) (B8_oneCell ys) (by omega) (by unfold maxLen; omega) ?_; intro A' cap' w2 hap))
  rcases hap with ⟨ho2, _, ⟨_, rfl, rfl, hf2⟩ | ⟨hlt, _⟩⟩
  rotate_left
  · omega
  simp only [Nat.zero_add, List.nil_append] at ho2 ⊢
  have hq2 : Nw w w2 := hq1.new hf2 (fun k hk => by rw [(inA_some _ _).1 hk]; exact Nat.le_refl _)
  clear hf2 ho1 hs1 hq1
  go_wp2_with fail
  go_loopw [3, 4] (fun v i wr => LentRel w w.heap.size ys v i wr) (fun _ i _ => 12 - (intOf i).toNat)
  case atStart => exact ⟨0, by omega, rfl, rfl, by simpa using ho2, hq2⟩
  case round =>
    obtain ⟨k, hk, rfl, rfl, ho, hq⟩ := hrel
    by_cases hlt : k < 12
    · go_wp2_with (first | (go_at_call 93; refine (markByte_any _ _ _ (by omega) (by omega) (by omega) (by omega)).mono ?_; rintro e w3 ⟨rfl, rfl⟩) | (at_builtin; refine wl_append2 rfl _ _ _ rfl 1 (.int .u8 0) Tryz.underlying48 info_u8 rfl (by decide) rfl (ho.alloc _) rfl ((Blk.new _ _ _).sl 0 1) rfl (B8_oneCell [mkB 1 k]) (by omega) (by unfold maxLen; omega) ?_; intro A' cap' w2 hap))
      rcases hap with ⟨ho3, _, ⟨_, rfl, rfl, hf3⟩ | ⟨hlt, _⟩⟩
      rotate_left
      · omega
      have hq3 : Nw w w2 := (hq.alloc _).new hf3 (fun k hk => by rw [(inA_some _ _).1 hk]; exact Nat.le_refl _)
      go_wp2_with fail
      go_roundw
      case rel =>
        refine ⟨k + 1, by omega, by go_num, by simp [Nat.add_assoc], ?_, hq3⟩
        rw [List.range_succ]
        have e : ys.length + (k + 1) = ys.length + k + 1 := by omega
        rw [e]
        simpa [Int.toNat_natCast] using ho3
      case measure => simp [intOf]; omega
    · have hk12 : k = 12 := by omega
      subst hk12
      have hs := slice_h (P := Tryz.prog) 48 under_bytes 1 size_bytes (some ⟨w.heap.size, 0, none⟩) (ys.length + 12) (ys.length + 12) ys.length (by omega)
      go_wp2_with fail
      go_ret
      exact ⟨_, rfl, ho, hq, Nat.le_refl _⟩

/-- 'CopyBytes'. -/
theorem copy_u8 (w : World) (F : Nat → Prop) (A : Option Addr) (c : Nat) (ys : List UInt8) (h : Sl w F A (ys.map B8)) (hsz : ys.length ≤ 1000000000000) :
    Calls Tryz.prog 135 #[.slice A ys.length c] w fun e w' => ∃ A' c', e = .returned (.slice A' ys.length c') ∧ Own w' 5 1 A' ys.length c' (ys.map B8) ∧ Nw w w' ∧ ∀ k, inA A' k → w.heap.size ≤ k := by
  go_enter Tryz.func135, Tryz.ntmps135
  go_wp2_with (at_builtin; refine wl_append rfl _ _ _ rfl 1 (.int .u8 0) Tryz.underlying48 info_u8 rfl (by decide) rfl (Own.nil _ _ _) rfl h (by simp) (B8_oneCell ys) (by omega) (by unfold maxLen; omega) ?_; intro A' cap' w1 ho hf hin)
  go_ret
  simp only [Nat.zero_add, List.nil_append] at ho
  exact ⟨A', cap', by simp, ho, hf.mono fun k hk => (inA_none k hk).elim, fun k hk => (hin k hk).elim (fun h => (inA_none k h).elim) (fun h => by omega)⟩

theorem quiet_left {P : Program} {f : FuncId} {args : Array Value} {w : World} {n : Nat} {v : Value}
    (h : Calls P f args (w.drewN n) fun e w' => e = .returned v ∧ w.drewN n = w') : Calls P f args (w.drewN n) fun e w'' => e = .returned v ∧ ∃ m, w'' = w.drewN m :=
  h.mono fun _ _ ⟨he, hw⟩ => ⟨he, n, hw.symm⟩
def KeptRel (w : World) (ys : List UInt8) (i : Value) (wr : World) : Prop := ∃ k : Nat, k ≤ ys.length + 12 ∧ i = .int .i64 k ∧ Quiet w wr

set_option maxRecDepth 100000 in
set_option maxHeartbeats 1000000 in
theorem kept_u8 (w : World) (F : Nat → Prop) (A1 A2 : Option Addr) (c2 : Nat) (ys : List UInt8) (h1 : Lent w A1 ys) (h2 : Sl w F A2 (ys.map B8)) (hsz : ys.length ≤ 1000000000000) :
    Calls Tryz.prog 46 #[.slice A1 ys.length (ys.length + 12), .slice A2 ys.length c2] w fun e w' => e = .returned (.bool true) ∧ Quiet w w' := by
  have hs := slice_h (P := Tryz.prog) 48 under_bytes 1 size_bytes A1 ys.length (ys.length + 12) (ys.length + 12) (Nat.le_refl _)
  go_enter Tryz.func46, Tryz.ntmps46
  go_wp2_with fail
  go_loopw [6] (fun i wr => KeptRel w ys i wr) (fun i _ => ys.length + 12 - (intOf i).toNat)
  case atStart => exact ⟨0, by omega, rfl, Quiet.refl _⟩
  case round =>
    obtain ⟨k, hk, rfl, hq⟩ := hrel
    by_cases hlt : k < ys.length + 12
    · obtain ⟨b1, o1, rfl, _, hc1⟩ := h1.sl.get (k := k) (by simp [behind]; omega)
      rw [← hq.cell] at hc1
      have hi0 : (k : Int) < (ys.length : Int) + 12 := by omega
      by_cases hlt2 : k < ys.length
      · obtain ⟨b2, o2, rfl, _, hc2⟩ := h2.get hlt2
        rw [← hq.cell] at hc2
        rw [List.getElem_append_left hlt2] at hc1
        have hi1 : (k : Int) < (ys.length : Int) := by omega
        have hi2 : decide ((ys.length : Int) ≤ (k : Int)) = false := by simp; omega
        have hi3 : decide (ys.length ≤ k) = false := by simp; omega
        go_wp2_with fail
        go_quiet (fail)
        go_wp2_with fail
        go_roundw
        case rel => exact ⟨k + 1, by omega, by go_num, hq.drewN _⟩
        case measure => simp [intOf]; omega
      · rw [List.getElem_append_right (by omega)] at hc1
        have hv : behind[k - ys.length]'(by simp [behind]; omega) = mkB 1 (k - ys.length) := by simp [behind]
        rw [hv] at hc1
        clear hv
        have hi1 : decide ((k : Int) < (ys.length : Int)) = false := by simp; omega
        have hi3 : decide (k < ys.length) = false := by simp; omega
        have hi2 : (ys.length : Int) ≤ (k : Int) := by omega
        have hmk := fun w => markByte_any w 1 ((k : Int) - (ys.length : Int)) (by omega) (by omega) (by omega) (by omega)
        have hk2 : ((k : Int) - (ys.length : Int)).toNat = k - ys.length := by omega
        rw [hk2] at hmk
        clear hk2
        have HM := Lib.hid hmk
        clear hmk
        have hwr : IntKind.i64.wrap ((k : Int) - (ys.length : Int)) = (k : Int) - (ys.length : Int) := IntWalk.i64_in _ (by omega)
        go_wp2_with fail
        go_quiet ((go_at_call 93; exact quiet_left (HM.out _)))
        go_wp2_with fail
        go_roundw
        case rel => exact ⟨k + 1, by omega, by go_num, hq.drewN _⟩
        case measure => simp [intOf]; omega
    · go_wp2_with fail
      go_ret
      exact ⟨rfl, hq⟩

/-? kit_OverBytes -/
end Go.Proofs.YtippdjaakcgeoaaGreat
