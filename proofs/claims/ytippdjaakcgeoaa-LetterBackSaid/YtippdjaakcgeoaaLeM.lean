/- Letters in memory: their cells, where their lists lie. -/
import Derived.Test.YtippdjaakcgeoaaLeP
import Derived.Test.YtippdjaakcgeoaaMemB
namespace Go.Proofs.Ytippdjaakcgeoaa
open Go Go.RowKit

/-- A list that lies somewhere. -/
structure Ls (α : Type) where
  a : Option Addr
  c : Nat
  l : List α
abbrev Ls.v {α : Type} (s : Ls α) : Value := .slice s.a s.l.length s.c
structure CfgM where
  v : Ls Int
  o : Ls Int
  l : Ls Int
  w : Ls Int
structure EntM where
  term : Int
  kind : Int
  cmd : Ls UInt8
  cfg : CfgM
structure BasM where
  index : Int
  term : Int
  cfg : CfgM
structure LetM where
  kind : Int
  group : Int
  src : Int
  dst : Int
  term : Int
  index : Int
  logt : Int
  commit : Int
  ok : Bool
  ents : Ls EntM
  base : BasM
  size : Int
  at_ : Int
  tag : Int
  bytes : Ls UInt8
def lsZ {α : Type} : Ls α := ⟨none, 0, []⟩
def cfgMZ : CfgM := ⟨lsZ, lsZ, lsZ, lsZ⟩
def entMZ : EntM := ⟨0, 0, lsZ, cfgMZ⟩
def basMZ : BasM := ⟨0, 0, cfgMZ⟩
def letMZ : LetM := ⟨0, 0, 0, 0, 0, 0, 0, 0, false, lsZ, basMZ, 0, 0, 0, lsZ⟩
/-- What they say, wherever they lie. -/
abbrev CfgM.x (c : CfgM) : Cfg := ⟨c.v.l, c.o.l, c.l.l, c.w.l⟩
abbrev EntM.x (e : EntM) : Ent := ⟨e.term, e.kind, e.cmd.l, e.cfg.x⟩
abbrev BasM.x (b : BasM) : Bas := ⟨b.index, b.term, b.cfg.x⟩
abbrev LetM.x (x : LetM) : LetF := ⟨x.kind, x.group, x.src, x.dst, x.term, x.index, x.logt, x.commit, x.ok, x.ents.l.map EntM.x, x.base.x, x.size, x.at_, x.tag, x.bytes.l⟩
abbrev U8V (n : Int) : Value := .int .u8 n
/-- Their cells. -/
abbrev cfgL (c : CfgM) : List Value := [c.v.v, c.o.v, c.l.v, c.w.v]
abbrev entL (e : EntM) : List Value := [I64 e.term, U8V e.kind, e.cmd.v, e.cfg.v.v, e.cfg.o.v, e.cfg.l.v, e.cfg.w.v]
abbrev basL (b : BasM) : List Value := [I64 b.index, I64 b.term, b.cfg.v.v, b.cfg.o.v, b.cfg.l.v, b.cfg.w.v]
abbrev letL (x : LetM) : List Value :=
  [U8V x.kind, I64 x.group, I64 x.src, I64 x.dst, I64 x.term, I64 x.index, I64 x.logt, I64 x.commit, .bool x.ok, x.ents.v, I64 x.base.index, I64 x.base.term, x.base.cfg.v.v, x.base.cfg.o.v, x.base.cfg.l.v, x.base.cfg.w.v, I64 x.size, I64 x.at_, I64 x.tag, x.bytes.v]
abbrev cfgA (c : CfgM) : Array Value := #[c.v.v, c.o.v, c.l.v, c.w.v]
abbrev entA (e : EntM) : Array Value := #[I64 e.term, U8V e.kind, e.cmd.v, e.cfg.v.v, e.cfg.o.v, e.cfg.l.v, e.cfg.w.v]
abbrev basA (b : BasM) : Array Value := #[I64 b.index, I64 b.term, b.cfg.v.v, b.cfg.o.v, b.cfg.l.v, b.cfg.w.v]
abbrev letA (x : LetM) : Array Value :=
  #[U8V x.kind, I64 x.group, I64 x.src, I64 x.dst, I64 x.term, I64 x.index, I64 x.logt, I64 x.commit, .bool x.ok, x.ents.v, I64 x.base.index, I64 x.base.term, x.base.cfg.v.v, x.base.cfg.o.v, x.base.cfg.l.v, x.base.cfg.w.v, I64 x.size, I64 x.at_, I64 x.tag, x.bytes.v]
def entF (e : EntM) : List Value := entL e
def letF (x : LetM) : List Value := letL x
def intsC (l : List Int) : List Value := l.map I64
def entsC (l : List EntM) : List Value := (l.map entF).flatten
def letsC (l : List LetM) : List Value := (l.map letF).flatten
theorem entsC_len (l : List EntM) : (entsC l).length = l.length * 7 := by
  unfold entsC
  induction l with
  | nil => rfl
  | cons a l ih => rw [List.map_cons, List.flatten_cons, List.length_append, ih, List.length_cons]; show 7 + _ = _; omega
theorem letsC_len (l : List LetM) : (letsC l).length = l.length * 20 := by
  unfold letsC
  induction l with
  | nil => rfl
  | cons a l ih => rw [List.map_cons, List.flatten_cons, List.length_append, ih, List.length_cons]; show 20 + _ = _; omega
theorem entsC_append (l m : List EntM) : entsC (l ++ m) = entsC l ++ entsC m := by simp [entsC]
theorem letsC_append (l m : List LetM) : letsC (l ++ m) = letsC l ++ letsC m := by simp [letsC]
theorem intsC_append (l m : List Int) : intsC (l ++ m) = intsC l ++ intsC m := by simp [intsC]
theorem entsC_one (e : EntM) : entsC [e] = entL e := by simp [entsC, entF]
theorem letsC_one (x : LetM) : letsC [x] = letL x := by simp [letsC, letF]
theorem intsC_len (l : List Int) : (intsC l).length = l.length := by simp [intsC]
theorem intsC_cell (l : List Int) : ∀ u ∈ intsC l, u.oneCell' = true := by
  intro u hu
  obtain ⟨n, _, rfl⟩ := List.mem_map.1 hu
  rfl
theorem entL_cell (e : EntM) : ∀ u ∈ entL e, u.oneCell' = true := by
  intro u hu
  simp only [List.mem_cons, List.not_mem_nil, or_false] at hu
  rcases hu with rfl | rfl | rfl | rfl | rfl | rfl | rfl <;> rfl
theorem entsC_cell (l : List EntM) : ∀ u ∈ entsC l, u.oneCell' = true := by
  intro u hu
  obtain ⟨c, hc, hu⟩ := List.mem_flatten.1 hu
  obtain ⟨e, _, rfl⟩ := List.mem_map.1 hc
  exact entL_cell e u hu
theorem letL_cell (x : LetM) : ∀ u ∈ letL x, u.oneCell' = true := by
  intro u hu
  simp only [List.mem_cons, List.not_mem_nil, or_false] at hu
  rcases hu with rfl | rfl | rfl | rfl | rfl | rfl | rfl | rfl | rfl | rfl | rfl | rfl | rfl | rfl | rfl | rfl | rfl | rfl | rfl | rfl <;> rfl
theorem letsC_cell (l : List LetM) : ∀ u ∈ letsC l, u.oneCell' = true := by
  intro u hu
  obtain ⟨c, hc, hu⟩ := List.mem_flatten.1 hu
  obtain ⟨x, _, rfl⟩ := List.mem_map.1 hc
  exact letL_cell x u hu
theorem cfgA_one (c : CfgM) : (cfgA c).all (·.oneCell') = true := by rw [List.all_toArray]; simp only [List.all_cons, List.all_nil]; rfl
theorem entA_one (e : EntM) : (entA e).all (·.oneCell') = true := by rw [List.all_toArray]; simp only [List.all_cons, List.all_nil]; rfl
theorem basA_one (b : BasM) : (basA b).all (·.oneCell') = true := by rw [List.all_toArray]; simp only [List.all_cons, List.all_nil]; rfl
theorem letA_one (x : LetM) : (letA x).all (·.oneCell') = true := by rw [List.all_toArray]; simp only [List.all_cons, List.all_nil]; rfl

/-- A list that lies in blocks of F. -/
structure LsIn {α : Type} (w : World) (F : Nat → Prop) (f : List α → List Value) (s : Ls α) : Prop where
  sl : Sl w F s.a (f s.l)
  cap : s.l.length ≤ s.c ∧ s.c ≤ maxLen
def bytesC (l : List UInt8) : List Value := l.map B8
structure CfgIn (w : World) (F : Nat → Prop) (c : CfgM) : Prop where
  v : LsIn w F intsC c.v
  o : LsIn w F intsC c.o
  l : LsIn w F intsC c.l
  w : LsIn w F intsC c.w
structure EntIn (w : World) (F : Nat → Prop) (e : EntM) : Prop where
  kind : 0 ≤ e.kind ∧ e.kind ≤ 255
  cmd : LsIn w F bytesC e.cmd
  cfg : CfgIn w F e.cfg
structure LetIn (w : World) (F : Nat → Prop) (x : LetM) : Prop where
  kind : 0 ≤ x.kind ∧ x.kind ≤ 255
  ents : LsIn w F entsC x.ents
  each : ∀ e ∈ x.ents.l, EntIn w F e
  cfg : CfgIn w F x.base.cfg
  bytes : LsIn w F bytesC x.bytes
section
variable {w w' : World} {F F' S : Nat → Prop} {α : Type} {f : List α → List Value}
theorem LsIn.fr {s : Ls α} (h : LsIn w F f s) (hf : Fr S w w') (hn : ∀ k, F k → ¬ S k) : LsIn w' F f s := ⟨h.sl.fr hf hn, h.cap⟩
theorem LsIn.mono {s : Ls α} (h : LsIn w F f s) (hF : ∀ k, F k → k < w.heap.size → F' k) : LsIn w F' f s := ⟨h.sl.mono hF, h.cap⟩
theorem CfgIn.fr {c : CfgM} (h : CfgIn w F c) (hf : Fr S w w') (hn : ∀ k, F k → ¬ S k) : CfgIn w' F c := ⟨h.v.fr hf hn, h.o.fr hf hn, h.l.fr hf hn, h.w.fr hf hn⟩
theorem CfgIn.mono {c : CfgM} (h : CfgIn w F c) (hF : ∀ k, F k → k < w.heap.size → F' k) : CfgIn w F' c := ⟨h.v.mono hF, h.o.mono hF, h.l.mono hF, h.w.mono hF⟩
theorem EntIn.fr {e : EntM} (h : EntIn w F e) (hf : Fr S w w') (hn : ∀ k, F k → ¬ S k) : EntIn w' F e := ⟨h.kind, h.cmd.fr hf hn, h.cfg.fr hf hn⟩
theorem EntIn.mono {e : EntM} (h : EntIn w F e) (hF : ∀ k, F k → k < w.heap.size → F' k) : EntIn w F' e := ⟨h.kind, h.cmd.mono hF, h.cfg.mono hF⟩
theorem LetIn.fr {x : LetM} (h : LetIn w F x) (hf : Fr S w w') (hn : ∀ k, F k → ¬ S k) : LetIn w' F x := ⟨h.kind, h.ents.fr hf hn, fun e he => (h.each e he).fr hf hn, h.cfg.fr hf hn, h.bytes.fr hf hn⟩
theorem LetIn.mono {x : LetM} (h : LetIn w F x) (hF : ∀ k, F k → k < w.heap.size → F' k) : LetIn w F' x := ⟨h.kind, h.ents.mono hF, fun e he => (h.each e he).mono hF, h.cfg.mono hF, h.bytes.mono hF⟩
theorem LsIn.nw {s : Ls α} (h : LsIn w F f s) (hf : Nw w w') : LsIn w' F f s := h.fr hf (fun _ _ h => h)
theorem CfgIn.nw {c : CfgM} (h : CfgIn w F c) (hf : Nw w w') : CfgIn w' F c := h.fr hf (fun _ _ h => h)
theorem EntIn.nw {e : EntM} (h : EntIn w F e) (hf : Nw w w') : EntIn w' F e := h.fr hf (fun _ _ h => h)
theorem LetIn.nw {x : LetM} (h : LetIn w F x) (hf : Nw w w') : LetIn w' F x := h.fr hf (fun _ _ h => h)
theorem LsIn.nil (w : World) (F : Nat → Prop) (f : List α → List Value) (hf : f [] = []) : LsIn w F f lsZ := ⟨by show Sl w F none (f []); rw [hf]; exact Sl.nil _ _ _, Nat.le_refl _, Nat.zero_le _⟩
theorem CfgIn.zero (w : World) (F : Nat → Prop) : CfgIn w F cfgMZ := ⟨LsIn.nil w F intsC rfl, LsIn.nil w F intsC rfl, LsIn.nil w F intsC rfl, LsIn.nil w F intsC rfl⟩
theorem EntIn.zero (w : World) (F : Nat → Prop) : EntIn w F entMZ := ⟨⟨by decide, by decide⟩, LsIn.nil w F bytesC rfl, CfgIn.zero w F⟩
theorem LetIn.zero (w : World) (F : Nat → Prop) : LetIn w F letMZ := ⟨⟨by decide, by decide⟩, LsIn.nil w F entsC rfl, (by intro e he; cases he), CfgIn.zero w F, LsIn.nil w F bytesC rfl⟩

/-- Entries, one behind the other. -/
structure EntsIn (w : World) (F : Nat → Prop) (s : Ls EntM) : Prop where
  ls : LsIn w F entsC s
  each : ∀ x ∈ s.l, EntIn w F x
theorem EntsIn.fr {s : Ls EntM} (h : EntsIn w F s) (hf : Fr S w w') (hn : ∀ k, F k → ¬ S k) : EntsIn w' F s := ⟨h.ls.fr hf hn, fun e he => (h.each e he).fr hf hn⟩
theorem EntsIn.mono {s : Ls EntM} (h : EntsIn w F s) (hF : ∀ k, F k → k < w.heap.size → F' k) : EntsIn w F' s := ⟨h.ls.mono hF, fun e he => (h.each e he).mono hF⟩
theorem EntsIn.nw {s : Ls EntM} (h : EntsIn w F s) (hf : Nw w w') : EntsIn w' F s := h.fr hf (fun _ _ h => h)
/-- Letters, one behind the other. -/
structure LetsIn (w : World) (F : Nat → Prop) (s : Ls LetM) : Prop where
  ls : LsIn w F letsC s
  each : ∀ x ∈ s.l, LetIn w F x
theorem LetsIn.fr {s : Ls LetM} (h : LetsIn w F s) (hf : Fr S w w') (hn : ∀ k, F k → ¬ S k) : LetsIn w' F s := ⟨h.ls.fr hf hn, fun e he => (h.each e he).fr hf hn⟩
theorem LetsIn.mono {s : Ls LetM} (h : LetsIn w F s) (hF : ∀ k, F k → k < w.heap.size → F' k) : LetsIn w F' s := ⟨h.ls.mono hF, fun e he => (h.each e he).mono hF⟩
theorem LetsIn.nw {s : Ls LetM} (h : LetsIn w F s) (hf : Nw w w') : LetsIn w' F s := h.fr hf (fun _ _ h => h)

theorem flat_get {α : Type} (f : α → List Value) (C : Nat) (l : List α) (hC : ∀ x ∈ l, (f x).length = C) (i j : Nat) (hi : i < l.length) (hj : j < C) : ((l.map f).flatten)[i * C + j]? = (f l[i])[j]? := by
  induction l generalizing i with
  | nil => simp at hi
  | cons x l ih =>
    rw [List.map_cons, List.flatten_cons]
    have hx := hC x List.mem_cons_self
    cases i with
    | zero =>
      rw [List.getElem?_append_left (by omega), Nat.zero_mul, Nat.zero_add]
      rfl
    | succ i =>
      rw [List.getElem?_append_right (by rw [hx, Nat.succ_mul]; omega), hx]
      have e : (i + 1) * C + j - C = i * C + j := by rw [Nat.succ_mul]; omega
      rw [e]
      exact ih (fun y hy => hC y (List.mem_cons_of_mem _ hy)) i (by simpa using hi)
/-- The cells of one of a list of structs. -/
theorem Sl.struct {A : Option Addr} {f : α → List Value} {C : Nat} (hC0 : 0 < C) {l : List α} (hC : ∀ x ∈ l, (f x).length = C) (h : Sl w F A ((l.map f).flatten)) {k : Nat} (hk : k < l.length) :
    ∃ b o, A = some ⟨b, o, none⟩ ∧ F b ∧ b < w.heap.size ∧ ∀ j u, (f l[k])[j]? = some u → w.cell? ⟨b, o + k * C + j, none⟩ = some u := by
  have hf := flat_get f C l hC k
  obtain ⟨u0, hu0⟩ : ∃ u, (f l[k])[0]? = some u := ⟨_, List.getElem?_eq_getElem (by rw [hC _ (List.getElem_mem hk)]; exact hC0)⟩
  have h0 := (hf 0 hk hC0).trans hu0
  obtain ⟨b, o, hA, hF, hb, hc⟩ := h.at_ (by intro e; rw [e] at h0; cases h0)
  refine ⟨b, o, hA, hF, hb, fun j u hu => ?_⟩
  have hj : j < C := by
    rcases Nat.lt_or_ge j C with h | h
    · exact h
    · rw [List.getElem?_eq_none (by rw [hC _ (List.getElem_mem hk)]; exact h)] at hu; cases hu
  rw [Nat.add_assoc]
  exact hc _ u ((hf j hk hj).trans hu)
theorem Sl.ent {A : Option Addr} {l : List EntM} (h : Sl w F A (entsC l)) {k : Nat} (hk : k < l.length) :
    ∃ b o, A = some ⟨b, o, none⟩ ∧ F b ∧ b < w.heap.size ∧ ∀ j u, (entL l[k])[j]? = some u → w.cell? ⟨b, o + k * 7 + j, none⟩ = some u := Sl.struct (f := entF) (by omega) (fun _ _ => rfl) h hk
theorem Sl.let_ {A : Option Addr} {l : List LetM} (h : Sl w F A (letsC l)) {k : Nat} (hk : k < l.length) :
    ∃ b o, A = some ⟨b, o, none⟩ ∧ F b ∧ b < w.heap.size ∧ ∀ j u, (letL l[k])[j]? = some u → w.cell? ⟨b, o + k * 20 + j, none⟩ = some u := Sl.struct (f := letF) (by omega) (fun _ _ => rfl) h hk
theorem LsIn.pre {s : Ls α} {z : Nat} (h : LsIn w F f s) (_hz : ∀ l : List α, (f l).length = l.length * z) (ht : ∀ (l m : List α), f (l ++ m) = f l ++ f m) (k : Nat) : LsIn w F f ⟨s.a, s.c, s.l.take k⟩ := by
  refine ⟨?_, ?_, h.cap.2⟩
  · have e : f (s.l.take k) = (f s.l).take (f (s.l.take k)).length := by
      have e1 := ht (s.l.take k) (s.l.drop k)
      rw [List.take_append_drop] at e1
      rw [e1, List.take_left' rfl]
    show Sl w F s.a (f (s.l.take k))
    rw [e]
    exact h.sl.pre
  · show (s.l.take k).length ≤ s.c
    have := h.cap.1
    rw [List.length_take]; omega
end
/-- Sizes that are far within what a machine has. -/
structure CfgSz (c : CfgM) : Prop where
  v : c.v.l.length ≤ 1000000
  o : c.o.l.length ≤ 1000000
  l : c.l.l.length ≤ 1000000
  w : c.w.l.length ≤ 1000000
structure EntSz (e : EntM) : Prop where
  cmd : e.cmd.l.length ≤ 1000000
  cfg : CfgSz e.cfg
structure LetSz (x : LetM) : Prop where
  ents : x.ents.l.length ≤ 1000000
  each : ∀ e ∈ x.ents.l, EntSz e
  cfg : CfgSz x.base.cfg
  bytes : x.bytes.l.length ≤ 1000000
theorem CfgSz.zero : CfgSz cfgMZ := ⟨by decide, by decide, by decide, by decide⟩
theorem EntSz.zero : EntSz entMZ := ⟨by decide, CfgSz.zero⟩
theorem LetSz.zero : LetSz letMZ := ⟨by decide, (by intro e he; cases he), CfgSz.zero, by decide⟩
end Go.Proofs.Ytippdjaakcgeoaa
