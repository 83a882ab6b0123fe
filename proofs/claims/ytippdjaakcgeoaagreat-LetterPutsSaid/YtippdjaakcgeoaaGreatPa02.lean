/- Lemmas of the walks: LeM, WrA, WrB, RdA, RdD, KitA, KitB, Rec, Mid. (Laid together by shake.py.) -/
import Derived.Test.YtippdjaakcgeoaaGreatProg
import Derived.Deep.QuietTactic
import Derived.BigQuiet
import Derived.Laws.Tables
import Derived.Laws.Rows
import Derived.Deep.MidRow
import Derived.Test.YtippdjaakcgeoaaGreatPa01
set_option linter.unusedVariables false
set_option linter.unusedSimpArgs false
namespace Go.Proofs.YtippdjaakcgeoaaGreat
open Go Go.RowKit

/-- A list that lies somewhere. -/
structure Ls (α : Type) where
  a : Option Addr
  c : Nat
  l : List α
abbrev Ls.v {α : Type} (s : Ls α) : Value := .slice s.a s.l.length s.c
structure CfgM where
  v : Ls Int
  o : Ls Int
  l : Ls Int
  w : Ls Int
structure EntM where
  term : Int
  kind : Int
  cmd : Ls UInt8
  cfg : CfgM
structure BasM where
  index : Int
  term : Int
  cfg : CfgM
structure LetM where
  kind : Int
  group : Int
  src : Int
  dst : Int
  term : Int
  index : Int
  logt : Int
  commit : Int
  ok : Bool
  ents : Ls EntM
  base : BasM
  size : Int
  at_ : Int
  tag : Int
  bytes : Ls UInt8
def lsZ {α : Type} : Ls α := ⟨none, 0, []⟩
def cfgMZ : CfgM := ⟨lsZ, lsZ, lsZ, lsZ⟩
def entMZ : EntM := ⟨0, 0, lsZ, cfgMZ⟩
def basMZ : BasM := ⟨0, 0, cfgMZ⟩
def letMZ : LetM := ⟨0, 0, 0, 0, 0, 0, 0, 0, false, lsZ, basMZ, 0, 0, 0, lsZ⟩
/-- What they say, wherever they lie. -/
abbrev CfgM.x (c : CfgM) : Cfg := ⟨c.v.l, c.o.l, c.l.l, c.w.l⟩
abbrev EntM.x (e : EntM) : Ent := ⟨e.term, e.kind, e.cmd.l, e.cfg.x⟩
abbrev BasM.x (b : BasM) : Bas := ⟨b.index, b.term, b.cfg.x⟩
abbrev LetM.x (x : LetM) : LetF := ⟨x.kind, x.group, x.src, x.dst, x.term, x.index, x.logt, x.commit, x.ok, x.ents.l.map EntM.x, x.base.x, x.size, x.at_, x.tag, x.bytes.l⟩
abbrev U8V (n : Int) : Value := .int .u8 n
/-- Their cells. -/
abbrev cfgL (c : CfgM) : List Value := [c.v.v, c.o.v, c.l.v, c.w.v]
abbrev entL (e : EntM) : List Value := [I64 e.term, U8V e.kind, e.cmd.v, e.cfg.v.v, e.cfg.o.v, e.cfg.l.v, e.cfg.w.v]
abbrev letL (x : LetM) : List Value :=
  [U8V x.kind, I64 x.group, I64 x.src, I64 x.dst, I64 x.term, I64 x.index, I64 x.logt, I64 x.commit, .bool x.ok, x.ents.v, I64 x.base.index, I64 x.base.term, x.base.cfg.v.v, x.base.cfg.o.v, x.base.cfg.l.v, x.base.cfg.w.v, I64 x.size, I64 x.at_, I64 x.tag, x.bytes.v]
abbrev cfgA (c : CfgM) : Array Value := #[c.v.v, c.o.v, c.l.v, c.w.v]
abbrev entA (e : EntM) : Array Value := #[I64 e.term, U8V e.kind, e.cmd.v, e.cfg.v.v, e.cfg.o.v, e.cfg.l.v, e.cfg.w.v]
abbrev basA (b : BasM) : Array Value := #[I64 b.index, I64 b.term, b.cfg.v.v, b.cfg.o.v, b.cfg.l.v, b.cfg.w.v]
abbrev letA (x : LetM) : Array Value :=
  #[U8V x.kind, I64 x.group, I64 x.src, I64 x.dst, I64 x.term, I64 x.index, I64 x.logt, I64 x.commit, .bool x.ok, x.ents.v, I64 x.base.index, I64 x.base.term, x.base.cfg.v.v, x.base.cfg.o.v, x.base.cfg.l.v, x.base.cfg.w.v, I64 x.size, I64 x.at_, I64 x.tag, x.bytes.v]
def entF (e : EntM) : List Value := entL e
def letF (x : LetM) : List Value := letL x
def intsC (l : List Int) : List Value := l.map I64
def entsC (l : List EntM) : List Value := (l.map entF).flatten
def letsC (l : List LetM) : List Value := (l.map letF).flatten
theorem entsC_len (l : List EntM) : (entsC l).length = l.length * 7 := by
  unfold entsC
  induction l with
  | nil => rfl
  | cons a l ih => rw [List.map_cons, List.flatten_cons, List.length_append, ih, List.length_cons]; show 7 + _ = _; omega
theorem entsC_append (l m : List EntM) : entsC (l ++ m) = entsC l ++ entsC m := by simp [entsC]
theorem letsC_append (l m : List LetM) : letsC (l ++ m) = letsC l ++ letsC m := by simp [letsC]
theorem intsC_append (l m : List Int) : intsC (l ++ m) = intsC l ++ intsC m := by simp [intsC]
theorem entsC_one (e : EntM) : entsC [e] = entL e := by simp [entsC, entF]
theorem letsC_one (x : LetM) : letsC [x] = letL x := by simp [letsC, letF]
theorem intsC_cell (l : List Int) : ∀ u ∈ intsC l, u.oneCell' = true := by
  intro u hu
  obtain ⟨n, _, rfl⟩ := List.mem_map.1 hu
  rfl
theorem entL_cell (e : EntM) : ∀ u ∈ entL e, u.oneCell' = true := by
  intro u hu
  simp only [List.mem_cons, List.not_mem_nil, or_false] at hu
  rcases hu with rfl | rfl | rfl | rfl | rfl | rfl | rfl <;> rfl
theorem entsC_cell (l : List EntM) : ∀ u ∈ entsC l, u.oneCell' = true := by
  intro u hu
  obtain ⟨c, hc, hu⟩ := List.mem_flatten.1 hu
  obtain ⟨e, _, rfl⟩ := List.mem_map.1 hc
  exact entL_cell e u hu
theorem letL_cell (x : LetM) : ∀ u ∈ letL x, u.oneCell' = true := by
  intro u hu
  simp only [List.mem_cons, List.not_mem_nil, or_false] at hu
  rcases hu with rfl | rfl | rfl | rfl | rfl | rfl | rfl | rfl | rfl | rfl | rfl | rfl | rfl | rfl | rfl | rfl | rfl | rfl | rfl | rfl <;> rfl
theorem cfgA_one (c : CfgM) : (cfgA c).all (·.oneCell') = true := by rw [List.all_toArray]; simp only [List.all_cons, List.all_nil]; rfl
theorem entA_one (e : EntM) : (entA e).all (·.oneCell') = true := by rw [List.all_toArray]; simp only [List.all_cons, List.all_nil]; rfl
theorem letA_one (x : LetM) : (letA x).all (·.oneCell') = true := by rw [List.all_toArray]; simp only [List.all_cons, List.all_nil]; rfl

/-- A list that lies in blocks of F. -/
structure LsIn {α : Type} (w : World) (F : Nat → Prop) (f : List α → List Value) (s : Ls α) : Prop where
  sl : Sl w F s.a (f s.l)
  cap : s.l.length ≤ s.c ∧ s.c ≤ maxLen
def bytesC (l : List UInt8) : List Value := l.map B8
structure CfgIn (w : World) (F : Nat → Prop) (c : CfgM) : Prop where
  v : LsIn w F intsC c.v
  o : LsIn w F intsC c.o
  l : LsIn w F intsC c.l
  w : LsIn w F intsC c.w
structure EntIn (w : World) (F : Nat → Prop) (e : EntM) : Prop where
  kind : 0 ≤ e.kind ∧ e.kind ≤ 255
  cmd : LsIn w F bytesC e.cmd
  cfg : CfgIn w F e.cfg
structure LetIn (w : World) (F : Nat → Prop) (x : LetM) : Prop where
  kind : 0 ≤ x.kind ∧ x.kind ≤ 255
  ents : LsIn w F entsC x.ents
  each : ∀ e ∈ x.ents.l, EntIn w F e
  cfg : CfgIn w F x.base.cfg
  bytes : LsIn w F bytesC x.bytes
section
variable {w w' : World} {F F' S : Nat → Prop} {α : Type} {f : List α → List Value}
theorem LsIn.fr {s : Ls α} (h : LsIn w F f s) (hf : Fr S w w') (hn : ∀ k, F k → ¬ S k) : LsIn w' F f s := ⟨h.sl.fr hf hn, h.cap⟩
theorem LsIn.mono {s : Ls α} (h : LsIn w F f s) (hF : ∀ k, F k → k < w.heap.size → F' k) : LsIn w F' f s := ⟨h.sl.mono hF, h.cap⟩
theorem CfgIn.fr {c : CfgM} (h : CfgIn w F c) (hf : Fr S w w') (hn : ∀ k, F k → ¬ S k) : CfgIn w' F c := ⟨h.v.fr hf hn, h.o.fr hf hn, h.l.fr hf hn, h.w.fr hf hn⟩
theorem CfgIn.mono {c : CfgM} (h : CfgIn w F c) (hF : ∀ k, F k → k < w.heap.size → F' k) : CfgIn w F' c := ⟨h.v.mono hF, h.o.mono hF, h.l.mono hF, h.w.mono hF⟩
theorem EntIn.fr {e : EntM} (h : EntIn w F e) (hf : Fr S w w') (hn : ∀ k, F k → ¬ S k) : EntIn w' F e := ⟨h.kind, h.cmd.fr hf hn, h.cfg.fr hf hn⟩
theorem EntIn.mono {e : EntM} (h : EntIn w F e) (hF : ∀ k, F k → k < w.heap.size → F' k) : EntIn w F' e := ⟨h.kind, h.cmd.mono hF, h.cfg.mono hF⟩
theorem LetIn.fr {x : LetM} (h : LetIn w F x) (hf : Fr S w w') (hn : ∀ k, F k → ¬ S k) : LetIn w' F x := ⟨h.kind, h.ents.fr hf hn, fun e he => (h.each e he).fr hf hn, h.cfg.fr hf hn, h.bytes.fr hf hn⟩
theorem LetIn.mono {x : LetM} (h : LetIn w F x) (hF : ∀ k, F k → k < w.heap.size → F' k) : LetIn w F' x := ⟨h.kind, h.ents.mono hF, fun e he => (h.each e he).mono hF, h.cfg.mono hF, h.bytes.mono hF⟩
theorem LsIn.nw {s : Ls α} (h : LsIn w F f s) (hf : Nw w w') : LsIn w' F f s := h.fr hf (fun _ _ h => h)
theorem CfgIn.nw {c : CfgM} (h : CfgIn w F c) (hf : Nw w w') : CfgIn w' F c := h.fr hf (fun _ _ h => h)
theorem EntIn.nw {e : EntM} (h : EntIn w F e) (hf : Nw w w') : EntIn w' F e := h.fr hf (fun _ _ h => h)
theorem LetIn.nw {x : LetM} (h : LetIn w F x) (hf : Nw w w') : LetIn w' F x := h.fr hf (fun _ _ h => h)
theorem LsIn.nil (w : World) (F : Nat → Prop) (f : List α → List Value) (hf : f [] = []) : LsIn w F f lsZ := ⟨by show Sl w F none (f []); rw [hf]; exact Sl.nil _ _ _, Nat.le_refl _, Nat.zero_le _⟩
theorem CfgIn.zero (w : World) (F : Nat → Prop) : CfgIn w F cfgMZ := ⟨LsIn.nil w F intsC rfl, LsIn.nil w F intsC rfl, LsIn.nil w F intsC rfl, LsIn.nil w F intsC rfl⟩
theorem EntIn.zero (w : World) (F : Nat → Prop) : EntIn w F entMZ := ⟨⟨by decide, by decide⟩, LsIn.nil w F bytesC rfl, CfgIn.zero w F⟩
theorem LetIn.zero (w : World) (F : Nat → Prop) : LetIn w F letMZ := ⟨⟨by decide, by decide⟩, LsIn.nil w F entsC rfl, (by intro e he; cases he), CfgIn.zero w F, LsIn.nil w F bytesC rfl⟩

/-- Entries, one behind the other. -/
structure EntsIn (w : World) (F : Nat → Prop) (s : Ls EntM) : Prop where
  ls : LsIn w F entsC s
  each : ∀ x ∈ s.l, EntIn w F x
theorem EntsIn.fr {s : Ls EntM} (h : EntsIn w F s) (hf : Fr S w w') (hn : ∀ k, F k → ¬ S k) : EntsIn w' F s := ⟨h.ls.fr hf hn, fun e he => (h.each e he).fr hf hn⟩
theorem EntsIn.mono {s : Ls EntM} (h : EntsIn w F s) (hF : ∀ k, F k → k < w.heap.size → F' k) : EntsIn w F' s := ⟨h.ls.mono hF, fun e he => (h.each e he).mono hF⟩
theorem EntsIn.nw {s : Ls EntM} (h : EntsIn w F s) (hf : Nw w w') : EntsIn w' F s := h.fr hf (fun _ _ h => h)
/-- Letters, one behind the other. -/
structure LetsIn (w : World) (F : Nat → Prop) (s : Ls LetM) : Prop where
  ls : LsIn w F letsC s
  each : ∀ x ∈ s.l, LetIn w F x
theorem LetsIn.fr {s : Ls LetM} (h : LetsIn w F s) (hf : Fr S w w') (hn : ∀ k, F k → ¬ S k) : LetsIn w' F s := ⟨h.ls.fr hf hn, fun e he => (h.each e he).fr hf hn⟩
theorem LetsIn.mono {s : Ls LetM} (h : LetsIn w F s) (hF : ∀ k, F k → k < w.heap.size → F' k) : LetsIn w F' s := ⟨h.ls.mono hF, fun e he => (h.each e he).mono hF⟩
theorem LetsIn.nw {s : Ls LetM} (h : LetsIn w F s) (hf : Nw w w') : LetsIn w' F s := h.fr hf (fun _ _ h => h)

theorem flat_get {α : Type} (f : α → List Value) (C : Nat) (l : List α) (hC : ∀ x ∈ l, (f x).length = C) (i j : Nat) (hi : i < l.length) (hj : j < C) : ((l.map f).flatten)[i * C + j]? = (f l[i])[j]? := by
  induction l generalizing i with
  | nil => simp at hi
  | cons x l ih =>
    rw [List.map_cons, List.flatten_cons]
    have hx := hC x List.mem_cons_self
    cases i with
    | zero =>
      rw [List.getElem?_append_left (by omega), Nat.zero_mul, Nat.zero_add]
      rfl
    | succ i =>
      rw [List.getElem?_append_right (by rw [hx, Nat.succ_mul]; omega), hx]
      have e : (i + 1) * C + j - C = i * C + j := by rw [Nat.succ_mul]; omega
      rw [e]
      exact ih (fun y hy => hC y (List.mem_cons_of_mem _ hy)) i (by simpa using hi)
/-- The cells of one of a list of structs. -/
theorem Sl.struct {A : Option Addr} {f : α → List Value} {C : Nat} (hC0 : 0 < C) {l : List α} (hC : ∀ x ∈ l, (f x).length = C) (h : Sl w F A ((l.map f).flatten)) {k : Nat} (hk : k < l.length) :
    ∃ b o, A = some ⟨b, o, none⟩ ∧ F b ∧ b < w.heap.size ∧ ∀ j u, (f l[k])[j]? = some u → w.cell? ⟨b, o + k * C + j, none⟩ = some u := by
  have hf := flat_get f C l hC k
  obtain ⟨u0, hu0⟩ : ∃ u, (f l[k])[0]? = some u := ⟨_, List.getElem?_eq_getElem (by rw [hC _ (List.getElem_mem hk)]; exact hC0)⟩
  have h0 := (hf 0 hk hC0).trans hu0
  obtain ⟨b, o, hA, hF, hb, hc⟩ := h.at_ (by intro e; rw [e] at h0; cases h0)
  refine ⟨b, o, hA, hF, hb, fun j u hu => ?_⟩
  have hj : j < C := by
    rcases Nat.lt_or_ge j C with h | h
    · exact h
    · rw [List.getElem?_eq_none (by rw [hC _ (List.getElem_mem hk)]; exact h)] at hu; cases hu
  rw [Nat.add_assoc]
  exact hc _ u ((hf j hk hj).trans hu)
theorem Sl.ent {A : Option Addr} {l : List EntM} (h : Sl w F A (entsC l)) {k : Nat} (hk : k < l.length) :
    ∃ b o, A = some ⟨b, o, none⟩ ∧ F b ∧ b < w.heap.size ∧ ∀ j u, (entL l[k])[j]? = some u → w.cell? ⟨b, o + k * 7 + j, none⟩ = some u := Sl.struct (f := entF) (by omega) (fun _ _ => rfl) h hk
theorem Sl.let_ {A : Option Addr} {l : List LetM} (h : Sl w F A (letsC l)) {k : Nat} (hk : k < l.length) :
    ∃ b o, A = some ⟨b, o, none⟩ ∧ F b ∧ b < w.heap.size ∧ ∀ j u, (letL l[k])[j]? = some u → w.cell? ⟨b, o + k * 20 + j, none⟩ = some u := Sl.struct (f := letF) (by omega) (fun _ _ => rfl) h hk
theorem LsIn.pre {s : Ls α} {z : Nat} (h : LsIn w F f s) (_hz : ∀ l : List α, (f l).length = l.length * z) (ht : ∀ (l m : List α), f (l ++ m) = f l ++ f m) (k : Nat) : LsIn w F f ⟨s.a, s.c, s.l.take k⟩ := by
  refine ⟨?_, ?_, h.cap.2⟩
  · have e : f (s.l.take k) = (f s.l).take (f (s.l.take k)).length := by
      have e1 := ht (s.l.take k) (s.l.drop k)
      rw [List.take_append_drop] at e1
      rw [e1, List.take_left' rfl]
    show Sl w F s.a (f (s.l.take k))
    rw [e]
    exact h.sl.pre
  · show (s.l.take k).length ≤ s.c
    have := h.cap.1
    rw [List.length_take]; omega
end
/-- Sizes that are far within what a machine has. -/
structure CfgSz (c : CfgM) : Prop where
  v : c.v.l.length ≤ 1000000
  o : c.o.l.length ≤ 1000000
  l : c.l.l.length ≤ 1000000
  w : c.w.l.length ≤ 1000000
structure EntSz (e : EntM) : Prop where
  cmd : e.cmd.l.length ≤ 1000000
  cfg : CfgSz e.cfg
structure LetSz (x : LetM) : Prop where
  ents : x.ents.l.length ≤ 1000000
  each : ∀ e ∈ x.ents.l, EntSz e
  cfg : CfgSz x.base.cfg
  bytes : x.bytes.l.length ≤ 1000000
theorem CfgSz.zero : CfgSz cfgMZ := ⟨by decide, by decide, by decide, by decide⟩
theorem EntSz.zero : EntSz entMZ := ⟨by decide, CfgSz.zero⟩
theorem LetSz.zero : LetSz letMZ := ⟨by decide, (by intro e he; cases he), CfgSz.zero, by decide⟩
end Go.Proofs.YtippdjaakcgeoaaGreat

namespace Go.Proofs.YtippdjaakcgeoaaGreat
open Go Go.RowKit

theorem info_u8 : (Tryz.prog.info? 5).map (fun i => (i.zero, i.size, i.bytes)) = some (some (.int .u8 0), 1, 1) := by kernel_rfl

theorem size_bytes (w : World) : (sizeOf (Tryz.prog.elem 48)).run Tryz.prog w = .ok 1 w := by kernel_rfl

theorem under_bytes : Tryz.prog.underlying 48 = some (.slice (Tryz.prog.elem 48)) := by kernel_rfl

/-- Block g is a writer that has written so. -/
def IsWr (w : World) (F : Nat → Prop) (g : Nat) (s : Wr) : Prop :=
  ∃ A cap, Blk w g 185 #[.bool true, .bool (!s.ok), .slice A s.bs.length cap] ∧ Own w 5 1 A s.bs.length cap (s.bs.map B8) ∧ F g ∧ (∀ k, inA A k → F k) ∧ ∀ k, F k → k < w.heap.size

/-- What a step of a writer leaves. -/
def WrTo (w : World) (F : Nat → Prop) (g : Nat) (s : Wr) (w' : World) : Prop :=
  ∃ F', IsWr w' F' g s ∧ Fr F w w' ∧ ∀ k, F' k → F k ∨ w.heap.size ≤ k

theorem IsWr.fr {w w' : World} {F S : Nat → Prop} {g : Nat} {s : Wr} (h : IsWr w F g s) (hf : Fr S w w') (hd : ∀ k, F k → ¬ S k) : IsWr w' F g s := by
  obtain ⟨A, cap, hb, hown, hF, hFA, hlt⟩ := h
  exact ⟨A, cap, hb.fr hf (hd _ hF), hown.fr hf (fun k hk => hd k (hFA k hk)), hF, hFA, fun k hk => Nat.lt_of_lt_of_le (hlt k hk) hf.size⟩
theorem IsWr.alloc {w : World} {F : Nat → Prop} {g : Nat} {s : Wr} (h : IsWr w F g s) (o : Obj) : IsWr (w.alloc o) F g s :=
  h.fr (S := fun _ => False) ((Fr.refl _ w).alloc o) (fun _ _ h => h)
theorem IsWr.bound {w : World} {F : Nat → Prop} {g : Nat} {s : Wr} (h : IsWr w F g s) : ∀ k, F k → k < w.heap.size := by
  obtain ⟨_, _, _, _, _, _, h⟩ := h
  exact h
theorem WrTo.alloc {w w2 : World} {F : Nat → Prop} {g : Nat} {s2 : Wr} {o : Obj} (h : WrTo (w.alloc o) F g s2 w2) : WrTo w F g s2 w2 := by
  obtain ⟨F2, h1, h2, h3⟩ := h
  exact ⟨F2, h1, ((Fr.refl F w).alloc o).tr h2, fun k hk => (h3 k hk).imp id fun h => by simp at h; omega⟩

theorem put_any (w : World) (F F2 : Nat → Prop) (g : Nat) (s : Wr) (h : IsWr w F g s) (A2 : Option Addr) (m c : Nat) (bs : List UInt8) (hm : bs.length = m) (hsl : Sl w F2 A2 (bs.map B8))
    (hsz : s.bs.length + m ≤ 1000000000000) :
    Calls Tryz.prog 203 #[.pointer (some ⟨g, 0, none⟩), .slice A2 m c] w fun e w' => e = .returned (.tuple #[]) ∧ WrTo w F g { s with bs := s.bs ++ bs } w' := by
  obtain ⟨A, cap, hb, hown, hF, hFA, hFlt⟩ := h
  subst hm
  have c0 := hb.cell 0
  have c2 := hb.cell 2
  simp at c0 c2
  go_enter Tryz.func203, Tryz.ntmps203
  go_wp2_with (at_builtin; refine wl_append rfl _ _ _ rfl 1 (.int .u8 0) Tryz.underlying48 info_u8 rfl (by decide) rfl hown rfl hsl (by simp) (B8_oneCell bs) (by omega) (by unfold maxLen; omega) ?_; intro A' cap' w1 ho hf hin; have hb1 := hb.fr hf (fun hg => hown.ne_ hb (by decide) hg); have c21 := hb1.cell 2; have f21 := hb1.frozen 2; simp at c21)
  go_end0
  refine ⟨rfl, fun k => k = g ∨ inA A' k, ⟨A', cap', ?_, ?_, .inl rfl, fun k hk => .inr hk, ?_⟩, (hf.mono fun b hb' => .inl (hFA b hb')).setCell (.inl hF) _, ?_⟩
  · have := hb1.set_ 2 (.slice A' (s.bs.length + bs.length) cap')
    simpa using this
  · have := ho.setCell (p := ⟨g, 2, none⟩) (fun hk => ho.ne_ hb1 (by decide) hk) (.slice A' (s.bs.length + bs.length) cap')
    simpa using this
  · have hz : (w1.setCell ⟨g, 2, none⟩ (.slice A' (s.bs.length + bs.length) cap')).heap.size = w1.heap.size := by simp [World.setCell]
    rw [hz]
    rintro k (rfl | hk)
    · exact hb1.lt
    · exact ho.lt k hk
  · rintro k (rfl | hk)
    · exact .inl hF
    · rcases hin k hk with h | h
      · exact .inl (hFA k h)
      · exact .inr (by omega)

theorem WrTo.trans {w w1 w2 : World} {F F1 : Nat → Prop} {g : Nat} {s2 : Wr} (hf : Fr F w w1) (hn : ∀ k, F1 k → F k ∨ w.heap.size ≤ k) (h : WrTo w1 F1 g s2 w2) : WrTo w F g s2 w2 := by
  obtain ⟨F2, h1, h2, h3⟩ := h
  refine ⟨F2, h1, hf.trans h2 hn, fun k hk => ?_⟩
  rcases h3 k hk with h | h
  · exact hn k h
  · exact .inr (Nat.le_trans hf.size h)

theorem number_bad (w : World) (F : Nat → Prop) (g : Nat) (s : Wr) (h : IsWr w F g s) (n : Int) (hn : n < 0 ∨ 4611686018427387903 < n) :
    Calls Tryz.prog 141 #[.pointer (some ⟨g, 0, none⟩), .int .i64 n] w fun e w' => e = .returned (.tuple #[]) ∧ WrTo w F g { s with ok := false } w' := by
  obtain ⟨A, cap, hb, hown, hF, hFA, hFlt⟩ := h
  have c1 := hb.cell 1
  have f1 := hb.frozen 1
  simp at c1
  have hfin : WrTo w F g { s with ok := false } (w.setCell ⟨g, 1, none⟩ (.bool true)) := by
    refine ⟨fun k => k = g ∨ inA A k, ⟨A, cap, ?_, hown.setCell (p := ⟨g, 1, none⟩) (fun hk => hown.ne_ hb (by decide) hk) _, .inl rfl, fun k hk => .inr hk, ?_⟩, (Fr.refl F w).setCell (.inl hF) _, ?_⟩
    · have := hb.set_ 1 (.bool true)
      simpa using this
    · have hz : (w.setCell ⟨g, 1, none⟩ (.bool true)).heap.size = w.heap.size := by simp [World.setCell]
      rw [hz]
      rintro k (rfl | hk)
      · exact hb.lt
      · exact hown.lt k hk
    · rintro k (rfl | hk)
      · exact .inl hF
      · exact .inl (hFA k hk)
  by_cases h0 : n < 0
  · go_enter Tryz.func141, Tryz.ntmps141
    go_wp2_with fail
    refine bodyPost_ret (results_none rfl _ _ _) rfl ?_
    exact ⟨rfl, hfin⟩
  · have h1 : 4611686018427387903 < n := by omega
    go_enter Tryz.func141, Tryz.ntmps141
    go_wp2_with fail
    refine bodyPost_ret (results_none rfl _ _ _) rfl ?_
    exact ⟨rfl, hfin⟩

/-- The writer's state behind some rounds of a number. -/
def NumRel (w : World) (F : Nat → Prop) (g : Nat) (s : Wr) (n : Nat) (v : Value) (wr : World) : Prop :=
  ∃ (k : Nat) (F' : Nat → Prop) (bs : List UInt8), v = .int .i64 k ∧ k ≤ topN ∧ bs.length + (enc k).length = s.bs.length + (enc n).length ∧ IsWr wr F' g { s with bs := bs } ∧ Fr F w wr ∧ (∀ k, F' k → F k ∨ w.heap.size ≤ k) ∧ bs ++ enc k = s.bs ++ enc n

theorem number_ok (w : World) (F : Nat → Prop) (g : Nat) (s : Wr) (h : IsWr w F g s) (n : Nat) (hn : n ≤ 4611686018427387903) (hsz : s.bs.length ≤ 900000000000) :
    Calls Tryz.prog 141 #[.pointer (some ⟨g, 0, none⟩), .int .i64 n] w fun e w' => e = .returned (.tuple #[]) ∧ WrTo w F g { s with bs := s.bs ++ enc n } w' := by
  go_enter Tryz.func141, Tryz.ntmps141
  go_wp2_with fail
  go_loopw [1] (fun v wr => NumRel w F g s n v wr) (fun v _ => (intOf v).toNat)
  case atStart => exact ⟨n, F, s.bs, rfl, hn, rfl, h, Fr.refl _ _, fun k hk => .inl hk, rfl⟩
  case round =>
    obtain ⟨k, F', bs, rfl, hk, hl, hw, hf, hF, he⟩ := hrel
    by_cases hb : 127 < k
    · have HE := Lib.hid (enc_big k (by omega) hk)
      have HL := Lib.hid hl
      have HC := Lib.hid he
      clear hl he
      have hk' := hk
      unfold topN at hk'
      go_wp2_with fail
      rw [orByte k]
      refine (put_any _ F' _ g _ (hw.alloc _) _ 1 1 [UInt8.ofNat (k % 128 + 128)] rfl ((Blk.new _ _ _).sl 0 1) ?_).mono ?_
      · show bs.length + 1 ≤ _
        have := HL.out; have := enc_len n; omega
      rintro e w2 ⟨rfl, h2⟩
      obtain ⟨F2, i2, f2, n2⟩ := h2.alloc
      go_wp2_with fail
      go_roundw
      case rel =>
        refine ⟨k / 128, F2, bs ++ [UInt8.ofNat (k % 128 + 128)], by go_num, by unfold topN; omega, ?_, i2, hf.trans f2 hF, fun j hj => ?_, ?_⟩
        · have h1 := HL.out
          rw [HE.out] at h1
          simp at h1 ⊢
          omega
        · rcases n2 j hj with h | h
          · exact hF j h
          · exact .inr (Nat.le_trans hf.size h)
        · have h1 := HC.out
          rw [HE.out] at h1
          rw [← h1]
          simp
      case measure => simp [intOf]; omega
    · have hk' := hk
      unfold topN at hk'
      have HL := Lib.hid hl
      have HC := Lib.hid he
      clear hl he
      go_wp2_with fail
      have hv : Value.int IntKind.u8 (k : Int) = B8 (UInt8.ofNat k) := by
        unfold B8; congr 1; rw [← lowByte k (by omega)]; omega
      rw [hv]
      refine (put_any _ F' _ g _ (hw.alloc _) _ 1 1 [UInt8.ofNat k] rfl ((Blk.new _ _ _).sl 0 1) ?_).mono ?_
      · show bs.length + 1 ≤ _
        have := HL.out; have := enc_len n; omega
      rintro e w2 ⟨rfl, h2⟩
      clear hv
      go_wp2_with fail
      go_end0
      refine ⟨rfl, ?_⟩
      have h1 := HC.out
      rw [enc_small k (by omega)] at h1
      rw [← h1]
      exact (h2.alloc).trans hf hF
end Go.Proofs.YtippdjaakcgeoaaGreat

namespace Go.Proofs.YtippdjaakcgeoaaGreat
open Go Go.RowKit

theorem wknown_yes (w : World) (F : Nat → Prop) (g : Nat) (s : Wr) (h : IsWr w F g s) :
    Calls Tryz.prog 140 #[.pointer (some ⟨g, 0, none⟩)] w fun e w' => e = .returned (.bool true) ∧ w = w' := by
  obtain ⟨A, cap, hb, -⟩ := h
  have c0 := hb.cell 0
  simp at c0
  go_enter Tryz.func140, Tryz.ntmps140
  go_wp2
  go_ret
  exact ⟨rfl, rfl⟩

theorem number_any (w : World) (F : Nat → Prop) (g : Nat) (s : Wr) (h : IsWr w F g s) (n : Int) (hsz : s.bs.length ≤ 900000000000) :
    Calls Tryz.prog 141 #[.pointer (some ⟨g, 0, none⟩), .int .i64 n] w fun e w' => e = .returned (.tuple #[]) ∧ WrTo w F g (wrNum n s) w' := by
  unfold wrNum
  by_cases hn : n < 0 ∨ (topN : Int) < n
  · rw [if_pos hn]
    exact number_bad w F g s h n hn
  · rw [if_neg hn]
    obtain ⟨k, rfl⟩ := Int.eq_ofNat_of_zero_le (show 0 ≤ n by omega)
    rw [Int.toNat_natCast]
    exact number_ok w F g s h k (by unfold topN at hn; omega) hsz

theorem newWriter_any (w : World) :
    Calls Tryz.prog 68 #[] w fun e w' => e = .returned (.pointer (some ⟨w.heap.size, 0, none⟩)) ∧ IsWr w' (· = w.heap.size) w.heap.size ⟨true, []⟩ ∧ Fr (fun _ => False) w w' := by
  go_enter Tryz.func68, Tryz.ntmps68
  go_wp2
  go_ret
  refine ⟨rfl, ⟨none, 0, Blk.new _ _ _, Own.nil _ _ _, rfl, fun k hk => (inA_none k hk).elim, fun k hk => by subst hk; simp⟩, (Fr.refl _ w).alloc _⟩

/-- The writer's state in a loop. -/
def WrLoop (w : World) (F : Nat → Prop) (g : Nat) (s : Nat → Wr) (m : Nat) (v : Value) (wr : World) : Prop :=
  ∃ k : Nat, v = .int .i64 k ∧ k ≤ m ∧ WrTo w F g (s k) wr

theorem WrTo.refl {w : World} {F : Nat → Prop} {g : Nat} {s : Wr} (h : IsWr w F g s) : WrTo w F g s w := ⟨F, h, Fr.refl _ _, fun _ hk => .inl hk⟩

theorem numbers_any (w : World) (F F2 : Nat → Prop) (g : Nat) (s : Wr) (h : IsWr w F g s) (A2 : Option Addr) (c : Nat) (ns : List Int) (hsl : Sl w F2 A2 (ns.map I64)) (hd : Apart w F2 F) (hmax : ns.length ≤ 1000000000)
    (hsz : s.bs.length ≤ 800000000000) :
    Calls Tryz.prog 69 #[.pointer (some ⟨g, 0, none⟩), .slice A2 ns.length c] w fun e w' => e = .returned (.pointer (some ⟨g, 0, none⟩)) ∧ WrTo w F g (wrNums ns s) w' := by
  go_enter Tryz.func69, Tryz.ntmps69
  go_wp2_with (go_at_call 140; refine (wknown_yes _ _ _ _ h).mono ?_; rintro e w' ⟨rfl, rfl⟩)
  go_loopw [6, 11] (fun _ i wr => WrLoop w F g (fun k => wrNums (ns.take k) s) ns.length i wr) (fun _ i _ => ns.length - (intOf i).toNat)
  case atStart => exact ⟨0, rfl, Nat.zero_le _, WrTo.refl h⟩
  case round =>
    obtain ⟨k, rfl, hk, F', hw, hf, hF⟩ := hrel
    by_cases hlt : k < ns.length
    · obtain ⟨b, o, rfl, hFb, hc⟩ := (hsl.fr hf hd.no).get hlt
      have hlen := wrNums_len (ns.take k) s
      rw [List.length_take] at hlen
      go_wp2_with (go_at_call 141; refine (number_any _ _ _ _ hw _ (by omega)).mono ?_; rintro e w2 ⟨rfl, h2⟩)
      go_roundw
      case rel =>
        refine ⟨k + 1, by go_num, by omega, ?_⟩
        show WrTo w F g (wrNums (ns.take (k + 1)) s) w2
        rw [wrNums_succ _ _ hlt]
        exact WrTo.trans hf hF h2
      case measure => simp [intOf]; omega
    · go_wp2_with fail
      go_ret
      refine ⟨rfl, ?_⟩
      have e : ns.take k = ns := List.take_of_length_le (by omega)
      rw [e] at hw
      exact ⟨F', hw, hf, hF⟩

theorem flags_any (w : World) (F F2 : Nat → Prop) (g : Nat) (s : Wr) (h : IsWr w F g s) (A2 : Option Addr) (c : Nat) (ns : List Bool) (hsl : Sl w F2 A2 (ns.map Value.bool)) (hd : Apart w F2 F) (hmax : ns.length ≤ 1000000000)
    (hsz : s.bs.length ≤ 800000000000) :
    Calls Tryz.prog 142 #[.pointer (some ⟨g, 0, none⟩), .slice A2 ns.length c] w fun e w' => e = .returned (.pointer (some ⟨g, 0, none⟩)) ∧ WrTo w F g (wrFlags ns s) w' := by
  go_enter Tryz.func142, Tryz.ntmps142
  go_wp2_with (go_at_call 140; refine (wknown_yes _ _ _ _ h).mono ?_; rintro e w' ⟨rfl, rfl⟩)
  go_loopw [6, 11] (fun _ i wr => WrLoop w F g (fun k => wrFlags (ns.take k) s) ns.length i wr) (fun _ i _ => ns.length - (intOf i).toNat)
  case atStart => exact ⟨0, rfl, Nat.zero_le _, WrTo.refl h⟩
  case round =>
    obtain ⟨k, rfl, hk, F', hw, hf, hF⟩ := hrel
    by_cases hlt : k < ns.length
    · obtain ⟨b, o, rfl, hFb, hc⟩ := (hsl.fr hf hd.no).get hlt
      have hlen := wrFlags_len (ns.take k) s
      rw [List.length_take] at hlen
      have HL : (wrFlags (ns.take k) s).bs.length + 1 ≤ 1000000000000 := by omega
      clear hlen
      have hsucc := Lib.hid (wrFlags_succ ns k hlt s)
      cases hx : ns[k]
      · rw [hx] at hc
        have HX := Lib.hid hx
        clear hx
        go_wp2_with (go_at_call 203; refine (put_any _ F' _ g _ (hw.alloc _) _ 1 1 [0] rfl ((Blk.new _ _ _).sl 0 1) HL).mono ?_; rintro e w2 ⟨rfl, h2⟩)
        go_roundw
        case rel =>
          refine ⟨k + 1, by go_num, by omega, ?_⟩
          show WrTo w F g (wrFlags (ns.take (k + 1)) s) w2
          rw [hsucc.out, HX.out]
          exact WrTo.trans hf hF h2.alloc
        case measure => simp [intOf]; omega
      · rw [hx] at hc
        have HX := Lib.hid hx
        clear hx
        go_wp2_with (go_at_call 203; refine (put_any _ F' _ g _ (hw.alloc _) _ 1 1 [1] rfl ((Blk.new _ _ _).sl 0 1) HL).mono ?_; rintro e w2 ⟨rfl, h2⟩)
        go_roundw
        case rel =>
          refine ⟨k + 1, by go_num, by omega, ?_⟩
          show WrTo w F g (wrFlags (ns.take (k + 1)) s) w2
          rw [hsucc.out, HX.out]
          exact WrTo.trans hf hF h2.alloc
        case measure => simp [intOf]; omega
    · go_wp2_with fail
      go_ret
      refine ⟨rfl, ?_⟩
      have e : ns.take k = ns := List.take_of_length_le (by omega)
      rw [e] at hw
      exact ⟨F', hw, hf, hF⟩

theorem rows_any (w : World) (F F2 : Nat → Prop) (g : Nat) (s : Wr) (h : IsWr w F g s) (A2 : Option Addr) (c : Nat) (vs : List Value) (rs : List (List UInt8)) (hsl : Sl w F2 A2 vs) (hrs : RowsV w F2 vs rs) (hd : Apart w F2 F)
    (hsz : s.bs.length + 9 * rs.length + rowsLen rs ≤ 800000000000) :
    Calls Tryz.prog 145 #[.pointer (some ⟨g, 0, none⟩), .slice A2 rs.length c] w fun e w' => e = .returned (.pointer (some ⟨g, 0, none⟩)) ∧ WrTo w F g (wrRows rs s) w' := by
  go_enter Tryz.func145, Tryz.ntmps145
  go_wp2_with (go_at_call 140; refine (wknown_yes _ _ _ _ h).mono ?_; rintro e w' ⟨rfl, rfl⟩)
  go_loopw [6, 11] (fun _ i wr => WrLoop w F g (fun k => wrRows (rs.take k) s) rs.length i wr) (fun _ i _ => rs.length - (intOf i).toNat)
  case atStart => exact ⟨0, rfl, Nat.zero_le _, WrTo.refl h⟩
  case round =>
    obtain ⟨k, rfl, hk, F', hw, hf, hF⟩ := hrel
    by_cases hlt : k < rs.length
    · have hlen := wrRows_len (rs.take k) s
      rw [List.length_take] at hlen
      have hle := rowsLen_get rs k hlt
      have hb1 : (wrRows (rs.take k) s).bs.length ≤ 800000000000 ∧ (wrRows (rs.take k) s).bs.length + rs[k].length ≤ 800000000000 ∧ rs[k].length ≤ 800000000000 := by omega
      clear hlen hle
      have hsucc := Lib.hid (wrRows_succ rs k hlt s)
      obtain ⟨v, hv, A3, c3, rfl, hc1, hc2, hs3⟩ := (hrs.fr hf hd.no).2 k hlt
      obtain ⟨b, o, rfl, hFb, _, hcs⟩ := (hsl.fr hf hd.no).at_ (by rintro rfl; simp at hv)
      have hc := hcs k _ hv
      clear hcs
      have HV := Lib.hid hv
      clear hv
      have hn : ((rs[k].length : Nat) : Int).toNat = rs[k].length := Int.toNat_natCast _
      have hnb : ¬ (((rs[k].length : Nat) : Int) < 0 ∨ (topN : Int) < ((rs[k].length : Nat) : Int)) := by unfold topN; omega
      have hstep : wrNum ((rs[k].length : Nat) : Int) (wrRows (rs.take k) s) = { wrRows (rs.take k) s with bs := (wrRows (rs.take k) s).bs ++ enc rs[k].length } := by
        unfold wrNum; rw [if_neg hnb, hn]
      have HS := Lib.hid hstep
      clear hstep hn hnb
      have he9 := enc_len rs[k].length
      go_wp2_with fail
      refine (number_any _ _ _ _ hw _ (by omega)).mono ?_
      rintro e w2 ⟨rfl, F2', hw2, hf2, hn2⟩
      rw [HS.out] at hw2
      have hF2 : ∀ j, F2' j → F j ∨ w.heap.size ≤ j := fun j hj => (hn2 j hj).elim (hF j) (fun h => .inr (Nat.le_trans hf.size h))
      have hff := hf.trans hf2 hF
      go_wp2_with fail
      refine (put_any _ F2' _ g _ hw2 _ _ _ rs[k] rfl (hs3.fr hf2 (hd.step hf.size hF).no) ?_).mono ?_
      · simp; omega
      rintro e w3 ⟨rfl, h3⟩
      go_wp2_with fail
      go_roundw
      case rel =>
        refine ⟨k + 1, by go_num, by omega, ?_⟩
        show WrTo w F g (wrRows (rs.take (k + 1)) s) w3
        rw [hsucc.out]
        have := WrTo.trans hff hF2 h3
        simpa [wrRow] using this
      case measure => simp [intOf]; omega
    · go_wp2_with fail
      go_ret
      refine ⟨rfl, ?_⟩
      have e : rs.take k = rs := List.take_of_length_le (by omega)
      rw [e] at hw
      exact ⟨F', hw, hf, hF⟩

/-- A text's bytes, and what lies behind them. -/
theorem string_sl (w : World) (s : ByteArray) (cap : Nat) (t : TypeId) (fr : Nat × Nat) :
    Sl (w.alloc (.cells (bytesRow s cap) t fr)) (· = w.heap.size) (some ⟨w.heap.size, 0, none⟩) (s.data.toList.map B8) := by
  refine .inr ⟨w.heap.size, 0, rfl, rfl, by simp, fun j u hu => ?_⟩
  have hh : (w.alloc (.cells (bytesRow s cap) t fr)).heap[w.heap.size]? = some (.cells (bytesRow s cap) t fr) := heap_alloc_new w _
  rw [cell_of_row _ _ _ _ _ _ hh]
  simp at hu
  obtain ⟨a, ha, rfl⟩ := hu
  have hlt : j < s.data.size := by
    rcases Nat.lt_or_ge j s.data.size with h | h
    · exact h
    · rw [Array.getElem?_eq_none h] at ha; cases ha
  have hlt2 : j < s.size := hlt
  simp only [bytesRow]
  rw [Array.getElem?_append_left (by simpa using hlt2)]
  simp [ha]

theorem bytes_size (s : ByteArray) : s.data.toList.length = s.size := rfl

/-- 'slices.Clone' of bytes. -/
theorem clone_u8 (w : World) (F : Nat → Prop) (A : Option Addr) (c : Nat) (bs : List UInt8) (hs : Sl w F A (bs.map B8)) (hsz : bs.length ≤ 1000000000000) :
    Calls Tryz.prog 74 #[.slice A bs.length c] w fun e w' => ∃ A' c', e = .returned (.slice A' bs.length c') ∧ Own w' 5 1 A' bs.length c' (bs.map B8) ∧ Fr (fun _ => False) w w' ∧ ∀ k, inA A' k → w.heap.size ≤ k := by
  have hnil := fun (w : World) (A : Option Addr) (n : Nat) => Lib.run_eql_slice_nil (P := Tryz.prog) w 48 5 A n c 0 0 Tryz.underlying48
  cases A with
  | none =>
    have hb : bs = [] := by
      rcases hs with h | ⟨b, o, h, _⟩
      · simpa using h
      · cases h
    subst hb
    go_enter Tryz.func74, Tryz.ntmps74
    go_wp2_with fail
    go_ret
    exact ⟨none, 0, rfl, Own.nil _ _ _, Fr.refl _ _, fun k hk => (inA_none k hk).elim⟩
  | some a =>
    go_enter Tryz.func74, Tryz.ntmps74
    go_wp2_with (at_builtin; refine wl_append rfl _ _ _ rfl 1 (.int .u8 0) Tryz.underlying48 info_u8 rfl (by decide) rfl (Own.new w 5 1 0 0 #[] (Nat.le_refl _) (by decide) rfl) rfl (hs.alloc _) (by simp) (B8_oneCell bs) (by omega) (by unfold maxLen; omega) ?_; intro A' cap' w1 ho hf hin)
    go_ret
    simp only [Nat.zero_add, Nat.zero_mul, List.take_zero, List.nil_append] at ho
    refine ⟨A', cap', rfl, ho, ((Fr.refl _ w).alloc _).trans hf fun k hk => .inr ?_, fun k hk => ?_⟩
    · rw [(inA_some _ _).1 hk]; exact Nat.le_refl _
    · rcases hin k hk with h | h
      · rw [(inA_some _ _).1 h]; exact Nat.le_refl _
      · rw [h]; simp

theorem done_ok (w : World) (F : Nat → Prop) (g : Nat) (s : Wr) (h : IsWr w F g s) (hok : s.ok = true) (hsz : s.bs.length ≤ 1000000000000) :
    Calls Tryz.prog 71 #[.pointer (some ⟨g, 0, none⟩)] w fun e w' => ∃ A' c', e = .returned (.tuple #[.slice A' s.bs.length c', .int .i64 0]) ∧ Own w' 5 1 A' s.bs.length c' (s.bs.map B8) ∧ Fr (fun _ => False) w w' ∧ ∀ k, inA A' k → w.heap.size ≤ k := by
  have h' := h
  obtain ⟨A, cap, hb, hown, hF, hFA, hFlt⟩ := h'
  have c1 := hb.cell 1
  have c2 := hb.cell 2
  simp [hok] at c1 c2
  have HK := Lib.hid hok
  clear hok
  go_enter Tryz.func71, Tryz.ntmps71
  go_wp2_with (first | (go_at_call 140; refine (wknown_yes _ _ _ _ h).mono ?_; rintro e w' ⟨rfl, rfl⟩) | (go_at_call 74; refine (clone_u8 _ _ _ _ _ hown.sl hsz).mono ?_; rintro e w1 ⟨A', c', rfl, ho, hf, hn⟩))
  go_ret2
  exact ⟨A', c', rfl, ho, hf, hn⟩

end Go.Proofs.YtippdjaakcgeoaaGreat

namespace Go.Proofs.YtippdjaakcgeoaaGreat
open Go Go.RowKit

/-- g is not of F, and F is bounded. -/
def OutF (w : World) (F : Nat → Prop) (g : Nat) : Prop := ¬ F g ∧ ∀ k, F k → k < w.heap.size
theorem OutF.fr {w w' : World} {F : Nat → Prop} {g : Nat} (h : OutF w F g) (hs : w.heap.size ≤ w'.heap.size) : OutF w' F g := ⟨h.1, fun k hk => Nat.lt_of_lt_of_le (h.2 k hk) hs⟩

/-- Block g is a reader of these bytes, which lie in F; none: it has failed. -/
def IsRd (w : World) (F : Nat → Prop) (g : Nat) : Rd → Prop
  | none => Blk w g 205 #[.bool true, .bool true, .slice none 0 0] ∧ OutF w F g
  | some bs => ∃ A cap, Blk w g 205 #[.bool true, .bool false, .slice A bs.length cap] ∧ bs.length ≤ cap ∧ cap ≤ maxLen ∧ Sl w F A (bs.map B8) ∧ OutF w F g

theorem IsRd.fr {w w' : World} {F S : Nat → Prop} {g : Nat} {s : Rd} (h : IsRd w F g s) (hf : Fr S w w') (hg : ¬ S g) (hd : ∀ k, F k → ¬ S k) : IsRd w' F g s := by
  cases s with
  | none => exact ⟨h.1.fr hf hg, h.2.fr hf.size⟩
  | some bs =>
    obtain ⟨A, cap, hb, h1, h2, h3, h4⟩ := h
    exact ⟨A, cap, hb.fr hf hg, h1, h2, h3.fr hf hd, h4.fr hf.size⟩

def RdTo (w : World) (F : Nat → Prop) (g : Nat) (s : Rd) (w' : World) : Prop := IsRd w' F g s ∧ Fr (· = g) w w'
theorem RdTo.trans {w w1 w2 : World} {F : Nat → Prop} {g : Nat} {s1 s2 : Rd} (h : RdTo w F g s1 w1) (k : RdTo w1 F g s2 w2) : RdTo w F g s2 w2 := ⟨k.1, h.2.tr k.2⟩
theorem RdTo.refl {w : World} {F : Nat → Prop} {g : Nat} {s : Rd} (h : IsRd w F g s) : RdTo w F g s w := ⟨h, Fr.refl _ _⟩

theorem IsRd.out {w : World} {F : Nat → Prop} {g : Nat} {s : Rd} (h : IsRd w F g s) : OutF w F g := by
  cases s with
  | none => exact h.2
  | some bs => obtain ⟨_, _, _, _, _, _, h⟩ := h; exact h
theorem IsRd.lt {w : World} {F : Nat → Prop} {g : Nat} {s : Rd} (h : IsRd w F g s) : g < w.heap.size := by
  cases s with
  | none => exact h.1.lt
  | some bs => obtain ⟨_, _, hb, _⟩ := h; exact hb.lt
end Go.Proofs.YtippdjaakcgeoaaGreat

namespace Go.Proofs.YtippdjaakcgeoaaGreat
open Go Go.RowKit

/-- 'string(b)'. -/
theorem run_text_sl (w : World) (F : Nat → Prop) (A : Option Addr) (c : Nat) (bs : List UInt8) (h : Sl w F A (bs.map B8)) :
    (convert 48 9 (.slice A bs.length c)).run Tryz.prog w = .ok (.string ⟨bs.toArray⟩) w := by
  cases A with
  | none =>
    have hb : bs = [] := by
      rcases h with h | ⟨b, o, h, _⟩
      · simpa using h
      · cases h
    subst hb
    exact run_convert_bytes_nil w 48 5 Tryz.underlying48 Tryz.underlying5 0 c 9 Tryz.underlying9
  | some a =>
    rw [run_convert_bytes_string w 48 9 5 _ _ c Tryz.underlying48 Tryz.underlying5 Tryz.underlying9]
    have hl : (loadCells a bs.length).run Tryz.prog w = .ok ((bs.map fun b => (b.toNat : Int)).map (Value.int .u8)).toArray w := by
      have := run_loadCells_list (P := Tryz.prog) w a (bs.map B8) (fun j v hj => by
        rcases h with h | ⟨b, o, h, _, _, hc⟩
        · rw [h] at hj; simp at hj
        · injection h with h
          subst h
          rw [Addr.add_lit]
          exact hc j v hj)
      rw [List.length_map] at this
      rw [this, List.map_map]
      rfl
    rw [run_bytesToString w a bs.length c _ hl, foldl_push_bytes]
    congr 2
    simp [ByteArray.empty, ByteArray.emptyWithCapacity]
    show List.map ((fun n : Int => UInt8.ofNat n.toNat) ∘ fun b : UInt8 => (b.toNat : Int)) bs = bs
    rw [show ((fun n : Int => UInt8.ofNat n.toNat) ∘ fun b : UInt8 => (b.toNat : Int)) = id from funext fun b => by simp]
    simp

end Go.Proofs.YtippdjaakcgeoaaGreat

namespace Go.Proofs.YtippdjaakcgeoaaGreat
open Go Go.RowKit

/-- Nothing but draws. -/
def Quiet (w w' : World) : Prop := ∃ n, w' = w.drewN n
theorem Quiet.refl (w : World) : Quiet w w := ⟨0, rfl⟩
theorem Quiet.drewN {w w' : World} (h : Quiet w w') (n : Nat) : Quiet w (w'.drewN n) := by
  obtain ⟨k, rfl⟩ := h
  exact ⟨k + n, by rw [World.drewN_drewN]⟩
theorem Quiet.fr {w w' : World} (h : Quiet w w') (S : Nat → Prop) : Fr S w w' := by
  obtain ⟨k, rfl⟩ := h
  exact (Fr.refl S w).drewN k

theorem ret_eq {v v' : Value} (h : v = v') : Ending.returned v = .returned v' := by rw [h]

theorem Quiet.cell {w w' : World} (h : Quiet w w') (a : Addr) : w'.cell? a = w.cell? a := by obtain ⟨n, rfl⟩ := h; rfl
theorem Quiet.trans {w w' w'' : World} (h : Quiet w w') (k : Quiet w' w'') : Quiet w w'' := by
  obtain ⟨n, rfl⟩ := h
  obtain ⟨m, rfl⟩ := k
  exact ⟨n + m, by rw [World.drewN_drewN]⟩

def SameRel (w : World) (xs ys : List UInt8) (i : Value) (wr : World) : Prop :=
  ∃ k : Nat, i = .int .i64 k ∧ k ≤ xs.length ∧ xs.take k = ys.take k ∧ Quiet w wr

theorem same_u8 (w : World) (F1 F2 : Nat → Prop) (A1 A2 : Option Addr) (c1 c2 : Nat) (xs ys : List UInt8) (h1 : Sl w F1 A1 (xs.map B8)) (h2 : Sl w F2 A2 (ys.map B8)) (hm1 : xs.length ≤ 1000000000000) :
    Calls Tryz.prog 34 #[.slice A1 xs.length c1, .slice A2 ys.length c2] w fun e w' => e = .returned (.bool (decide (xs = ys))) ∧ Quiet w w' := by
  by_cases hl : xs.length = ys.length
  · have hlen : ((xs.length : Int) != (ys.length : Int)) = false := by simp [hl]
    have HL := Lib.hid hl
    clear hl
    go_enter Tryz.func34, Tryz.ntmps34
    go_wp2
    go_loopw [5] (fun i wr => SameRel w xs ys i wr) (fun i _ => xs.length - (intOf i).toNat)
    case atStart => exact ⟨0, rfl, Nat.zero_le _, rfl, Quiet.refl _⟩
    case round =>
      obtain ⟨k, rfl, hk, ht, hq⟩ := hrel
      have HT := Lib.hid ht
      clear ht
      by_cases hlt : k < xs.length
      · have hlt2 : k < ys.length := by have := HL.out; omega
        obtain ⟨n, rfl⟩ := hq
        obtain ⟨b1, o1, rfl, _, hc1⟩ := h1.get hlt
        obtain ⟨b2, o2, rfl, _, hc2⟩ := h2.get hlt2
        have hi1 : (k : Int) < (xs.length : Int) := by omega
        have hi2 : (k : Int) < (ys.length : Int) := by omega
        go_wp2
        go_quiet (fail)
        by_cases heq : (((xs[k].toNat : Nat) : Int) != ((ys[k].toNat : Nat) : Int)) = false
        rotate_left
        · have hne : (((xs[k].toNat : Nat) : Int) != ((ys[k].toNat : Nat) : Int)) = true := by simpa using heq
          clear heq
          go_wp2
          go_ret
          refine ⟨ret_eq (congrArg Value.bool (decide_eq_false ?_).symm), ((Quiet.refl w).drewN n).drewN _⟩
          rintro rfl
          simp at hne
        · go_wp2
          go_roundw
          case rel =>
            refine ⟨k + 1, by go_num, by omega, ?_, ⟨_, rfl⟩⟩
            rw [List.take_succ_eq_append_getElem hlt, List.take_succ_eq_append_getElem hlt2, HT.out]
            congr 2
            have h5 : ((xs[k].toNat : Nat) : Int) = ((ys[k].toNat : Nat) : Int) := by simpa using heq
            have : xs[k].toNat = ys[k].toNat := by omega
            exact UInt8.toNat_inj.1 this
          case measure => simp [intOf]; omega
      · go_wp2
        go_ret
        have hx : xs = ys := by
          have := HT.out
          rwa [List.take_of_length_le (by omega), List.take_of_length_le (by have := HL.out; omega)] at this
        exact ⟨ret_eq (congrArg Value.bool (decide_eq_true hx).symm), hq⟩
  · have hlen : ((xs.length : Int) != (ys.length : Int)) = true := by simp; omega
    go_enter Tryz.func34, Tryz.ntmps34
    go_wp2
    go_ret
    exact ⟨ret_eq (congrArg Value.bool (decide_eq_false fun h => hl (by rw [h])).symm), Quiet.refl _⟩
end Go.Proofs.YtippdjaakcgeoaaGreat

namespace Go.Proofs.YtippdjaakcgeoaaGreat
open Go Go.RowKit

/-- The mark of a place in a list of bytes. -/
def mkB (k i : Nat) : UInt8 := UInt8.ofNat ((1000003 * (k + 7) + i) * 11400714819323198485 % 18446744073709551616 / 72057594037927936)
theorem mkB_int (k i : Nat) :
    IntKind.u64.wrap ((1000003 * ((k : Int) + 7) + (i : Int)) * 11400714819323198485) / 72057594037927936 % 256 = ((mkB k i).toNat : Int) := by
  unfold mkB
  rw [UInt8.toNat_ofNat']
  have e : (1000003 * ((k : Int) + 7) + (i : Int)) * 11400714819323198485 = (((1000003 * (k + 7) + i) * 11400714819323198485 : Nat) : Int) := by omega
  rw [e]
  generalize (1000003 * (k + 7) + i) * 11400714819323198485 = Y
  simp only [IntKind.wrap_u64]
  omega

theorem mark_any (w : World) (k i : Int) (hk : 0 ≤ k) (hk2 : k ≤ 1000000000000) (hi : 0 ≤ i) (hi2 : i ≤ 100000000000000) :
    Calls Tryz.prog 136 #[.int .i64 k, .int .i64 i] w fun e w' => e = .returned (.int .i64 (1000003 * (k + 7) + i)) ∧ w = w' := by
  go_enter Tryz.func136, Tryz.ntmps136
  go_wp2
  go_ret
  exact ⟨rfl, rfl⟩

theorem markByte_any (w : World) (k i : Int) (hk : 0 ≤ k) (hk2 : k ≤ 1000000000000) (hi : 0 ≤ i) (hi2 : i ≤ 100000000000000) :
    Calls Tryz.prog 93 #[.int .i64 k, .int .i64 i] w fun e w' => e = .returned (B8 (mkB k.toNat i.toNat)) ∧ w = w' := by
  obtain ⟨k', rfl⟩ := Int.eq_ofNat_of_zero_le hk
  obtain ⟨i', rfl⟩ := Int.eq_ofNat_of_zero_le hi
  go_enter Tryz.func93, Tryz.ntmps93
  go_wp2_with (go_at_call 136; refine (mark_any _ _ _ hk hk2 hi hi2).mono ?_; rintro e w1 ⟨rfl, rfl⟩)
  go_ret
  refine ⟨ret_eq ?_, rfl⟩
  show Value.int IntKind.u8 _ = Value.int IntKind.u8 _
  rw [Int.toNat_natCast, Int.toNat_natCast, ← mkB_int k' i']

/-- The marks behind what is lent. -/
def behind : List UInt8 := (List.range 12).map (mkB 1)
/-- What 'LentBytes' hands out: a slice with marks in its spare room. -/
def Lent (w : World) (A : Option Addr) (ys : List UInt8) : Prop := Own w 5 1 A (ys.length + 12) (ys.length + 12) ((ys ++ behind).map B8)

def LentRel (w : World) (g : Nat) (ys : List UInt8) (v i : Value) (wr : World) : Prop :=
  ∃ k : Nat, k ≤ 12 ∧ i = .int .i64 k ∧ v = .slice (some ⟨g, 0, none⟩) (ys.length + k) (ys.length + 12) ∧ Own wr 5 1 (some ⟨g, 0, none⟩) (ys.length + k) (ys.length + 12) ((ys ++ (List.range k).map (mkB 1)).map B8) ∧ Nw w wr

set_option maxRecDepth 100000 in
theorem lent_u8 (w : World) (F : Nat → Prop) (A : Option Addr) (c : Nat) (ys : List UInt8) (h : Sl w F A (ys.map B8)) (hsz : ys.length ≤ 1000000000000) :
    Calls Tryz.prog 42 #[.slice A ys.length c] w fun e w' => ∃ g, e = .returned (.slice (some ⟨g, 0, none⟩) ys.length (ys.length + 12)) ∧ Lent w' (some ⟨g, 0, none⟩) ys ∧ Nw w w' ∧ w.heap.size ≤ g := by
  go_enter Tryz.func42, Tryz.ntmps42
  go_wp2_with (first | (at_make; refine wl_make0 rfl _ _ _ rfl 1 (.int .u8 0) Tryz.underlying48 info_u8 .i64 .i64 ((ys.length : Int) + 12) (ys.length + 12) rfl rfl (by omega) (by omega) (by unfold maxLen; omega) ?_; intro w1 ho1 hq1; have hs1 := h.fr hq1 (fun _ _ h => h)) | (at_builtin; refine wl_append2 rfl _ _ _ rfl 1 (.int .u8 0) Tryz.underlying48 info_u8 rfl (by decide) rfl ho1 rfl hs1 (by simp) (B8_oneCell ys) (by omega) (by unfold maxLen; omega) ?_; intro A' cap' w2 hap))
  rcases hap with ⟨ho2, _, ⟨_, rfl, rfl, hf2⟩ | ⟨hlt, _⟩⟩
  rotate_left
  · omega
  simp only [Nat.zero_add, List.nil_append] at ho2 ⊢
  have hq2 : Nw w w2 := hq1.new hf2 (fun k hk => by rw [(inA_some _ _).1 hk]; exact Nat.le_refl _)
  clear hf2 ho1 hs1 hq1
  go_wp2_with fail
  go_loopw [3, 4] (fun v i wr => LentRel w w.heap.size ys v i wr) (fun _ i _ => 12 - (intOf i).toNat)
  case atStart => exact ⟨0, by omega, rfl, rfl, by simpa using ho2, hq2⟩
  case round =>
    obtain ⟨k, hk, rfl, rfl, ho, hq⟩ := hrel
    by_cases hlt : k < 12
    · go_wp2_with (first | (go_at_call 93; refine (markByte_any _ _ _ (by omega) (by omega) (by omega) (by omega)).mono ?_; rintro e w3 ⟨rfl, rfl⟩) | (at_builtin; refine wl_append2 rfl _ _ _ rfl 1 (.int .u8 0) Tryz.underlying48 info_u8 rfl (by decide) rfl (ho.alloc _) rfl ((Blk.new _ _ _).sl 0 1) rfl (B8_oneCell [mkB 1 k]) (by omega) (by unfold maxLen; omega) ?_; intro A' cap' w2 hap))
      rcases hap with ⟨ho3, _, ⟨_, rfl, rfl, hf3⟩ | ⟨hlt, _⟩⟩
      rotate_left
      · omega
      have hq3 : Nw w w2 := (hq.alloc _).new hf3 (fun k hk => by rw [(inA_some _ _).1 hk]; exact Nat.le_refl _)
      go_wp2_with fail
      go_roundw
      case rel =>
        refine ⟨k + 1, by omega, by go_num, by simp [Nat.add_assoc], ?_, hq3⟩
        rw [List.range_succ]
        have e : ys.length + (k + 1) = ys.length + k + 1 := by omega
        rw [e]
        simpa [Int.toNat_natCast] using ho3
      case measure => simp [intOf]; omega
    · have hk12 : k = 12 := by omega
      subst hk12
      have hs := slice_h (P := Tryz.prog) 48 under_bytes 1 size_bytes (some ⟨w.heap.size, 0, none⟩) (ys.length + 12) (ys.length + 12) ys.length (by omega)
      go_wp2_with fail
      go_ret
      exact ⟨_, rfl, ho, hq, Nat.le_refl _⟩

theorem quiet_left {P : Program} {f : FuncId} {args : Array Value} {w : World} {n : Nat} {v : Value}
    (h : Calls P f args (w.drewN n) fun e w' => e = .returned v ∧ w.drewN n = w') : Calls P f args (w.drewN n) fun e w'' => e = .returned v ∧ ∃ m, w'' = w.drewN m :=
  h.mono fun _ _ ⟨he, hw⟩ => ⟨he, n, hw.symm⟩
def KeptRel (w : World) (ys : List UInt8) (i : Value) (wr : World) : Prop := ∃ k : Nat, k ≤ ys.length + 12 ∧ i = .int .i64 k ∧ Quiet w wr

theorem Lent.drewN {w : World} {A : Option Addr} {ys : List UInt8} (h : Lent w A ys) (n : Nat) : Lent (w.drewN n) A ys := h

set_option maxRecDepth 100000 in
set_option maxHeartbeats 1000000 in
theorem kept_u8 (w : World) (F : Nat → Prop) (A1 A2 : Option Addr) (c2 : Nat) (ys : List UInt8) (h1 : Lent w A1 ys) (h2 : Sl w F A2 (ys.map B8)) (hsz : ys.length ≤ 1000000000000) :
    Calls Tryz.prog 46 #[.slice A1 ys.length (ys.length + 12), .slice A2 ys.length c2] w fun e w' => e = .returned (.bool true) ∧ Quiet w w' := by
  have hs := slice_h (P := Tryz.prog) 48 under_bytes 1 size_bytes A1 ys.length (ys.length + 12) (ys.length + 12) (Nat.le_refl _)
  go_enter Tryz.func46, Tryz.ntmps46
  go_wp2_with fail
  go_loopw [6] (fun i wr => KeptRel w ys i wr) (fun i _ => ys.length + 12 - (intOf i).toNat)
  case atStart => exact ⟨0, by omega, rfl, Quiet.refl _⟩
  case round =>
    obtain ⟨k, hk, rfl, hq⟩ := hrel
    by_cases hlt : k < ys.length + 12
    · obtain ⟨b1, o1, rfl, _, hc1⟩ := h1.sl.get (k := k) (by simp [behind]; omega)
      rw [← hq.cell] at hc1
      have hi0 : (k : Int) < (ys.length : Int) + 12 := by omega
      by_cases hlt2 : k < ys.length
      · obtain ⟨b2, o2, rfl, _, hc2⟩ := h2.get hlt2
        rw [← hq.cell] at hc2
        rw [List.getElem_append_left hlt2] at hc1
        have hi1 : (k : Int) < (ys.length : Int) := by omega
        have hi2 : decide ((ys.length : Int) ≤ (k : Int)) = false := by simp; omega
        have hi3 : decide (ys.length ≤ k) = false := by simp; omega
        go_wp2_with fail
        go_quiet (fail)
        go_wp2_with fail
        go_roundw
        case rel => exact ⟨k + 1, by omega, by go_num, hq.drewN _⟩
        case measure => simp [intOf]; omega
      · rw [List.getElem_append_right (by omega)] at hc1
        have hv : behind[k - ys.length]'(by simp [behind]; omega) = mkB 1 (k - ys.length) := by simp [behind]
        rw [hv] at hc1
        clear hv
        have hi1 : decide ((k : Int) < (ys.length : Int)) = false := by simp; omega
        have hi3 : decide (k < ys.length) = false := by simp; omega
        have hi2 : (ys.length : Int) ≤ (k : Int) := by omega
        have hmk := fun w => markByte_any w 1 ((k : Int) - (ys.length : Int)) (by omega) (by omega) (by omega) (by omega)
        have hk2 : ((k : Int) - (ys.length : Int)).toNat = k - ys.length := by omega
        rw [hk2] at hmk
        clear hk2
        have HM := Lib.hid hmk
        clear hmk
        have hwr : IntKind.i64.wrap ((k : Int) - (ys.length : Int)) = (k : Int) - (ys.length : Int) := IntWalk.i64_in _ (by omega)
        go_wp2_with fail
        go_quiet ((go_at_call 93; exact quiet_left (HM.out _)))
        go_wp2_with fail
        go_roundw
        case rel => exact ⟨k + 1, by omega, by go_num, hq.drewN _⟩
        case measure => simp [intOf]; omega
    · go_wp2_with fail
      go_ret
      exact ⟨rfl, hq⟩

/-? kit_OverBytes -/
end Go.Proofs.YtippdjaakcgeoaaGreat

namespace Go.Proofs.YtippdjaakcgeoaaGreat
open Go Go.RowKit

section
variable {w w' : World} {g g' : Nat} {t : TypeId} {cs cs' : Array Value} {S : Nat → Prop}
theorem Blk.row (h : Blk w g t cs) (cs' : Array Value) : Blk (w.setRow g cs') g t cs' := setRow_heap w g cs cs' t (0, 0) h
theorem Fr.setRow (h : Fr S w w') (hp : S g ∨ w.heap.size ≤ g) (cs : Array Value) : Fr S w (w'.setRow g cs) :=
  ⟨h.os, h.tape, h.output, by simpa [World.setRow] using h.size, fun i hi hn => (setRow_other w' g i cs (by
    rintro rfl
    rcases hp with hp | hp
    · exact hn hp
    · omega)).trans (h.block i hi hn)⟩
end
section
variable {P : Program}
end
/-- The step over a guarded append in a region that draws its order. -/
theorem step_append2g {P : Program} {E : TypeId} {size n cap : Nat} {A : Option Addr} {cs : List Value} {F : Nat → Prop} {w : World} {ops : Array Oper} {o : Oper} {a : Act} {K : Act → World → Prop} {Q : Exit → Act → World → Prop} {X : Prop} (hw : Region.wanted o (yielded ops a.tmps) = true) (s x : Operand) (t : TypeId)
    (ho : o.op = .call { callee := .builtin .append, args := #[s, x], argTypes := #[t, t] }) (bytes : Nat) (z : Value) (ht : P.underlying t = some (.slice E))
    (hinfo : (P.info? E).map (fun i => (i.zero, i.size, i.bytes)) = some (some z, size, bytes)) (hzs : z.cells.size = size) (hsz : 0 < size)
    (hs : a.eval s = .slice A n cap) (hown : Own w E size A n cap cs) {A2 : Option Addr} {m c : Nat} {news : List Value} (hx : a.eval x = .slice A2 m c) (hsl : Sl w F A2 news) (hl : news.length = m * size) (h1 : ∀ u ∈ news, u.oneCell' = true)
    (hbytes : (n + m) * bytes ≤ 140737488355328) (hmax : n + m ≤ maxLen)
    (h : ∀ A' cap' w', AppTo w E size A n cap m cs news A' cap' w' → K (a.put o.dst (.slice A' (n + m) cap')) w') :
    if Region.wanted o (yielded ops a.tmps) = true then Oper.wp P o a w K Q else X := by
  rw [if_pos hw]
  obtain ⟨A', cap', w', hrun, h2⟩ := run_append_two (P := P) w t o.type bytes z ht hinfo hzs hsz hown hsl hl h1 hbytes hmax (c := c)
  unfold Oper.wp execOp
  simp only [ho, resolve, invoke, builtin, Sem.run_bind, Sem.run_pure, Result.andThen_ok, List.map_toArray, List.map_cons, List.map_nil, hs, hx]
  rw [hrun]
  exact h A' cap' w' h2

end Go.Proofs.YtippdjaakcgeoaaGreat

namespace Go.Proofs.YtippdjaakcgeoaaGreat
open Go Go.RowKit

/-- Cells from place o on, others put there. -/
def putL : List Value → Nat → List Value → List Value
  | cs, 0, [] => cs
  | [], 0, _ :: _ => []
  | _ :: cs, 0, v :: vs => v :: putL cs 0 vs
  | [], _ + 1, _ => []
  | c :: cs, o + 1, vs => c :: putL cs o vs
theorem putL_nil (cs : List Value) (o : Nat) : putL cs o [] = cs := by
  induction cs generalizing o with
  | nil => cases o <;> rfl
  | cons c cs ih =>
    cases o with
    | zero => rfl
    | succ o => show c :: putL cs o [] = _; rw [ih]
theorem putL_cons (cs : List Value) (o : Nat) (v : Value) (vs : List Value) : putL cs o (v :: vs) = putL (cs.set o v) (o + 1) vs := by
  induction cs generalizing o with
  | nil => cases o <;> rfl
  | cons c cs ih =>
    cases o with
    | zero =>
      show v :: putL cs 0 vs = v :: putL cs 0 vs
      rfl
    | succ o =>
      show c :: putL cs o (v :: vs) = c :: putL (cs.set o v) (o + 1) vs
      rw [ih]
section
variable {w w' : World} {g : Nat} {t : TypeId} {l : List Value}
theorem Blk.setCells (h : Blk w g t l.toArray) (o : Nat) (vs : List Value) : Blk (w.setCells g o vs) g t (putL l o vs).toArray := by
  induction vs generalizing w o l with
  | nil => rw [putL_nil]; exact h
  | cons v vs ih =>
    rw [putL_cons]
    have h1 := h.set_ o v
    rw [List.setIfInBounds_toArray] at h1
    exact ih h1 (o + 1)
theorem Fr.set1 (f : Fr (· = g) w w') (k : Nat) (u : Value) : Fr (· = g) w (w'.setCell ⟨g, k, none⟩ u) := f.setCell (p := ⟨g, k, none⟩) (.inl rfl) u
theorem Fr.setCells (f : Fr (· = g) w w') (o : Nat) (vs : List Value) : Fr (· = g) w (w'.setCells g o vs) := by
  induction vs generalizing w' o with
  | nil => exact f
  | cons v vs ih => exact ih (f.set1 o v) (o + 1)
theorem Blk.there (h : Blk w g t l.toArray) (o n : Nat) (hn : o + n ≤ l.length) : w.there g o n := fun j hj => by
  have h1 := h.cell (o + j)
  have h2 := h.frozen (o + j)
  rw [h1]
  exact ⟨by simp; omega, h2⟩
theorem Blk.cells_at (h : Blk w g t l.toArray) (o : Nat) : ∀ p u, (l.drop o)[p]? = some u → w.cell? ⟨g, o + p, none⟩ = some u := fun p u hu => by
  rw [h.cell]
  simpa using hu
theorem Blk.cells_in (h : Blk w g t l.toArray) (o n : Nat) : ∀ p u, ((l.drop o).take n)[p]? = some u → w.cell? ⟨g, o + p, none⟩ = some u := fun p u hu => by
  refine h.cells_at o p u ?_
  rw [List.getElem?_take] at hu
  split at hu
  · exact hu
  · cases hu
end
end Go.Proofs.YtippdjaakcgeoaaGreat
