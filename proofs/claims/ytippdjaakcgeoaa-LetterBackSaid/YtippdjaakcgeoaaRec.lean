/- Structs in memory, over any program: a block that is set whole; what a function tells out of a variable. -/
import Derived.Test.YtippdjaakcgeoaaMemB
import Derived.Laws.Tables
import Derived.Laws.Rows
namespace Go.Proofs.Ytippdjaakcgeoaa
open Go Go.RowKit

section
variable {w w' : World} {g g' : Nat} {t : TypeId} {cs cs' : Array Value} {S : Nat → Prop}
theorem Blk.row (h : Blk w g t cs) (cs' : Array Value) : Blk (w.setRow g cs') g t cs' := setRow_heap w g cs cs' t (0, 0) h
theorem Blk.rowFar (h : Blk w g t cs) (hn : g ≠ g') (cs' : Array Value) : Blk (w.setRow g' cs') g t cs := (setRow_other w g' g cs' hn).trans h
theorem Fr.setRow (h : Fr S w w') (hp : S g ∨ w.heap.size ≤ g) (cs : Array Value) : Fr S w (w'.setRow g cs) :=
  ⟨h.os, h.tape, h.output, by simpa [World.setRow] using h.size, fun i hi hn => (setRow_other w' g i cs (by
    rintro rfl
    rcases hp with hp | hp
    · exact hn hp
    · omega)).trans (h.block i hi hn)⟩
end
section
variable {P : Program}
/-- A struct out of a variable, and a value behind it. -/
theorem results_cell_tmp_row {fn : Func} {p q : Tmp} {ty : TypeId} (h : fn.results = #[.cell p ty, .tmp q]) (tmps : Array Value) (w : World) (g : Nat) (t : TypeId) (cs : Array Value) (fr : Nat × Nat) (d : TypeDesc) (v : Value)
    (hp : tmps.getD p undef = .pointer (some ⟨g, 0, none⟩)) (hq : tmps.getD q undef = v) (hg : w.heap[g]? = some (.cells cs t fr))
    (hu : P.underlying ty = some d) (hd : (match d with | .struct _ | .array _ _ => true | _ => false) = true) (hi : (P.info? ty).map (·.size) = some cs.size) :
    (results fn tmps).run P w = .ok (.tuple #[.agg cs, v]) w := by
  have hp' : tmps[p]?.getD undef = .pointer (some ⟨g, 0, none⟩) := by simpa using hp
  have hq' : tmps[q]?.getD undef = v := by simpa using hq
  simp [results, h, hp', hq', asAddr, run_loadVar_row w g t ty cs fr d hg hu hd hi]
end
/-- The step over a guarded append in a region that draws its order. -/
theorem step_append2g {P : Program} {E : TypeId} {size n cap : Nat} {A : Option Addr} {cs : List Value} {F : Nat → Prop} {w : World} {ops : Array Oper} {o : Oper} {a : Act} {K : Act → World → Prop} {Q : Exit → Act → World → Prop} {X : Prop} (hw : Region.wanted o (yielded ops a.tmps) = true) (s x : Operand) (t : TypeId)
    (ho : o.op = .call { callee := .builtin .append, args := #[s, x], argTypes := #[t, t] }) (bytes : Nat) (z : Value) (ht : P.underlying t = some (.slice E))
    (hinfo : (P.info? E).map (fun i => (i.zero, i.size, i.bytes)) = some (some z, size, bytes)) (hzs : z.cells.size = size) (hsz : 0 < size)
    (hs : a.eval s = .slice A n cap) (hown : Own w E size A n cap cs) {A2 : Option Addr} {m c : Nat} {news : List Value} (hx : a.eval x = .slice A2 m c) (hsl : Sl w F A2 news) (hl : news.length = m * size) (h1 : ∀ u ∈ news, u.oneCell' = true)
    (hbytes : (n + m) * bytes ≤ 140737488355328) (hmax : n + m ≤ maxLen)
    (h : ∀ A' cap' w', AppTo w E size A n cap m cs news A' cap' w' → K (a.put o.dst (.slice A' (n + m) cap')) w') :
    if Region.wanted o (yielded ops a.tmps) = true then Oper.wp P o a w K Q else X := by
  rw [if_pos hw]
  obtain ⟨A', cap', w', hrun, h2⟩ := run_append_two (P := P) w t o.type bytes z ht hinfo hzs hsz hown hsl hl h1 hbytes hmax (c := c)
  unfold Oper.wp execOp
  simp only [ho, resolve, invoke, builtin, Sem.run_bind, Sem.run_pure, Result.andThen_ok, List.map_toArray, List.map_cons, List.map_nil, hs, hx]
  rw [hrun]
  exact h A' cap' w' h2

/-- The walk over an append behind a guard that says yes. -/
theorem wl_append2w {P : Program} {E : TypeId} {size n cap : Nat} {A : Option Addr} {cs : List Value} {F : Nat → Prop} {w : World} {ops : Array Oper} {rest : List Oper} {o : Oper} {a : Act} {Q : Exit → Act → World → Prop} (hw : Region.wanted o (yielded ops a.tmps) = true) (s x : Operand) (t : TypeId)
    (ho : o.op = .call { callee := .builtin .append, args := #[s, x], argTypes := #[t, t] }) (bytes : Nat) (z : Value) (ht : P.underlying t = some (.slice E))
    (hinfo : (P.info? E).map (fun i => (i.zero, i.size, i.bytes)) = some (some z, size, bytes)) (hzs : z.cells.size = size) (hsz : 0 < size)
    (hs : a.eval s = .slice A n cap) (hown : Own w E size A n cap cs) {A2 : Option Addr} {m c : Nat} {news : List Value} (hx : a.eval x = .slice A2 m c) (hsl : Sl w F A2 news) (hl : news.length = m * size) (h1 : ∀ u ∈ news, u.oneCell' = true)
    (hbytes : (n + m) * bytes ≤ 140737488355328) (hmax : n + m ≤ maxLen)
    (h : ∀ A' cap' w', AppTo w E size A n cap m cs news A' cap' w' → wpList P ops Q rest (a.put o.dst (.slice A' (n + m) cap')) w') :
    wpList P ops Q (o :: rest) a w := by
  refine BigFrame.wpList_want hw fun K hK' => ?_
  obtain ⟨A', cap', w', hrun, h2⟩ := run_append_two (P := P) w t o.type bytes z ht hinfo hzs hsz hown hsl hl h1 hbytes hmax (c := c)
  unfold Oper.wp execOp
  simp only [ho, resolve, invoke, builtin, Sem.run_bind, Sem.run_pure, Result.andThen_ok, List.map_toArray, List.map_cons, List.map_nil, hs, hx]
  rw [hrun]
  exact hK' _ _ (h A' cap' w' h2)

/-- Five cells set, one behind the other. -/
theorem set5 {w : World} {g : Nat} {t : TypeId} {x0 x1 x2 x3 x4 : Value} (h : Blk w g t #[x0, x1, x2, x3, x4]) (y0 y1 y2 y3 y4 : Value) :
    Blk (((((w.setCell ⟨g, 0, none⟩ y0).setCell ⟨g, 1, none⟩ y1).setCell ⟨g, 2, none⟩ y2).setCell ⟨g, 3, none⟩ y3).setCell ⟨g, 4, none⟩ y4) g t #[y0, y1, y2, y3, y4] ∧
      Fr (· = g) w (((((w.setCell ⟨g, 0, none⟩ y0).setCell ⟨g, 1, none⟩ y1).setCell ⟨g, 2, none⟩ y2).setCell ⟨g, 3, none⟩ y3).setCell ⟨g, 4, none⟩ y4) :=
  ⟨((((h.set_ 0 y0).set_ 1 y1).set_ 2 y2).set_ 3 y3).set_ 4 y4, (((((Fr.refl (· = g) w).setCell (p := ⟨g, 0, none⟩) (.inl rfl) y0).setCell (p := ⟨g, 1, none⟩) (.inl rfl) y1).setCell (p := ⟨g, 2, none⟩) (.inl rfl) y2).setCell (p := ⟨g, 3, none⟩) (.inl rfl) y3).setCell (p := ⟨g, 4, none⟩) (.inl rfl) y4⟩
end Go.Proofs.Ytippdjaakcgeoaa
