/- More words for memory, over any program: an aggregate loaded, a drawn region with a tail. -/
import Derived.Test.YtippdjaakcgeoaaMem
import Derived.StillTailTactics
import Derived.Laws.Rows
import Derived.Deep.QuietTactic
import Derived.BigQuiet
namespace Go.Proofs.Ytippdjaakcgeoaa
open Go Go.RowKit

/-- A drawn region whose last operations stand in one order: the world behind its name. -/
theorem wp_region_tail {P : Program} {id : Nat} {Q : Exit → Act → World → Prop} {a : Act} {w : World} {l : List Oper} (n : Nat) (hm : P.follows .mixedOrders = true) (hB : Region.lexTailB .any l.toArray n = true)
    (h : wpStill P l.toArray w.drew (fun a' => wpList P l.toArray Q (l.drop n) a' w.drew) (l.take n) a) : (Code.region id l.toArray true).wp P Q a w :=
  wp_region_still_tail n hm hB h

section
variable {P : Program}
/-- A struct's, or an array's, cells loaded at once. -/
theorem run_loadVar_cells (w : World) (g o : Nat) (ty : TypeId) (cs : List Value) (d : TypeDesc) (hc : ∀ j v, cs[j]? = some v → w.cell? ⟨g, o + j, none⟩ = some v)
    (hu : P.underlying ty = some d) (hd : (match d with | .struct _ | .array _ _ => true | _ => false) = true) (hi : (P.info? ty).map (·.size) = some cs.length) :
    (loadVar ty ⟨g, o, none⟩).run P w = .ok (.agg cs.toArray) w := by
  have hl : (loadCells ⟨g, o, none⟩ cs.length).run P w = .ok cs.toArray w :=
    run_loadCells_list (P := P) w ⟨g, o, none⟩ cs (fun j v hv => by
      rw [Addr.add_lit]
      exact hc j v hv)
  cases hq : P.info? ty with
  | none => simp [hq] at hi
  | some i =>
    have hs : i.size = cs.length := by simpa [hq] using hi
    have hagg : (isAgg ty).run P w = .ok true w := by
      unfold isAgg
      rw [Sem.run_bind, run_underlying hu w]
      cases d <;> simp_all
    simp [loadVar, Sem.run_bind, hagg, sizeOf, typeInfo, hq, hs, hl]
theorem wp_load_cells {o : Oper} {a : Act} {w : World} {K : Act → World → Prop} {Q : Exit → Act → World → Prop} (ty : TypeId) (x : Operand) (ho : o.op = .load ty x)
    (g off : Nat) (hx : a.eval x = .pointer (some ⟨g, off, none⟩)) (cs : List Value) (d : TypeDesc) (hc : ∀ j v, cs[j]? = some v → w.cell? ⟨g, off + j, none⟩ = some v)
    (hu : P.underlying ty = some d) (hd : (match d with | .struct _ | .array _ _ => true | _ => false) = true) (hi : (P.info? ty).map (·.size) = some cs.length)
    (h : K (a.put o.dst (.agg cs.toArray)) w) : o.wp P a w K Q := by
  unfold Oper.wp execOp
  simp only [ho, hx, Instr.loadAt, Instr.sureAddr, Sem.run_bind, Sem.run_pure, Result.andThen_ok, run_loadVar_cells w g off ty cs d hc hu hd hi]
  exact h
theorem wl_load_cells {ops : Array Oper} {rest : List Oper} {o : Oper} {a : Act} {w : World} {Q : Exit → Act → World → Prop} (hgd : o.guard = none) (ty : TypeId) (x : Operand) (ho : o.op = .load ty x)
    (g off : Nat) (hx : a.eval x = .pointer (some ⟨g, off, none⟩)) (cs : List Value) (d : TypeDesc) (hc : ∀ j v, cs[j]? = some v → w.cell? ⟨g, off + j, none⟩ = some v)
    (hu : P.underlying ty = some d) (hd : (match d with | .struct _ | .array _ _ => true | _ => false) = true) (hi : (P.info? ty).map (·.size) = some cs.length)
    (h : wpList P ops Q rest (a.put o.dst (.agg cs.toArray)) w) : wpList P ops Q (o :: rest) a w :=
  wpList_plain hgd fun _ hK => wp_load_cells ty x ho g off hx cs d hc hu hd hi (hK _ _ h)
end

/-- The cells of a block that was made just now. -/
theorem sl_new (w : World) (t : TypeId) (cs : List Value) (n : Nat) (hn : w.heap.size = n) : Sl (w.alloc (.cells cs.toArray t)) (· = n) (some ⟨n, 0, none⟩) cs := by
  subst hn
  have h := (Blk.new w t cs.toArray).sl 0 cs.length
  simpa using h

/-- A world in which only new blocks were made, or turned, since w. -/
def Later (w : World) : Type := { w' : World // Nw w w' }
instance (w : World) : Nonempty (Later w) := ⟨⟨w, Fr.refl _ _⟩⟩
def Later.at_ {w : World} (n : Later w) : World := n.val
theorem Later.nw {w : World} (n : Later w) : Nw w n.at_ := n.property
theorem Later.cell {w : World} {p : Addr} {v : Value} (h : w.cell? p = some v) (n : Later w) : n.at_.cell? p = some v :=
  (n.nw.cell (World.block_lt_of_cell? _ _ h) (fun h => h)).trans h
theorem Later.call {P : Program} {f : FuncId} {args : Array Value} {w : World} {n : Later w} {v : Value} (h : Calls P f args n.at_ fun e w' => e = .returned v ∧ Nw n.at_ w') :
    Calls P f args n.at_ fun e w'' => e = .returned v ∧ ∃ m : Later w, w'' = m.at_ :=
  h.mono fun _ w' ⟨he, hq⟩ => ⟨he, ⟨w', n.nw.tr hq⟩, rfl⟩
theorem Later.same {P : Program} {f : FuncId} {args : Array Value} {w : World} {n : Later w} {v : Value} (h : Calls P f args n.at_ fun e w' => e = .returned v ∧ n.at_ = w') :
    Calls P f args n.at_ fun e w'' => e = .returned v ∧ ∃ m : Later w, w'' = m.at_ :=
  h.mono fun _ _ ⟨he, hq⟩ => ⟨he, n, hq.symm⟩
theorem wpQuiet_later {P : Program} {ops : Array Oper} {w : World} {Q : Exit → Act → World → Prop} {a : Act} (h : ∀ w', Nw w w' → Q .normal a w') :
    wpQuiet P ops (fun w' => ∃ n : Later w, w' = n.at_) (fun a' => ∀ w', (∃ n : Later w, w' = n.at_) → Q .normal a' w') [] a :=
  wpQuiet_nil fun w' ⟨n, hn⟩ => h w' (by rw [hn]; exact n.nw)
/-- A drawn region whose operations read, and whose callees make new memory alone: one walk in the order of the text. -/
theorem wp_region_later {P : Program} {id : Nat} {Q : Exit → Act → World → Prop} {a : Act} {w : World} {l : List Oper} (hm : P.follows .mixedOrders = true) (hB : Region.lexB .any l.toArray = true)
    (h : wpQuiet P l.toArray (fun w' => ∃ n : Later w, w' = n.at_) (fun a' => ∀ w', (∃ n : Later w, w' = n.at_) → Q .normal a' w') l a) : (Code.region id l.toArray true).wp P Q a w :=
  wp_region_quiet (C := fun w' => ∃ n : Later w, w' = n.at_) hm hB ⟨⟨w.drew, (Fr.refl _ w).drew⟩, rfl⟩ (by simpa using h)
end Go.Proofs.Ytippdjaakcgeoaa
