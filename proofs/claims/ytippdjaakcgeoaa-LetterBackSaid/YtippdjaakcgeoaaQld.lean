/- A struct loaded in a drawn region that only reads, and whose callees make new memory alone. -/
import Derived.Test.YtippdjaakcgeoaaMemB
namespace Go.Proofs.Ytippdjaakcgeoaa
open Go Go.RowKit

theorem quiet_load_cells {P : Program} {ops : Array Oper} {C : World → Prop} {L : Act → Prop} {rest : List Oper} {o : Oper} {a : Act} (hw : Region.wanted o (yielded ops a.tmps) = true) (ty : TypeId) (x : Operand) (ho : o.op = .load ty x)
    (g off : Nat) (hx : a.eval x = .pointer (some ⟨g, off, none⟩)) (cs : List Value) (d : TypeDesc) (hc : ∀ w, C w → ∀ j v, cs[j]? = some v → w.cell? ⟨g, off + j, none⟩ = some v)
    (hu : P.underlying ty = some d) (hd : (match d with | .struct _ | .array _ _ => true | _ => false) = true) (hi : (P.info? ty).map (·.size) = some cs.length)
    (h : wpQuiet P ops C L rest (a.put o.dst (.agg cs.toArray))) : wpQuiet P ops C L (o :: rest) a := by
  unfold wpQuiet
  rw [if_pos hw]
  refine ⟨.agg cs.toArray, fun w hC => ?_, h⟩
  unfold Oper.quietAt execOp
  simp only [ho, hx, Instr.loadAt, Instr.sureAddr, Sem.run_bind, Sem.run_pure, Result.andThen_ok, run_loadVar_cells w g off ty cs d (hc w hC) hu hd hi]
  exact ⟨rfl, rfl⟩
/-- Cells that stand as they stood. -/
theorem Later.cells {w : World} {g off : Nat} {cs : List Value} (h : ∀ j v, cs[j]? = some v → w.cell? ⟨g, off + j, none⟩ = some v) : ∀ w', (∃ n : Later w, w' = n.at_) → ∀ j v, cs[j]? = some v → w'.cell? ⟨g, off + j, none⟩ = some v := by
  rintro w' ⟨n, rfl⟩ j v hv
  exact n.cell (h j v hv)
/-- A struct's cells loaded behind a guard that says yes. -/
theorem wl_cells_want {P : Program} {w : World} {ops : Array Oper} {rest : List Oper} {o : Oper} {a : Act} {Q : Exit → Act → World → Prop} (hw : Region.wanted o (yielded ops a.tmps) = true) (ty : TypeId) (x : Operand) (ho : o.op = .load ty x)
    (g off : Nat) (hx : a.eval x = .pointer (some ⟨g, off, none⟩)) (cs : List Value) (d : TypeDesc) (hc : ∀ j v, cs[j]? = some v → w.cell? ⟨g, off + j, none⟩ = some v) (hu : P.underlying ty = some d) (hd : (match d with | .struct _ | .array _ _ => true | _ => false) = true) (hi : (P.info? ty).map (·.size) = some cs.length)
    (h : wpList P ops Q rest (a.put o.dst (.agg cs.toArray)) w) : wpList P ops Q (o :: rest) a w := by
  refine BigFrame.wpList_want hw fun K hK => ?_
  exact wp_load_cells ty x ho g off hx cs d hc hu hd hi (hK _ _ h)
end Go.Proofs.Ytippdjaakcgeoaa
