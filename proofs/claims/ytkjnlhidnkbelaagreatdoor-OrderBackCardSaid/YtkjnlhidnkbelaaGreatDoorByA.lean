/- Bytes without a writer or a reader: what a clone is; appends to one's own. -/
import Derived.Test.YtkjnlhidnkbelaaGreatDoorProg
import Derived.Test.YtkjnlhidnkbelaaGreatDoorGr1
import Derived.Test.YtkjnlhidnkbelaaGreatDoorGr1
import Derived.Deep.QuietTactic
import Derived.Deep.RegionHeld3
import Derived.BigQuiet
namespace Go.Proofs.YtkjnlhidnkbelaaGreatDoor
open Go Go.RowKit

theorem info_u8 : (Tryz.prog.info? 5).map (fun i => (i.zero, i.size, i.bytes)) = some (some (.int .u8 0), 1, 1) := by kernel_rfl

theorem size_bytes (w : World) : (sizeOf (Tryz.prog.elem 22)).run Tryz.prog w = .ok 1 w := by kernel_rfl

theorem under_bytes : Tryz.prog.underlying 22 = some (.slice (Tryz.prog.elem 22)) := by kernel_rfl

theorem bytes_size (s : ByteArray) : s.data.toList.length = s.size := rfl

theorem clone_u8 (w : World) (F : Nat → Prop) (A : Option Addr) (c : Nat) (bs : List UInt8) (hs : Sl w F A (bs.map B8)) (hsz : bs.length ≤ 1000000000000) :
    Calls Tryz.prog 97 #[.slice A bs.length c] w fun e w' => ∃ A' c', e = .returned (.slice A' bs.length c') ∧ Own w' 5 1 A' bs.length c' (bs.map B8) ∧ Fr (fun _ => False) w w' ∧ ∀ k, inA A' k → w.heap.size ≤ k := by
  have hnil := fun (w : World) (A : Option Addr) (n : Nat) => Lib.run_eql_slice_nil (P := Tryz.prog) w 22 5 A n c 0 0 Tryz.underlying22
  cases A with
  | none =>
    have hb : bs = [] := by
      rcases hs with h | ⟨b, o, h, _⟩
      · simpa using h
      · cases h
    subst hb
    go_enter Tryz.func97, Tryz.ntmps97
    go_wp2_with fail
    go_ret
    exact ⟨none, 0, rfl, Own.nil _ _ _, Fr.refl _ _, fun k hk => (inA_none k hk).elim⟩
  | some a =>
    go_enter Tryz.func97, Tryz.ntmps97
    go_wp2_with (at_builtin; refine wl_append rfl _ _ _ rfl 1 (.int .u8 0) Tryz.underlying22 info_u8 rfl (by decide) rfl (Own.new w 5 1 0 0 #[] (Nat.le_refl _) (by decide) rfl) rfl (hs.alloc _) (by simp) (B8_oneCell bs) (by omega) (by unfold maxLen; omega) ?_; intro A' cap' w1 ho hf hin)
    go_ret
    simp only [Nat.zero_add, Nat.zero_mul, List.take_zero, List.nil_append] at ho
    refine ⟨A', cap', rfl, ho, ((Fr.refl _ w).alloc _).trans hf fun k hk => .inr ?_, fun k hk => ?_⟩
    · rw [(inA_some _ _).1 hk]; exact Nat.le_refl _
    · rcases hin k hk with h | h
      · rw [(inA_some _ _).1 h]; exact Nat.le_refl _
      · rw [h]; simp

section
variable {P : Program} {E : TypeId} {size n cap : Nat} {A : Option Addr} {cs : List Value} {F : Nat → Prop}
/-- The step over an append in a region that draws its order. -/
theorem step_append2 {w : World} {ops : Array Oper} {o : Oper} {a : Act} {K : Act → World → Prop} {Q : Exit → Act → World → Prop} {X : Prop} (hgd : o.guard = none) (s x : Operand) (t : TypeId)
    (ho : o.op = .call { callee := .builtin .append, args := #[s, x], argTypes := #[t, t] }) (bytes : Nat) (z : Value) (ht : P.underlying t = some (.slice E))
    (hinfo : (P.info? E).map (fun i => (i.zero, i.size, i.bytes)) = some (some z, size, bytes)) (hzs : z.cells.size = size) (hsz : 0 < size)
    (hs : a.eval s = .slice A n cap) (hown : Own w E size A n cap cs) {A2 : Option Addr} {m c : Nat} {news : List Value} (hx : a.eval x = .slice A2 m c) (hsl : Sl w F A2 news) (hl : news.length = m * size) (h1 : ∀ u ∈ news, u.oneCell' = true)
    (hbytes : (n + m) * bytes ≤ 140737488355328) (hmax : n + m ≤ maxLen)
    (h : ∀ A' cap' w', AppTo w E size A n cap m cs news A' cap' w' → K (a.put o.dst (.slice A' (n + m) cap')) w') :
    if Region.wanted o (yielded ops a.tmps) = true then Oper.wp P o a w K Q else X := by
  have hw : Region.wanted o (yielded ops a.tmps) = true := by simp [Region.wanted, hgd]
  rw [if_pos hw]
  obtain ⟨A', cap', w', hrun, h2⟩ := run_append_two (P := P) w t o.type bytes z ht hinfo hzs hsz hown hsl hl h1 hbytes hmax (c := c)
  unfold Oper.wp execOp
  simp only [ho, resolve, invoke, builtin, Sem.run_bind, Sem.run_pure, Result.andThen_ok, List.map_toArray, List.map_cons, List.map_nil, hs, hx]
  rw [hrun]
  exact h A' cap' w' h2
end

def KnownNw (w : World) (n : Nat) (i : Value) (wx : World) : Prop := ∃ k : Nat, k ≤ n ∧ i = .int .i64 k ∧ Nw w wx
/-- What an append to a slice of new memory leaves. -/
theorem AppTo.newOwn {w0 w w' : World} {E : TypeId} {size n cap m : Nat} {A A' : Option Addr} {cap' : Nat} {cs news : List Value} (h : AppTo w E size A n cap m cs news A' cap' w') (hq : Nw w0 w) (hA : ∀ k, inA A k → w0.heap.size ≤ k) :
    Own w' E size A' (n + m) cap' (cs ++ news) ∧ Nw w0 w' ∧ (∀ k, inA A' k → w0.heap.size ≤ k) := by
  obtain ⟨ho2, _, hcase⟩ := h
  refine ⟨ho2, ?_, ?_⟩
  · rcases hcase with ⟨_, rfl, _, hf⟩ | ⟨_, rfl, hf⟩
    · exact hq.new hf hA
    · exact hq.tr hf
  · intro k hk
    rcases hcase with ⟨_, rfl, _, hf⟩ | ⟨_, rfl, hf⟩
    · exact hA k hk
    · rw [(inA_some _ _).1 hk]; exact hq.size

theorem AppTo.fr {w w' : World} {E : TypeId} {size n cap m : Nat} {A A' : Option Addr} {cap' : Nat} {cs news : List Value} (h : AppTo w E size A n cap m cs news A' cap' w') : Fr (inA A) w w' := by
  obtain ⟨_, _, ⟨_, _, _, hf⟩ | ⟨_, _, hf⟩⟩ := h
  · exact hf
  · exact Nw.on hf

end Go.Proofs.YtkjnlhidnkbelaaGreatDoor
