/- Names: slices of names that the call makes; a number brought into a range. -/
import Derived.Test.YtoapobgnfgfobaaPsL
import Derived.Deep.RegionHeld3
namespace Go.Proofs.Ytoapobgnfgfobaa
open Go Go.RowKit

theorem info_name : (Try.prog.info? 53).map (fun i => (i.zero, i.size, i.bytes)) = some (some (.agg #[.int .i64 0, .int .i64 0]), 2, 16) := by kernel_rfl
theorem nm_one (l : List Nm) : ∀ u ∈ nmCells l, u.oneCell' = true := by
  intro u hu
  unfold nmCells at hu
  obtain ⟨x, hx, hu⟩ := List.mem_flatten.1 hu
  obtain ⟨y, _, rfl⟩ := List.mem_map.1 hx
  simp at hu
  rcases hu with rfl | rfl <;> rfl
theorem nmCells_append (a b : List Nm) : nmCells (a ++ b) = nmCells a ++ nmCells b := by simp [nmCells]
theorem nmCells_take (l : List Nm) (k : Nat) : nmCells (l.take k) = (nmCells l).take (k * 2) := by
  unfold nmCells
  induction l generalizing k with
  | nil => simp
  | cons x l ih =>
    cases k with
    | zero => simp
    | succ k => simp only [List.take_succ_cons, List.map_cons, List.flatten_cons]; rw [ih k, show (k + 1) * 2 = k * 2 + 2 by omega]; rfl
theorem nmCells_drop (l : List Nm) (k : Nat) : nmCells (l.drop k) = (nmCells l).drop (k * 2) := by
  unfold nmCells
  induction l generalizing k with
  | nil => simp
  | cons x l ih =>
    cases k with
    | zero => simp
    | succ k => simp only [List.drop_succ_cons, List.map_cons, List.flatten_cons]; rw [ih k, show (k + 1) * 2 = k * 2 + 2 by omega]; rfl
theorem size_names (w : World) : (sizeOf (Try.prog.elem 23)).run Try.prog w = .ok 2 w := by kernel_rfl
theorem under_names : Try.prog.underlying 23 = some (.slice (Try.prog.elem 23)) := by kernel_rfl

section
variable {P : Program} {E : TypeId} {size n cap : Nat} {A : Option Addr} {cs : List Value} {F : Nat → Prop}
/-- The step over an append in a region that draws its order. -/
theorem step_append2 {w : World} {ops : Array Oper} {o : Oper} {a : Act} {K : Act → World → Prop} {Q : Exit → Act → World → Prop} {X : Prop} (hgd : o.guard = none) (s x : Operand) (t : TypeId)
    (ho : o.op = .call { callee := .builtin .append, args := #[s, x], argTypes := #[t, t] }) (bytes : Nat) (z : Value) (ht : P.underlying t = some (.slice E))
    (hinfo : (P.info? E).map (fun i => (i.zero, i.size, i.bytes)) = some (some z, size, bytes)) (hzs : z.cells.size = size) (hsz : 0 < size)
    (hs : a.eval s = .slice A n cap) (hown : Own w E size A n cap cs) {A2 : Option Addr} {m c : Nat} {news : List Value} (hx : a.eval x = .slice A2 m c) (hsl : Sl w F A2 news) (hl : news.length = m * size) (h1 : ∀ u ∈ news, u.oneCell' = true)
    (hbytes : (n + m) * bytes ≤ 140737488355328) (hmax : n + m ≤ maxLen)
    (h : ∀ A' cap' w', AppTo w E size A n cap m cs news A' cap' w' → K (a.put o.dst (.slice A' (n + m) cap')) w') :
    if Region.wanted o (yielded ops a.tmps) = true then Oper.wp P o a w K Q else X := by
  have hw : Region.wanted o (yielded ops a.tmps) = true := by simp [Region.wanted, hgd]
  rw [if_pos hw]
  obtain ⟨A', cap', w', hrun, h2⟩ := run_append_two (P := P) w t o.type bytes z ht hinfo hzs hsz hown hsl hl h1 hbytes hmax (c := c)
  unfold Oper.wp execOp
  simp only [ho, resolve, invoke, builtin, Sem.run_bind, Sem.run_pure, Result.andThen_ok, List.map_toArray, List.map_cons, List.map_nil, hs, hx]
  rw [hrun]
  exact h A' cap' w' h2
end

def KnownNw (w : World) (n : Nat) (i : Value) (wx : World) : Prop := ∃ k : Nat, k ≤ n ∧ i = .int .i64 k ∧ Nw w wx
/-- What an append to a slice of new memory leaves. -/
theorem AppTo.newOwn {w0 w w' : World} {E : TypeId} {size n cap m : Nat} {A A' : Option Addr} {cap' : Nat} {cs news : List Value} (h : AppTo w E size A n cap m cs news A' cap' w') (hq : Nw w0 w) (hA : ∀ k, inA A k → w0.heap.size ≤ k) :
    Own w' E size A' (n + m) cap' (cs ++ news) ∧ Nw w0 w' ∧ (∀ k, inA A' k → w0.heap.size ≤ k) := by
  obtain ⟨ho2, _, hcase⟩ := h
  refine ⟨ho2, ?_, ?_⟩
  · rcases hcase with ⟨_, rfl, _, hf⟩ | ⟨_, rfl, hf⟩
    · exact hq.new hf hA
    · exact hq.tr hf
  · intro k hk
    rcases hcase with ⟨_, rfl, _, hf⟩ | ⟨_, rfl, hf⟩
    · exact hA k hk
    · rw [(inA_some _ _).1 hk]; exact hq.size

theorem AppTo.fr {w w' : World} {E : TypeId} {size n cap m : Nat} {A A' : Option Addr} {cap' : Nat} {cs news : List Value} (h : AppTo w E size A n cap m cs news A' cap' w') : Fr (inA A) w w' := by
  obtain ⟨_, _, ⟨_, _, _, hf⟩ | ⟨_, _, hf⟩⟩ := h
  · exact hf
  · exact Nw.on hf

/-- 'Pick': a number from 0 to n - 1. -/
theorem pick_any (w : World) (x n : Int) (hn : 0 < n) (hn2 : n ≤ 1000000000000) (hx : -9223372036854775808 ≤ x ∧ x ≤ 9223372036854775807) :
    Calls Try.prog 59 #[.int .i64 x, .int .i64 n] w fun e w' => (∃ k : Nat, (k : Int) < n ∧ e = .returned (.int .i64 (k : Int))) ∧ w = w' := by
  obtain ⟨h1, h2⟩ := hx
  go_enter Try.func59, Try.ntmps59
  go_wp2_with fail
  · go_ret
    have h3 := Int.lt_tmod_of_pos x hn
    have e : wrap64 (x.tmod n + n) = x.tmod n + n := IntWalk.wrap64_in _ (by omega)
    rw [e]
    exact ⟨⟨(x.tmod n + n).toNat, by omega, by go_num⟩, rfl⟩
  · go_ret
    have h3 := Int.tmod_lt_of_pos x hn
    exact ⟨⟨(x.tmod n).toNat, by omega, by go_num⟩, rfl⟩
end Go.Proofs.Ytoapobgnfgfobaa
