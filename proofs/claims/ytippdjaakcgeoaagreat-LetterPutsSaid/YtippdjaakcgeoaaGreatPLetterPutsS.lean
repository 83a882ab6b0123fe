/-
  The statement LetterPutsSaid of the law watershed/watershedlaw11.LetterPuts: for every input the call returns true, and each argument reads as it did. No conditions.
-/
import Derived.Test.YtippdjaakcgeoaaGreatRows
import Derived.Test.YtippdjaakcgeoaaGreatPa24
import Derived.Test.YtippdjaakcgeoaaGreatPa25
import Derived.WalkKit
import Derived.ProofKit
import Derived.OpenShut
import Derived.ShutString
import Derived.ChangeOld
import Derived.Below
import Derived.SizedLaws
namespace Go.Proofs.YtippdjaakcgeoaaGreat.letterPuts
open Go.ChangeShapes Go.WideShapes Go.ChangeAt Go.RowKit
open Go.ChangeMaps (open_string shut_string)
set_option linter.unusedVariables false

theorem own : ownKnob Tryz.prog.godebug = none := by kernel_rfl
theorem laidOut : laidOutB Tryz.prog = true := by kernel_rfl

set_option maxRecDepth 100000 in
set_option maxHeartbeats 2000000 in
theorem lifted (os : Os) (started : os.Started) (H : Type) (enc : TypeId × Value → H) :
    ReturnsInHanded {} Tryz.checked os 5 .any (Rows.letterPutsSpec.pre6 enc Tryz.prog Tryz.f5 Rows.letterPutsRow.domain false) (Rows.letterPutsSpec.post enc Tryz.prog Tryz.f5 false true false false) := by
  refine returnsInHanded_of_change_sized (C := Tryz.checked) own started (by kernel_rfl) Tryz.func5
    (ChangeSpec.witness6 (enc := enc) (C := Tryz.checked) false ⟨#[], #[.slice none 0 0, .agg #[.int .u8 0, .int .i64 0, .int .i64 0, .int .i64 0, .int .i64 0, .int .i64 0, .int .i64 0, .int .i64 0, .bool false, .slice none 0 0, .int .i64 0, .int .i64 0, .slice none 0 0, .slice none 0 0, .slice none 0 0, .slice none 0 0, .int .i64 0, .int .i64 0, .int .i64 0, .slice none 0 0], .agg #[.int .u8 0, .int .i64 0, .int .i64 0, .int .i64 0, .int .i64 0, .int .i64 0, .int .i64 0, .int .i64 0, .bool false, .slice none 0 0, .int .i64 0, .int .i64 0, .slice none 0 0, .slice none 0 0, .slice none 0 0, .slice none 0 0, .int .i64 0, .int .i64 0, .int .i64 0, .slice none 0 0]], []⟩ 8 (by kernel_rfl) (by kernel_rfl) (by kernel_rfl) (by kernel_rfl)) ?_
  intro W base args ds gs before hval0 hW hcnd hsz0 _
  have hval : ∀ (j : Nat) t v, Tryz.f5.params[j]? = some t → args[j]? = some v → Value.okWide Tryz.prog W .any base t v := hval0
  have hsz : (DataW.weightsEach Tryz.prog (Tryz.f5.params.toList ++ Rows.letterPutsSpec.plain.varTypes Tryz.prog) (ds ++ gs)).all (· ≤ reachBytes) = true := hsz0
  have hW' := hW
  obtain ⟨p, q, hA0, hV, rfl, hfz, hnd⟩ := hW
  have hA : DataW.TrodAll enc Tryz.prog W 0 (fun _ => true) true Tryz.f5.params.toList args.toList ds p := hA0
  rw [Tryz.params5] at hA hval hsz
  obtain ⟨v0, vs0, d0, ds0, p0, q0, hargs, rfl, rfl, h0, r0⟩ := trodAll_cons hA
  obtain ⟨v1, vs1, d1, ds1, p1, q1, rfl, rfl, rfl, h1, r1⟩ := trodAll_cons r0
  obtain ⟨v2, vs2, d2, ds2, p2, q2, rfl, rfl, rfl, h2, r2⟩ := trodAll_cons r1
  obtain ⟨rfl, rfl, rfl⟩ := trodAll_nil r2
  obtain rfl : args = #[v0, v1, v2] := by cases args; simp_all
  obtain ⟨rfl, rfl⟩ := trodVars_none hV
  have k0 := h0
  have lt0 : ∀ x ∈ p0, x.block < W.heap.size := by obtain ⟨m, hm⟩ := k0; exact DataW.trod_lt m _ _ _ hm
  have light0 : Lighter Tryz.prog 28 d0 := Lighter.of_each hsz (j := 0) rfl rfl
  obtain ⟨a0, len0, cap0, rfl⟩ := okWide_slice Tryz.underlying28 (hval 0 28 v0 rfl rfl)
  obtain ⟨fuel0, f0⟩ := h0
  obtain ⟨s0, hv0, hs0, hb0, he0⟩ := in_letters f0 light0
  injection hv0 with e1 e2 e3
  subst e1
  subst e2
  subst e3
  have k1 := h1
  have lt1 : ∀ x ∈ p1, x.block < W.heap.size := by obtain ⟨m, hm⟩ := k1; exact DataW.trod_lt m _ _ _ hm
  have light1 : Lighter Tryz.prog 50 d1 := Lighter.of_each hsz (j := 1) rfl rfl
  obtain ⟨cs1, rfl, hcl1⟩ := okWide_struct Tryz.underlying50 (hval 1 50 v1 rfl rfl)
  obtain ⟨fuel1, f1⟩ := h1
  have hc1 : Tryz.prog.cellsOf 50 = 20 := by kernel_rfl
  have hl1 : (Value.agg cs1).cells.toList.length = 20 := by
    show cs1.toList.length = 20
    rw [Array.length_toList, hcl1, hc1]
  obtain ⟨x1, hx1, hin1, hbd1⟩ := in_letter f1 hl1 light1
  have hxa1 : cs1 = letA x1 := Array.ext' (show cs1.toList = (letA x1).toList from hx1)
  subst hxa1
  have k2 := h2
  have lt2 : ∀ x ∈ p2, x.block < W.heap.size := by obtain ⟨m, hm⟩ := k2; exact DataW.trod_lt m _ _ _ hm
  have light2 : Lighter Tryz.prog 50 d2 := Lighter.of_each hsz (j := 2) rfl rfl
  obtain ⟨cs2, rfl, hcl2⟩ := okWide_struct Tryz.underlying50 (hval 2 50 v2 rfl rfl)
  obtain ⟨fuel2, f2⟩ := h2
  have hc2 : Tryz.prog.cellsOf 50 = 20 := by kernel_rfl
  have hl2 : (Value.agg cs2).cells.toList.length = 20 := by
    show cs2.toList.length = 20
    rw [Array.length_toList, hcl2, hc2]
  obtain ⟨x2, hx2, hin2, hbd2⟩ := in_letter f2 hl2 light2
  have hxa2 : cs2 = letA x2 := Array.ext' (show cs2.toList = (letA x2).toList from hx2)
  subst hxa2
  clear hA0 hval0
  refine (lputs_walk W (· < W.heap.size) s0.a s0.c s0.l x1 x2 hs0.sl (fun x hx => (he0 x hx).1) (fun x hx => (he0 x hx).2) hb0 hin1 hin2 hbd1 hbd2 (fun _ h => h)).mono fun e W' ⟨he, hfr⟩ => ?_
  have bel := hfr.below (fun _ h => h.elim) (Nat.le_refl _)
  subst he
  exact ⟨_, rfl, _, _, _, [], _, [], hW', trodAll_mk1 (shut_bool Tryz.underlying4 _), (trodAll_cons_mk (Below.trod laidOut (by kernel_rfl) (of_decide_eq_true (by kernel_rfl)) k0 bel lt0) (trodAll_cons_mk (Below.trod laidOut (by kernel_rfl) (of_decide_eq_true (by kernel_rfl)) k1 bel lt1) (trodAll_cons_mk (Below.trod laidOut (by kernel_rfl) (of_decide_eq_true (by kernel_rfl)) k2 bel lt2) trodAll_mk0))), rfl, bel.frame _, fun h => by cases h⟩

theorem over : Rows.letterPutsRow.holds Tryz.pinned (OpenSpec.ofChange Rows.letterPutsSpec) :=
  OpenClaim.holds_of_wide 5 Tryz.f5 rfl rfl rfl rfl rfl rfl rfl ⟨rfl, rfl, rfl, rfl, rfl⟩ rfl rfl rfl rfl rfl (by kernel_rfl) Tryz.func5 (by kernel_rfl)
    (of_decide_eq_true (by kernel_rfl)) (by unfold Func.isWrapper; first | (rw [if_pos (by decide +kernel)]; kernel_rfl) | (rw [if_neg (by decide +kernel)]; exact ⟨rfl, rfl⟩))
    (fun os started H enc _ => lifted os started H enc)

theorem proved : Rows.LetterPutsSaid := over
#print axioms proved
end Go.Proofs.YtippdjaakcgeoaaGreat.letterPuts
