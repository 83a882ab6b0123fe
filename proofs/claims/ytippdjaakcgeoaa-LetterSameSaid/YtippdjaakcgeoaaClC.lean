/- Letters held against each other: a letter's numbers. (Printed by genclc.py.) -/
import Derived.Test.YtippdjaakcgeoaaClB
import Derived.Test.YtippdjaakcgeoaaRgC
namespace Go.Proofs.Ytippdjaakcgeoaa
open Go Go.RowKit
set_option linter.unusedVariables false
set_option linter.unusedSimpArgs false
/-- A letter's numbers. -/
def numsOf (x : LetM) : List Int := [x.kind, x.group, x.src, x.dst, x.term, x.index, x.logt, x.commit, x.base.index, x.base.term, x.size, x.at_, x.tag]
set_option maxRecDepth 100000 in
set_option maxHeartbeats 8000000 in
theorem lnumbers_any (w : World) (F : Nat → Prop) (x : LetM) (hx : LetIn w F x) :
    Calls Try.prog 42 #[.agg (letA x)] w fun e w' => ∃ g, e = .returned (.slice (some ⟨g, 0, none⟩) 13 13) ∧ w.heap.size ≤ g ∧ g < w'.heap.size ∧ Sl w' (· = g) (some ⟨g, 0, none⟩) (intsC (numsOf x)) ∧ Nw w w' := by
  obtain ⟨G, hG⟩ : ∃ G, G = w.heap.size := ⟨_, rfl⟩
  obtain ⟨W0, hW0⟩ : ∃ W, W = w.alloc (.cells #[U8V x.kind, I64 x.group, I64 x.src, I64 x.dst, I64 x.term, I64 x.index, I64 x.logt, I64 x.commit, .bool x.ok, .slice x.ents.a x.ents.l.length x.ents.c, I64 x.base.index, I64 x.base.term, .slice x.base.cfg.v.a x.base.cfg.v.l.length x.base.cfg.v.c, .slice x.base.cfg.o.a x.base.cfg.o.l.length x.base.cfg.o.c, .slice x.base.cfg.l.a x.base.cfg.l.l.length x.base.cfg.l.c, .slice x.base.cfg.w.a x.base.cfg.w.l.length x.base.cfg.w.c, I64 x.size, I64 x.at_, I64 x.tag, .slice x.bytes.a x.bytes.l.length x.bytes.c] 40) := ⟨_, rfl⟩
  have p0 : Nw w W0 := by rw [hW0]; exact (Fr.refl (fun _ => False) _).alloc _
  have b0 : Blk W0 G 40 #[U8V x.kind, I64 x.group, I64 x.src, I64 x.dst, I64 x.term, I64 x.index, I64 x.logt, I64 x.commit, .bool x.ok, .slice x.ents.a x.ents.l.length x.ents.c, I64 x.base.index, I64 x.base.term, .slice x.base.cfg.v.a x.base.cfg.v.l.length x.base.cfg.v.c, .slice x.base.cfg.o.a x.base.cfg.o.l.length x.base.cfg.o.c, .slice x.base.cfg.l.a x.base.cfg.l.l.length x.base.cfg.l.c, .slice x.base.cfg.w.a x.base.cfg.w.l.length x.base.cfg.w.c, I64 x.size, I64 x.at_, I64 x.tag, .slice x.bytes.a x.bytes.l.length x.bytes.c] := by rw [hW0, hG]; exact Blk.new _ _ _
  have hGw : w.heap.size ≤ G := by omega
  have hkd := hx.kind
  have hcv : IntKind.i64.wrap x.kind = x.kind := IntWalk.i64_in _ (by omega)
  have k0 : W0.cell? ⟨G, 0, none⟩ = some (U8V x.kind) := by simpa using b0.cell 0
  have k1 : W0.cell? ⟨G, 1, none⟩ = some (I64 x.group) := by simpa using b0.cell 1
  have k2 : W0.cell? ⟨G, 2, none⟩ = some (I64 x.src) := by simpa using b0.cell 2
  have k3 : W0.cell? ⟨G, 3, none⟩ = some (I64 x.dst) := by simpa using b0.cell 3
  have k4 : W0.cell? ⟨G, 4, none⟩ = some (I64 x.term) := by simpa using b0.cell 4
  have k5 : W0.cell? ⟨G, 5, none⟩ = some (I64 x.index) := by simpa using b0.cell 5
  have k6 : W0.cell? ⟨G, 6, none⟩ = some (I64 x.logt) := by simpa using b0.cell 6
  have k7 : W0.cell? ⟨G, 7, none⟩ = some (I64 x.commit) := by simpa using b0.cell 7
  have k10 : W0.cell? ⟨G, 10, none⟩ = some (I64 x.base.index) := by simpa using b0.cell 10
  have k11 : W0.cell? ⟨G, 11, none⟩ = some (I64 x.base.term) := by simpa using b0.cell 11
  have k16 : W0.cell? ⟨G, 16, none⟩ = some (I64 x.size) := by simpa using b0.cell 16
  have k17 : W0.cell? ⟨G, 17, none⟩ = some (I64 x.at_) := by simpa using b0.cell 17
  have k18 : W0.cell? ⟨G, 18, none⟩ = some (I64 x.tag) := by simpa using b0.cell 18
  have HG := Lib.hid hG
  have HW0 := Lib.hid hW0
  clear hG hW0 b0 hx
  go_enter Try.func42, Try.ntmps42
  go_upto_region 1 with (fail)
  rw [← HW0.out, ← HG.out]
  go_wp2_with fail
  go_ret
  refine ⟨W0.heap.size, rfl, p0.size, by simp, ?_, p0.tr ((Fr.refl (fun _ => False) W0).alloc _)⟩
  exact sl_new W0 3 [I64 x.kind, I64 x.group, I64 x.src, I64 x.dst, I64 x.term, I64 x.index, I64 x.logt, I64 x.commit, I64 x.base.index, I64 x.base.term, I64 x.size, I64 x.at_, I64 x.tag] _ rfl
end Go.Proofs.Ytippdjaakcgeoaa
