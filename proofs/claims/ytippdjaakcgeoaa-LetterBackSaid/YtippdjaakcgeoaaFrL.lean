/- What comes in: letters. -/
import Derived.Test.YtippdjaakcgeoaaFrmB
import Derived.Test.YtippdjaakcgeoaaLgA
namespace Go.Proofs.Ytippdjaakcgeoaa
open Go Go.RowKit Go.ChangeShapes Go.WideShapes Go.Deep
set_option linter.unusedVariables false

section
variable {H : Type} {enc : TypeId × Value → H} {P : Program} {w : World} {held : Bool} {base : Nat}
theorem Lighter.part {e t : TypeId} {fs : Array Field} {parts : List (DataW H)} {j : Nat} {d : DataW H} (h : Lighter P e (.agg parts)) (he : P.underlying e = some (.struct fs)) (ht : (fs.toList.map (·.type))[j]? = some t) (hd : parts[j]? = some d) : Lighter P t d := fun m hm => h m (by
  simp only [DataW.weights, he]
  exact DataW.weights_mem_each ht hd m hm)
theorem fld {e : TypeId} {fs : Array Field} {fuel : Nat} {cs : List Value} {x : DataW H × List MemPlace} (he : P.underlying e = some (.struct fs)) (h : DataW.trod enc P w base (fun _ => true) held fuel e cs = some x) (hw : Lighter P e x.1)
    (i t o k : Nat) {f : Field} (hi : fs[i]? = some f) (ht : f.type = t) (ho : f.offset = o) (hk : P.cellsOf t = k) :
    ∃ n y, DataW.trod enc P w base (fun _ => true) held n t ((cs.drop o).take k) = some y ∧ Lighter P t y.1 := by
  obtain ⟨xs, n, _, rfl, _, hl, hf⟩ := DataW.trod_struct he h
  have h1 := hf i f hi
  obtain ⟨hil, _⟩ := Array.getElem?_eq_some_iff.1 hi
  have hx : xs[i]? = some (xs[i]'(by omega)) := List.getElem?_eq_getElem _
  rw [hx, ht, ho, hk] at h1
  refine ⟨n, _, h1, hw.part (j := i) he (by simp [hi, ht]) (by simp [hl, hil])⟩
theorem u8_of_wf2 {z : Int} (h : (Lit.int .u8 z).wf = true) : 0 ≤ z ∧ z ≤ 255 := by
  have := h
  simp [Lit.wf, IntKind.min, IntKind.max, IntKind.signed, IntKind.bits] at this
  omega
end
instance : Inhabited EntM := ⟨entMZ⟩
instance : Inhabited LetM := ⟨letMZ⟩
section
variable {H : Type} {enc : TypeId × Value → H} {w : World} {held : Bool} {base : Nat}
theorem in_int {fuel : Nat} {v : Value} {x : DataW H × List MemPlace} (h : DataW.trod enc Try.prog w base (fun _ => true) held fuel 3 [v] = some x) : ∃ n : Int, v = I64 n := by
  obtain ⟨s0, e0, _, e2⟩ := DataW.trod_int Try.underlying3 h
  injection e0 with e0
  exact ⟨s0, e0⟩
theorem in_u8 {t : TypeId} {fuel : Nat} {v : Value} {x : DataW H × List MemPlace} (ht : Try.prog.underlying t = some (.int .u8)) (h : DataW.trod enc Try.prog w base (fun _ => true) held fuel t [v] = some x) : ∃ n : Int, v = .int .u8 n ∧ 0 ≤ n ∧ n ≤ 255 := by
  obtain ⟨s0, e0, _, e2⟩ := DataW.trod_int ht h
  injection e0 with e0
  have := u8_of_wf2 e2
  exact ⟨s0, e0, by omega, by omega⟩
theorem in_bool {fuel : Nat} {v : Value} {x : DataW H × List MemPlace} (h : DataW.trod enc Try.prog w base (fun _ => true) held fuel 4 [v] = some x) : ∃ b : Bool, v = .bool b := by
  obtain ⟨s0, e0, _⟩ := DataW.trod_bool Try.underlying4 h
  injection e0 with e0
  exact ⟨s0, e0⟩
theorem in_ls8 {fuel : Nat} {v : Value} {x : DataW H × List MemPlace} (h : DataW.trod enc Try.prog w base (fun _ => true) held fuel 38 [v] = some x) (hw : Lighter Try.prog 38 x.1) :
    ∃ s : Ls UInt8, v = s.v ∧ LsIn w (· < w.heap.size) bytesC s ∧ s.l.length ≤ 1125899906842624 := by
  obtain ⟨A, c, l, e7, hc, hm, hr, hs⟩ := in_bytes Try.underlying38 Try.underlying5 (by kernel_rfl) h hw
  injection e7 with e7
  have hb : Try.prog.bytesOf 5 = 1 := by kernel_rfl
  have h2 : reachBytes = 140737488351232 := rfl
  rw [hb, h2] at hr
  exact ⟨⟨A, c, l⟩, e7, ⟨hs, hc, hm⟩, by show l.length ≤ _; omega⟩
theorem in_lsI {fuel : Nat} {v : Value} {x : DataW H × List MemPlace} (h : DataW.trod enc Try.prog w base (fun _ => true) held fuel 33 [v] = some x) (hw : Lighter Try.prog 33 x.1) :
    ∃ s : Ls Int, v = s.v ∧ LsIn w (· < w.heap.size) intsC s ∧ s.l.length ≤ 1125899906842624 := by
  obtain ⟨A, c, l, e7, hc, hm, hr, hs, _⟩ := in_ints Try.underlying33 Try.underlying3 (by kernel_rfl) h hw
  injection e7 with e7
  have hb : Try.prog.bytesOf 3 = 8 := by kernel_rfl
  have h2 : reachBytes = 140737488351232 := rfl
  rw [hb, h2] at hr
  exact ⟨⟨A, c, l⟩, e7, ⟨hs, hc, hm⟩, by show l.length ≤ _; omega⟩
theorem in_cfg {fuel : Nat} {cs : List Value} {x : DataW H × List MemPlace} (h : DataW.trod enc Try.prog w base (fun _ => true) held fuel 35 cs = some x) (hl : cs.length = 4) (hw : Lighter Try.prog 35 x.1) :
    ∃ c : CfgM, cs = cfgL c ∧ CfgIn w (· < w.heap.size) c ∧ CfgBd c := by
  match cs, hl with
  | [v0, v1, v2, v3], _ =>
    obtain ⟨n0, y0, h0, l0⟩ := fld Try.underlying35 h hw 0 33 0 1 rfl rfl rfl (by kernel_rfl)
    obtain ⟨n1, y1, h1, l1⟩ := fld Try.underlying35 h hw 1 33 1 1 rfl rfl rfl (by kernel_rfl)
    obtain ⟨n2, y2, h2, l2⟩ := fld Try.underlying35 h hw 2 33 2 1 rfl rfl rfl (by kernel_rfl)
    obtain ⟨n3, y3, h3, l3⟩ := fld Try.underlying35 h hw 3 33 3 1 rfl rfl rfl (by kernel_rfl)
    obtain ⟨s0, e0, i0, b0⟩ := in_lsI (show DataW.trod _ _ _ _ _ _ _ _ [v0] = _ from h0) l0
    obtain ⟨s1, e1, i1, b1⟩ := in_lsI (show DataW.trod _ _ _ _ _ _ _ _ [v1] = _ from h1) l1
    obtain ⟨s2, e2, i2, b2⟩ := in_lsI (show DataW.trod _ _ _ _ _ _ _ _ [v2] = _ from h2) l2
    obtain ⟨s3, e3, i3, b3⟩ := in_lsI (show DataW.trod _ _ _ _ _ _ _ _ [v3] = _ from h3) l3
    exact ⟨⟨s0, s1, s2, s3⟩, by rw [e0, e1, e2, e3], ⟨i0, i1, i2, i3⟩, ⟨b0, b1, b2, b3⟩⟩
theorem in_ents {fuel : Nat} {v : Value} {x : DataW H × List MemPlace} (h : DataW.trod enc Try.prog w base (fun _ => true) held fuel 32 [v] = some x) (hw : Lighter Try.prog 32 x.1) :
    ∃ s : Ls EntM, v = s.v ∧ LsIn w (· < w.heap.size) entsC s ∧ s.l.length ≤ 1125899906842624 ∧ ∀ e ∈ s.l, EntIn w (· < w.heap.size) e ∧ EntBd e := by
  obtain ⟨A, c, l, h1, h2, h3, h4, h5, _, h7⟩ := in_many entF (fun e => EntIn w (· < w.heap.size) e ∧ EntBd e) 7 (by omega) Try.underlying32 (by kernel_rfl) h hw fun n cs' d pl hd hlen hwt => by
    match cs', hlen with
    | [v0, v1, v2, v3, v4, v5, v6], _ =>
      obtain ⟨n0, y0, h0, _⟩ := fld Try.underlying60 hd hwt 0 3 0 1 rfl rfl rfl (by kernel_rfl)
      obtain ⟨n1, y1, h1, _⟩ := fld Try.underlying60 hd hwt 1 58 1 1 rfl rfl rfl (by kernel_rfl)
      obtain ⟨n2, y2, h2, l2⟩ := fld Try.underlying60 hd hwt 2 38 2 1 rfl rfl rfl (by kernel_rfl)
      obtain ⟨n3, y3, h3, l3⟩ := fld Try.underlying60 hd hwt 3 35 3 4 rfl rfl rfl (by kernel_rfl)
      obtain ⟨t, e0⟩ := in_int (show DataW.trod _ _ _ _ _ _ _ _ [v0] = _ from h0)
      obtain ⟨k, e1, z1⟩ := in_u8 Try.underlying58 (show DataW.trod _ _ _ _ _ _ _ _ [v1] = _ from h1)
      obtain ⟨s, e2, i2, b2⟩ := in_ls8 (show DataW.trod _ _ _ _ _ _ _ _ [v2] = _ from h2) l2
      obtain ⟨c, e3, i3, b3⟩ := in_cfg (show DataW.trod _ _ _ _ _ _ _ _ [v3, v4, v5, v6] = _ from h3) rfl l3
      injection e3 with a0 e3
      injection e3 with a1 e3
      injection e3 with a2 e3
      injection e3 with a3 e3
      exact ⟨⟨t, k, s, c⟩, by rw [e0, e1, e2, a0, a1, a2, a3]; rfl, ⟨z1, i2, i3⟩, ⟨b2, b3⟩⟩
  injection h1 with h1
  have hb : Try.prog.bytesOf 60 = 136 := by kernel_rfl
  have hr : reachBytes = 140737488351232 := rfl
  rw [hb, hr] at h4
  exact ⟨⟨A, c, l⟩, h1, ⟨h5, h2, h3⟩, by show l.length ≤ _; omega, h7⟩
theorem in_letter {fuel : Nat} {cs : List Value} {x : DataW H × List MemPlace} (h : DataW.trod enc Try.prog w base (fun _ => true) held fuel 40 cs = some x) (hl : cs.length = 20) (hw : Lighter Try.prog 40 x.1) :
    ∃ y : LetM, cs = letL y ∧ LetIn w (· < w.heap.size) y ∧ LetBd y := by
  match cs, hl with
  | [v0, v1, v2, v3, v4, v5, v6, v7, v8, v9, v10, v11, v12, v13, v14, v15, v16, v17, v18, v19], _ =>
    obtain ⟨n0, y0, h0, _⟩ := fld Try.underlying40 h hw 0 31 0 1 rfl rfl rfl (by kernel_rfl)
    obtain ⟨n1, y1, h1, _⟩ := fld Try.underlying40 h hw 1 3 1 1 rfl rfl rfl (by kernel_rfl)
    obtain ⟨n2, y2, h2, _⟩ := fld Try.underlying40 h hw 2 3 2 1 rfl rfl rfl (by kernel_rfl)
    obtain ⟨n3, y3, h3, _⟩ := fld Try.underlying40 h hw 3 3 3 1 rfl rfl rfl (by kernel_rfl)
    obtain ⟨n4, y4, h4, _⟩ := fld Try.underlying40 h hw 4 3 4 1 rfl rfl rfl (by kernel_rfl)
    obtain ⟨n5, y5, h5, _⟩ := fld Try.underlying40 h hw 5 3 5 1 rfl rfl rfl (by kernel_rfl)
    obtain ⟨n6, y6, h6, _⟩ := fld Try.underlying40 h hw 6 3 6 1 rfl rfl rfl (by kernel_rfl)
    obtain ⟨n7, y7, h7, _⟩ := fld Try.underlying40 h hw 7 3 7 1 rfl rfl rfl (by kernel_rfl)
    obtain ⟨n8, y8, h8, _⟩ := fld Try.underlying40 h hw 8 4 8 1 rfl rfl rfl (by kernel_rfl)
    obtain ⟨n9, y9, h9, l9⟩ := fld Try.underlying40 h hw 9 32 9 1 rfl rfl rfl (by kernel_rfl)
    obtain ⟨n10, y10, h10, l10⟩ := fld Try.underlying40 h hw 10 37 10 6 rfl rfl rfl (by kernel_rfl)
    obtain ⟨n11, y11, h11, _⟩ := fld Try.underlying40 h hw 11 3 16 1 rfl rfl rfl (by kernel_rfl)
    obtain ⟨n12, y12, h12, _⟩ := fld Try.underlying40 h hw 12 3 17 1 rfl rfl rfl (by kernel_rfl)
    obtain ⟨n13, y13, h13, _⟩ := fld Try.underlying40 h hw 13 3 18 1 rfl rfl rfl (by kernel_rfl)
    obtain ⟨n14, y14, h14, l14⟩ := fld Try.underlying40 h hw 14 38 19 1 rfl rfl rfl (by kernel_rfl)
    have h10' : DataW.trod _ _ _ _ _ _ _ _ [v10, v11, v12, v13, v14, v15] = _ := h10
    obtain ⟨m0, u0, g0, _⟩ := fld Try.underlying37 h10' l10 0 3 0 1 rfl rfl rfl (by kernel_rfl)
    obtain ⟨m1, u1, g1, _⟩ := fld Try.underlying37 h10' l10 1 3 1 1 rfl rfl rfl (by kernel_rfl)
    obtain ⟨m2, u2, g2, k2⟩ := fld Try.underlying37 h10' l10 2 35 2 4 rfl rfl rfl (by kernel_rfl)
    obtain ⟨z0, e0, k0⟩ := in_u8 Try.underlying31 (show DataW.trod _ _ _ _ _ _ _ _ [v0] = _ from h0)
    obtain ⟨z1, e1⟩ := in_int (show DataW.trod _ _ _ _ _ _ _ _ [v1] = _ from h1)
    obtain ⟨z2, e2⟩ := in_int (show DataW.trod _ _ _ _ _ _ _ _ [v2] = _ from h2)
    obtain ⟨z3, e3⟩ := in_int (show DataW.trod _ _ _ _ _ _ _ _ [v3] = _ from h3)
    obtain ⟨z4, e4⟩ := in_int (show DataW.trod _ _ _ _ _ _ _ _ [v4] = _ from h4)
    obtain ⟨z5, e5⟩ := in_int (show DataW.trod _ _ _ _ _ _ _ _ [v5] = _ from h5)
    obtain ⟨z6, e6⟩ := in_int (show DataW.trod _ _ _ _ _ _ _ _ [v6] = _ from h6)
    obtain ⟨z7, e7⟩ := in_int (show DataW.trod _ _ _ _ _ _ _ _ [v7] = _ from h7)
    obtain ⟨z8, e8⟩ := in_bool (show DataW.trod _ _ _ _ _ _ _ _ [v8] = _ from h8)
    obtain ⟨s9, e9, i9, b9, c9⟩ := in_ents (show DataW.trod _ _ _ _ _ _ _ _ [v9] = _ from h9) l9
    obtain ⟨z10, e10⟩ := in_int (show DataW.trod _ _ _ _ _ _ _ _ [v10] = _ from g0)
    obtain ⟨z11, e11⟩ := in_int (show DataW.trod _ _ _ _ _ _ _ _ [v11] = _ from g1)
    obtain ⟨c12, e12, i12, b12⟩ := in_cfg (show DataW.trod _ _ _ _ _ _ _ _ [v12, v13, v14, v15] = _ from g2) rfl k2
    obtain ⟨z16, e16⟩ := in_int (show DataW.trod _ _ _ _ _ _ _ _ [v16] = _ from h11)
    obtain ⟨z17, e17⟩ := in_int (show DataW.trod _ _ _ _ _ _ _ _ [v17] = _ from h12)
    obtain ⟨z18, e18⟩ := in_int (show DataW.trod _ _ _ _ _ _ _ _ [v18] = _ from h13)
    obtain ⟨s19, e19, i19, b19⟩ := in_ls8 (show DataW.trod _ _ _ _ _ _ _ _ [v19] = _ from h14) l14
    injection e12 with a0 e12
    injection e12 with a1 e12
    injection e12 with a2 e12
    injection e12 with a3 e12
    exact ⟨⟨z0, z1, z2, z3, z4, z5, z6, z7, z8, s9, ⟨z10, z11, c12⟩, z16, z17, z18, s19⟩, by rw [e0, e1, e2, e3, e4, e5, e6, e7, e8, e9, e10, e11, a0, a1, a2, a3, e16, e17, e18, e19], ⟨k0, i9, fun e he => (c9 e he).1, i12, i19⟩, ⟨b9, fun e he => (c9 e he).2, b12, b19⟩⟩
theorem in_letters {fuel : Nat} {v : Value} {x : DataW H × List MemPlace} (h : DataW.trod enc Try.prog w base (fun _ => true) held fuel 27 [v] = some x) (hw : Lighter Try.prog 27 x.1) :
    ∃ s : Ls LetM, v = s.v ∧ LsIn w (· < w.heap.size) letsC s ∧ s.l.length ≤ 1125899906842624 ∧ ∀ e ∈ s.l, LetIn w (· < w.heap.size) e ∧ LetBd e := by
  obtain ⟨A, c, l, h1, h2, h3, h4, h5, _, h7⟩ := in_many letF (fun e => LetIn w (· < w.heap.size) e ∧ LetBd e) 20 (by omega) Try.underlying27 (by kernel_rfl) h hw fun n cs' d pl hd hlen hwt => in_letter hd hlen hwt
  injection h1 with h1
  have hb : Try.prog.bytesOf 40 = 256 := by kernel_rfl
  have hr : reachBytes = 140737488351232 := rfl
  rw [hb, hr] at h4
  exact ⟨⟨A, c, l⟩, h1, ⟨h5, h2, h3⟩, by show l.length ≤ _; omega, h7⟩
end
end Go.Proofs.Ytippdjaakcgeoaa
