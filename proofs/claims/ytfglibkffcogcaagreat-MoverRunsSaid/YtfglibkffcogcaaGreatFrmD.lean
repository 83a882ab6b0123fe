/- What comes in: deeds. -/
import Derived.Test.YtfglibkffcogcaaGreatMvD
namespace Go.Proofs.YtfglibkffcogcaaGreat
open Go Go.RowKit Go.ChangeShapes Go.WideShapes Go.Deep

section
variable {H : Type} {enc : TypeId × Value → H} {P : Program} {w : World} {held : Bool} {base : Nat}
theorem Lighter.part {e t : TypeId} {fs : Array Field} {parts : List (DataW H)} {j : Nat} {d : DataW H} (h : Lighter P e (.agg parts)) (he : P.underlying e = some (.struct fs)) (ht : (fs.toList.map (·.type))[j]? = some t) (hd : parts[j]? = some d) : Lighter P t d := fun m hm => h m (by
  simp only [DataW.weights, he]
  exact DataW.weights_mem_each ht hd m hm)
theorem fld {e : TypeId} {fs : Array Field} {fuel : Nat} {cs : List Value} {x : DataW H × List MemPlace} (he : P.underlying e = some (.struct fs)) (h : DataW.trod enc P w base (fun _ => true) held fuel e cs = some x) (hw : Lighter P e x.1)
    (i t o k : Nat) {f : Field} (hi : fs[i]? = some f) (ht : f.type = t) (ho : f.offset = o) (hk : P.cellsOf t = k) :
    ∃ n y, DataW.trod enc P w base (fun _ => true) held n t ((cs.drop o).take k) = some y ∧ Lighter P t y.1 := by
  obtain ⟨xs, n, _, rfl, _, hl, hf⟩ := DataW.trod_struct he h
  have h1 := hf i f hi
  obtain ⟨hil, _⟩ := Array.getElem?_eq_some_iff.1 hi
  have hx : xs[i]? = some (xs[i]'(by omega)) := List.getElem?_eq_getElem _
  rw [hx, ht, ho, hk] at h1
  refine ⟨n, _, h1, hw.part (j := i) he (by simp [hi, ht]) (by simp [hl, hil])⟩
theorem wf64 {n : Int} (h : (Lit.int .i64 n).wf = true) : -9223372036854775808 ≤ n ∧ n ≤ 9223372036854775807 := by
  simpa [Lit.wf, IntKind.min, IntKind.max, IntKind.signed, IntKind.bits] using h
theorem strV_is (s : ByteArray) : Value.string s = StrV s.data.toList := by
  show _ = Value.string ⟨s.data.toList.toArray⟩
  rw [Array.toArray_toList]
end
section
variable {H : Type} {enc : TypeId × Value → H} {w : World} {held : Bool} {base : Nat}
theorem in_span {fuel : Nat} {cs : List Value} {x : DataW H × List MemPlace} (h : DataW.trod enc Tryz.prog w base (fun _ => true) held fuel 31 cs = some x) (hl : cs.length = 2) (hw : Lighter Tryz.prog 31 x.1) :
    ∃ a b : List UInt8, cs = [StrV a, StrV b] ∧ a.length ≤ maxLen ∧ b.length ≤ maxLen := by
  match cs, hl with
  | [v0, v1], _ =>
    obtain ⟨n0, y0, h0, _⟩ := fld Tryz.underlying31 h hw 0 9 0 1 rfl rfl rfl (by kernel_rfl)
    obtain ⟨n1, y1, h1, _⟩ := fld Tryz.underlying31 h hw 1 9 1 1 rfl rfl rfl (by kernel_rfl)
    obtain ⟨s0, e0, _, z0⟩ := DataW.trod_string Tryz.underlying9 (show DataW.trod _ _ _ _ _ _ _ _ [v0] = _ from h0)
    obtain ⟨s1, e1, _, z1⟩ := DataW.trod_string Tryz.underlying9 (show DataW.trod _ _ _ _ _ _ _ _ [v1] = _ from h1)
    injection e0 with e0
    injection e1 with e1
    exact ⟨s0.data.toList, s1.data.toList, by rw [e0, e1, strV_is s0, strV_is s1], z0, z1⟩
theorem in_name {fuel : Nat} {cs : List Value} {x : DataW H × List MemPlace} (h : DataW.trod enc Tryz.prog w base (fun _ => true) held fuel 37 cs = some x) (hl : cs.length = 2) (hw : Lighter Tryz.prog 37 x.1) :
    ∃ a b : Int, cs = [I64 a, I64 b] := by
  match cs, hl with
  | [v0, v1], _ =>
    obtain ⟨n0, y0, h0, _⟩ := fld Tryz.underlying37 h hw 0 3 0 1 rfl rfl rfl (by kernel_rfl)
    obtain ⟨n1, y1, h1, _⟩ := fld Tryz.underlying37 h hw 1 3 1 1 rfl rfl rfl (by kernel_rfl)
    obtain ⟨s0, e0, _⟩ := DataW.trod_int Tryz.underlying3 (show DataW.trod _ _ _ _ _ _ _ _ [v0] = _ from h0)
    obtain ⟨s1, e1, _⟩ := DataW.trod_int Tryz.underlying3 (show DataW.trod _ _ _ _ _ _ _ _ [v1] = _ from h1)
    injection e0 with e0
    injection e1 with e1
    exact ⟨s0, s1, by rw [e0, e1]⟩
theorem in_int {fuel : Nat} {v : Value} {x : DataW H × List MemPlace} (h : DataW.trod enc Tryz.prog w base (fun _ => true) held fuel 3 [v] = some x) : ∃ n : Int, v = I64 n ∧ -9223372036854775808 ≤ n ∧ n ≤ 9223372036854775807 := by
  obtain ⟨s0, e0, _, e2⟩ := DataW.trod_int Tryz.underlying3 h
  injection e0 with e0
  exact ⟨s0, e0, wf64 e2⟩
theorem in_errno {fuel : Nat} {v : Value} {x : DataW H × List MemPlace} (h : DataW.trod enc Tryz.prog w base (fun _ => true) held fuel 35 [v] = some x) : ∃ n : Int, v = I64 n := by
  obtain ⟨s0, e0, _⟩ := DataW.trod_int Tryz.underlying35 h
  injection e0 with e0
  exact ⟨s0, e0⟩
theorem in_bool {fuel : Nat} {v : Value} {x : DataW H × List MemPlace} (h : DataW.trod enc Tryz.prog w base (fun _ => true) held fuel 4 [v] = some x) : ∃ b : Bool, v = .bool b := by
  obtain ⟨s0, e0, _⟩ := DataW.trod_bool Tryz.underlying4 h
  injection e0 with e0
  exact ⟨s0, e0⟩
theorem in_scheme {fuel : Nat} {cs : List Value} {x : DataW H × List MemPlace} (h : DataW.trod enc Tryz.prog w base (fun _ => true) held fuel 34 cs = some x) (hl : cs.length = 8) (hw : Lighter Tryz.prog 34 x.1) :
    ∃ s : Sch, cs = (schA s).toList ∧ s.lo.length ≤ maxLen ∧ s.hi.length ≤ maxLen ∧ (0 ≤ s.stage ∧ s.stage ≤ 255) := by
  match cs, hl with
  | [v0, v1, v2, v3, v4, v5, v6, v7], _ =>
    obtain ⟨n0, y0, h0, _⟩ := fld Tryz.underlying34 h hw 0 3 0 1 rfl rfl rfl (by kernel_rfl)
    obtain ⟨n1, y1, h1, l1⟩ := fld Tryz.underlying34 h hw 1 31 1 2 rfl rfl rfl (by kernel_rfl)
    obtain ⟨n2, y2, h2, _⟩ := fld Tryz.underlying34 h hw 2 3 3 1 rfl rfl rfl (by kernel_rfl)
    obtain ⟨n3, y3, h3, _⟩ := fld Tryz.underlying34 h hw 3 3 4 1 rfl rfl rfl (by kernel_rfl)
    obtain ⟨n4, y4, h4, _⟩ := fld Tryz.underlying34 h hw 4 3 5 1 rfl rfl rfl (by kernel_rfl)
    obtain ⟨n5, y5, h5, _⟩ := fld Tryz.underlying34 h hw 5 3 6 1 rfl rfl rfl (by kernel_rfl)
    obtain ⟨n6, y6, h6, _⟩ := fld Tryz.underlying34 h hw 6 32 7 1 rfl rfl rfl (by kernel_rfl)
    obtain ⟨z0, e0, _⟩ := in_int (show DataW.trod _ _ _ _ _ _ _ _ [v0] = _ from h0)
    obtain ⟨a, b, e1, za, zb⟩ := in_span (show DataW.trod _ _ _ _ _ _ _ _ [v1, v2] = _ from h1) rfl l1
    obtain ⟨z2, e2, _⟩ := in_int (show DataW.trod _ _ _ _ _ _ _ _ [v3] = _ from h2)
    obtain ⟨z3, e3, _⟩ := in_int (show DataW.trod _ _ _ _ _ _ _ _ [v4] = _ from h3)
    obtain ⟨z4, e4, _⟩ := in_int (show DataW.trod _ _ _ _ _ _ _ _ [v5] = _ from h4)
    obtain ⟨z5, e5, _⟩ := in_int (show DataW.trod _ _ _ _ _ _ _ _ [v6] = _ from h5)
    obtain ⟨z6, e6, _, e7⟩ := DataW.trod_int Tryz.underlying32 (show DataW.trod _ _ _ _ _ _ _ _ [v7] = _ from h6)
    injection e6 with e6
    injection e1 with ea eb
    injection eb with eb
    exact ⟨⟨z0, a, b, z2, z3, z4, z5, z6⟩, by rw [e0, ea, eb, e2, e3, e4, e5, e6], za, zb, u8_of_wf e7⟩
theorem in_header {t e : TypeId} {fuel : Nat} {v : Value} {x : DataW H × List MemPlace} (ht : Tryz.prog.underlying t = some (.slice e)) (h : DataW.trod enc Tryz.prog w base (fun _ => true) held fuel t [v] = some x) : ∃ A n c, v = .slice A n c ∧ n ≤ maxLen := by
  rcases open_slice ht h with ⟨e1, _⟩ | ⟨a, len, cap, m, n, D, Pl, e1, _, hl, hm, _⟩
  · injection e1 with e1
    exact ⟨none, 0, 0, e1, by decide⟩
  · injection e1 with e1
    exact ⟨some a, len, cap, e1, Nat.le_trans hl hm⟩
theorem in_answer {fuel : Nat} {cs : List Value} {x : DataW H × List MemPlace} (h : DataW.trod enc Tryz.prog w base (fun _ => true) held fuel 41 cs = some x) (hl : cs.length = 9) (hw : Lighter Tryz.prog 41 x.1) :
    ∃ (a : AnT) (A : Option Addr) (c : Nat), cs = (anA a A c).toList ∧ Sl w (· < w.heap.size) A (a.bytes.map B8) ∧ a.bytes.length ≤ maxLen ∧ a.nr ≤ maxLen := by
  match cs, hl with
  | [v0, v1, v2, v3, v4, v5, v6, v7, v8], _ =>
    obtain ⟨n0, y0, h0, _⟩ := fld Tryz.underlying41 h hw 0 35 0 1 rfl rfl rfl (by kernel_rfl)
    obtain ⟨n1, y1, h1, l1⟩ := fld Tryz.underlying41 h hw 1 37 1 2 rfl rfl rfl (by kernel_rfl)
    obtain ⟨n2, y2, h2, _⟩ := fld Tryz.underlying41 h hw 2 4 3 1 rfl rfl rfl (by kernel_rfl)
    obtain ⟨n3, y3, h3, _⟩ := fld Tryz.underlying41 h hw 3 4 4 1 rfl rfl rfl (by kernel_rfl)
    obtain ⟨n4, y4, h4, _⟩ := fld Tryz.underlying41 h hw 4 38 5 1 rfl rfl rfl (by kernel_rfl)
    obtain ⟨n5, y5, h5, _⟩ := fld Tryz.underlying41 h hw 5 3 6 1 rfl rfl rfl (by kernel_rfl)
    obtain ⟨n6, y6, h6, _⟩ := fld Tryz.underlying41 h hw 6 3 7 1 rfl rfl rfl (by kernel_rfl)
    obtain ⟨n7, y7, h7, l7⟩ := fld Tryz.underlying41 h hw 7 39 8 1 rfl rfl rfl (by kernel_rfl)
    obtain ⟨z0, e0⟩ := in_errno (show DataW.trod _ _ _ _ _ _ _ _ [v0] = _ from h0)
    obtain ⟨a, b, e1⟩ := in_name (show DataW.trod _ _ _ _ _ _ _ _ [v1, v2] = _ from h1) rfl l1
    obtain ⟨z2, e2⟩ := in_bool (show DataW.trod _ _ _ _ _ _ _ _ [v3] = _ from h2)
    obtain ⟨z3, e3⟩ := in_bool (show DataW.trod _ _ _ _ _ _ _ _ [v4] = _ from h3)
    obtain ⟨Ar, nr, cr, e4, z4⟩ := in_header Tryz.underlying38 (show DataW.trod _ _ _ _ _ _ _ _ [v5] = _ from h4)
    obtain ⟨z5, e5, _⟩ := in_int (show DataW.trod _ _ _ _ _ _ _ _ [v6] = _ from h5)
    obtain ⟨z6, e6, _⟩ := in_int (show DataW.trod _ _ _ _ _ _ _ _ [v7] = _ from h6)
    obtain ⟨A, c, l, e7, hc, hm, _, hs⟩ := in_bytes Tryz.underlying39 Tryz.underlying5 (by kernel_rfl) (show DataW.trod _ _ _ _ _ _ _ _ [v8] = _ from h7) l7
    injection e1 with ea eb
    injection eb with eb
    injection e7 with e7
    exact ⟨⟨z0, a, b, z2, z3, Ar, nr, cr, z5, z6, l⟩, A, c, by rw [e0, ea, eb, e2, e3, e4, e5, e6, e7], hs, Nat.le_trans hc hm, z4⟩
theorem in_deeds {fuel : Nat} {cs : List Value} {x : DataW H × List MemPlace} (h : DataW.trod enc Tryz.prog w base (fun _ => true) held fuel 22 cs = some x) (hw : Lighter Tryz.prog 22 x.1) :
    ∃ (A : Option Addr) (c : Nat) (l : List Deed), cs = [.slice A l.length c] ∧ l.length ≤ c ∧ c ≤ maxLen ∧ c * Tryz.prog.bytesOf 43 ≤ reachBytes ∧ Sl w (· < w.heap.size) A (deedsC l) ∧ ∀ d ∈ l, DeedIn w (· < w.heap.size) d := by
  obtain ⟨A, c, l, h1, h2, h3, h4, h5, _, h7⟩ := in_many deedF (fun d => DeedIn w (· < w.heap.size) d) 20 (by omega) Tryz.underlying22 (by kernel_rfl) h hw fun n cs' d pl hd hlen hwt => by
    match cs', hlen with
    | [v0, v1, v2, v3, v4, v5, v6, v7, v8, v9, v10, v11, v12, v13, v14, v15, v16, v17, v18, v19], _ =>
      obtain ⟨n0, y0, h0, _⟩ := fld Tryz.underlying43 hd hwt 0 3 0 1 rfl rfl rfl (by kernel_rfl)
      obtain ⟨n1, y1, h1, l1⟩ := fld Tryz.underlying43 hd hwt 1 34 1 8 rfl rfl rfl (by kernel_rfl)
      obtain ⟨n2, y2, h2, _⟩ := fld Tryz.underlying43 hd hwt 2 4 9 1 rfl rfl rfl (by kernel_rfl)
      obtain ⟨n3, y3, h3, _⟩ := fld Tryz.underlying43 hd hwt 3 3 10 1 rfl rfl rfl (by kernel_rfl)
      obtain ⟨n4, y4, h4, l4⟩ := fld Tryz.underlying43 hd hwt 4 41 11 9 rfl rfl rfl (by kernel_rfl)
      obtain ⟨z0, e0, b0⟩ := in_int (show DataW.trod _ _ _ _ _ _ _ _ [v0] = _ from h0)
      obtain ⟨s, e1, a1, a2, a3⟩ := in_scheme (show DataW.trod _ _ _ _ _ _ _ _ [v1, v2, v3, v4, v5, v6, v7, v8] = _ from h1) rfl l1
      obtain ⟨z2, e2⟩ := in_bool (show DataW.trod _ _ _ _ _ _ _ _ [v9] = _ from h2)
      obtain ⟨z3, e3, b3⟩ := in_int (show DataW.trod _ _ _ _ _ _ _ _ [v10] = _ from h3)
      obtain ⟨a, A, c, e4, a4, a5, a6⟩ := in_answer (show DataW.trod _ _ _ _ _ _ _ _ [v11, v12, v13, v14, v15, v16, v17, v18, v19] = _ from h4) rfl l4
      refine ⟨⟨z0, s, z2, z3, a, A, c⟩, ?_, ⟨a4, a5, a6, a1, a2, a3, b0, b3⟩⟩
      have e14 : [v0, v1, v2, v3, v4, v5, v6, v7, v8, v9, v10, v11, v12, v13, v14, v15, v16, v17, v18, v19] = v0 :: ([v1, v2, v3, v4, v5, v6, v7, v8] ++ v9 :: v10 :: [v11, v12, v13, v14, v15, v16, v17, v18, v19]) := rfl
      rw [e14, e0, e1, e2, e3, e4]
      rfl
  exact ⟨A, c, l, h1, h2, h3, h4, h5, h7⟩
end
end Go.Proofs.YtfglibkffcogcaaGreat
