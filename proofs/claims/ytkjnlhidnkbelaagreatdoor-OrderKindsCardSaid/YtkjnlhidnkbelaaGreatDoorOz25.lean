/- Lemmas of the walks: OkA, OkB, EfT, OmA, Qld, Bld. (Laid together by shake.py.) -/
import Derived.Deep.DeepCutAuto
import Derived.Test.YtkjnlhidnkbelaaGreatDoorOz01
import Derived.Test.YtkjnlhidnkbelaaGreatDoorOz04
import Derived.Test.YtkjnlhidnkbelaaGreatDoorOz06
import Derived.Test.YtkjnlhidnkbelaaGreatDoorOz10
set_option linter.unusedVariables false
set_option linter.unusedSimpArgs false
namespace Go.Proofs.YtkjnlhidnkbelaaGreatDoor
open Go Go.RowKit
set_option linter.unusedVariables false
set_option linter.unusedSimpArgs false
/-- An order that is small. -/
structure SmO (x : OrdF) : Prop where
  kind : 0 ≤ x.kind ∧ x.kind ≤ 255
  acts : x.acts.length ≤ 3 ∧ ActSz x.acts
  reads : x.reads.length ≤ 2 ∧ RdgSz x.reads
  bytes : x.bytes.length ≤ 2
  lo : x.lo.length ≤ 1
  hi : x.hi.length ≤ 1
def wholeO : OrdF := ⟨0, (3, 300), 2, [⟨2, [97], [53], 0⟩, ⟨3, [98], [], -7⟩, ⟨1, [97], [], 0⟩], true, [([98], true, [49]), ([97], false, [])], 4, 3, 2, [97], [99], [9, 8]⟩
theorem wholeO_sm : SmO wholeO := ⟨by decide, ⟨by decide, fun a h => by
    simp only [wholeO, List.mem_cons, List.not_mem_nil, or_false] at h
    rcases h with rfl | rfl | rfl <;> exact ⟨by decide, by simp, by simp⟩⟩, ⟨by decide, fun a h => by
    simp only [wholeO, List.mem_cons, List.not_mem_nil, or_false] at h
    rcases h with rfl | rfl <;> exact ⟨by simp, by simp⟩⟩, by decide, by decide, by decide⟩
set_option maxRecDepth 100000 in
set_option maxHeartbeats 4000000 in
theorem whole_any (w : World) : Calls Tryz.prog 10 #[] w fun e w' => ∃ p, e = .returned (.agg (ofA (U8V 0) wholeO p)) ∧ OrdIn w' (fun k => w.heap.size ≤ k) wholeO p ∧ Nw w w' := by
  obtain ⟨W0, hW0⟩ : ∃ W0, W0 = w.alloc (.cells (zO (U8V 0)) 31) := ⟨_, rfl⟩
  have q0 : Nw w W0 := by rw [hW0]; exact (Fr.refl (fun _ => False) w).alloc _
  have hz0 : W0.heap.size = w.heap.size + 1 := by rw [hW0]; simp
  have d0 : Blk W0 w.heap.size 31 (zO (U8V 0)) := by rw [hW0]; exact Blk.new w _ _
  have d3 : ∀ o1 o2 o3, Blk (((W0.alloc o1).alloc o2).alloc o3) w.heap.size 31 (zO (U8V 0)) := fun o1 o2 o3 => ((d0.alloc _).alloc _).alloc _
  have hone := of_one (U8V 0) rfl wholeO ⟨some ⟨w.heap.size + 1, 0, none⟩, 3, some ⟨w.heap.size + 1 + 1, 0, none⟩, 2, some ⟨w.heap.size + 1 + 1 + 1, 0, none⟩, 2⟩
  have HW0 := Lib.hid hW0
  clear hW0
  go_enter Tryz.func10, Tryz.ntmps10
  go_upto_region 1 with (fail)
  rw [← HW0.out]
  go_wp2_with (refine wpList_store_row rfl 31 _ _ rfl w.heap.size _ rfl rfl 31 _ (d3 _ _ _) ord_size rfl hone ?_)
  have s1 := sl_new W0 91 (actsCells wholeO.acts) _ hz0
  have s2 := sl_new (W0.alloc (.cells (actsCells wholeO.acts).toArray 91)) 93 (rdgsCells wholeO.reads) (w.heap.size + 1 + 1) (by simp [hz0])
  have s3 := sl_new ((W0.alloc (.cells (actsCells wholeO.acts).toArray 91)).alloc (.cells (rdgsCells wholeO.reads).toArray 93)) 5 (wholeO.bytes.map B8) (w.heap.size + 1 + 1 + 1) (by simp [hz0])
  have qe : ∀ (V : World), Fr (· = w.heap.size) V (V.setRow w.heap.size (ofA (U8V 0) wholeO ⟨some ⟨w.heap.size + 1, 0, none⟩, 3, some ⟨w.heap.size + 1 + 1, 0, none⟩, 2, some ⟨w.heap.size + 1 + 1 + 1, 0, none⟩, 2⟩)) := fun V => (Fr.refl (· = w.heap.size) V).setRow (.inl rfl) _
  have k1 := ((((s1.alloc (.cells (rdgsCells wholeO.reads).toArray 93)).alloc (.cells (wholeO.bytes.map B8).toArray 5)).fr (qe _) (fun k hk e => by have h1 : k = w.heap.size + 1 := hk; have h2 : k = w.heap.size := e; omega)).mono (F' := fun k => w.heap.size ≤ k) (fun k hk _ => by have h1 : k = w.heap.size + 1 := hk; omega))
  have k2 := (((s2.alloc (.cells (wholeO.bytes.map B8).toArray 5)).fr (qe _) (fun k hk e => by have h1 : k = w.heap.size + 1 + 1 := hk; have h2 : k = w.heap.size := e; omega)).mono (F' := fun k => w.heap.size ≤ k) (fun k hk _ => by have h1 : k = w.heap.size + 1 + 1 := hk; omega))
  have k3 := ((s3.fr (qe _) (fun k hk e => by have h1 : k = w.heap.size + 1 + 1 + 1 := hk; have h2 : k = w.heap.size := e; omega)).mono (F' := fun k => w.heap.size ≤ k) (fun k hk _ => by have h1 : k = w.heap.size + 1 + 1 + 1 := hk; omega))
  refine bodyPost_ret (v := .agg (ofA (U8V 0) wholeO ⟨some ⟨w.heap.size + 1, 0, none⟩, 3, some ⟨w.heap.size + 1 + 1, 0, none⟩, 2, some ⟨w.heap.size + 1 + 1 + 1, 0, none⟩, 2⟩)) ?_ rfl ?_
  · exact results_cell_row rfl _ _ w.heap.size 31 _ (0, 0) _ rfl ((d3 _ _ _).row _) Tryz.underlying31 rfl ord_size
  refine ⟨_, rfl, ⟨k1, k2, k3, ⟨Nat.le_refl _, (by decide : 3 ≤ maxLen)⟩, ⟨Nat.le_refl _, (by decide : 2 ≤ maxLen)⟩, ⟨Nat.le_refl _, (by decide : 2 ≤ maxLen)⟩⟩, ?_⟩
  exact (((q0.alloc _).alloc _).alloc _).new (qe _) (fun k hk => by have h1 : k = w.heap.size := hk; omega)
end Go.Proofs.YtkjnlhidnkbelaaGreatDoor

namespace Go.Proofs.YtkjnlhidnkbelaaGreatDoor
open Go Go.RowKit
set_option linter.unusedVariables false
set_option linter.unusedSimpArgs false
/-- An order stands in X; D is as it was made. -/
def KdR (w : World) (D X : Nat) (wx : World) : Prop := ∃ (x : OrdF) (p : Pl), SmO x ∧ Blk wx X 31 (ofA (U8V x.kind) x p) ∧ OrdIn wx (fun k => D < k ∧ k ≠ X) x p ∧ Blk wx D 31 (zO (U8V 0)) ∧ Nw w wx
theorem KdR.set_ {w wx : World} {D X : Nat} {x y : OrdF} {p q : Pl} (hy : SmO y) (hw : w.heap.size ≤ D) (hDX : D < X) (h1 : Blk wx X 31 (ofA (U8V x.kind) x p)) (h3 : Blk wx D 31 (zO (U8V 0))) (h4 : Nw w wx) (hi : OrdIn wx (fun k => D < k ∧ k ≠ X) y q) (l : List (Nat × Value))
    (hl : (l.foldl (fun cs (e : Nat × Value) => cs.setIfInBounds e.1 e.2) (ofA (U8V x.kind) x p)) = ofA (U8V y.kind) y q) : KdR w D X (l.foldl (fun (w : World) (e : Nat × Value) => w.setCell ⟨X, e.1, none⟩ e.2) wx) := by
  have hb : ∀ (l : List (Nat × Value)) (wx : World) (cs : Array Value), Blk wx X 31 cs → Blk (l.foldl (fun (w : World) (e : Nat × Value) => w.setCell ⟨X, e.1, none⟩ e.2) wx) X 31 (l.foldl (fun cs (e : Nat × Value) => cs.setIfInBounds e.1 e.2) cs) ∧ Fr (· = X) wx (l.foldl (fun (w : World) (e : Nat × Value) => w.setCell ⟨X, e.1, none⟩ e.2) wx) := by
    intro l
    induction l with
    | nil => exact fun wx cs h => ⟨h, Fr.refl _ _⟩
    | cons e l ih =>
      intro wx cs h
      obtain ⟨h5, h6⟩ := ih _ _ (h.set_ e.1 e.2)
      exact ⟨h5, ((Fr.refl (· = X) wx).setCell (p := ⟨X, e.1, none⟩) (.inl rfl) e.2).tr h6⟩
  obtain ⟨h5, h6⟩ := hb l wx _ h1
  rw [hl] at h5
  exact ⟨y, q, hy, h5, hi.fr h6 (fun k hk e => hk.2 e), h3.fr h6 (fun e => by have h : D = X := e; omega), h4.new h6 (fun k hk => by have h : k = X := hk; omega)⟩
theorem act_nil : ActSz [] := fun a h => by cases h
theorem rdg_nil : RdgSz [] := fun a h => by cases h
set_option maxRecDepth 100000 in
set_option maxHeartbeats 16000000 in
theorem kinds_any (w : World) (kd wo : Int) (hk0 : 0 ≤ kd) (hk1 : kd ≤ 255) : Calls Tryz.prog 8 #[I64 kd, I64 wo] w fun e w' => ∃ x p, e = .returned (.agg (ofA (U8V x.kind) x p)) ∧ SmO x ∧ OrdIn w' (fun k => w.heap.size ≤ k) x p ∧ Nw w w' := by
  have hkm : kd % 256 = kd := by omega
  obtain ⟨D, hD⟩ : ∃ D, D = w.heap.size := ⟨_, rfl⟩
  obtain ⟨W0, hW0⟩ : ∃ W0, W0 = w.alloc (.cells (zO (U8V 0)) 31) := ⟨_, rfl⟩
  have q0 : Nw w W0 := by rw [hW0]; exact (Fr.refl (fun _ => False) w).alloc _
  have hz0 : W0.heap.size = D + 1 := by rw [hW0, hD]; simp
  have d0 : Blk W0 D 31 (zO (U8V 0)) := by rw [hW0, hD]; exact Blk.new w _ _
  have hwh := whole_any W0
  have HD := Lib.hid hD
  have HW0 := Lib.hid hW0
  clear hD hW0
  go_enter Tryz.func8, Tryz.ntmps8
  go_upto_region 1 with (fail)
  rw [← HW0.out, ← HD.out]
  go_upto_region 2 with (go_at_call 10; refine hwh.mono ?_; rintro e w1 ⟨p, rfl, i1, q1⟩)
  obtain ⟨X, hX⟩ : ∃ X, X = w1.heap.size := ⟨_, rfl⟩
  obtain ⟨W1, hW1⟩ : ∃ W, W = w1.alloc (.cells (ofA (U8V 0) wholeO p) 31) := ⟨_, rfl⟩
  have qv1 : Nw w1 W1 := by rw [hW1]; exact (Fr.refl (fun _ => False) w1).alloc _
  have x1 : Blk W1 X 31 (ofA (U8V 0) wholeO p) := by rw [hW1, hX]; exact Blk.new w1 _ _
  have hDX : D < X := by rw [hX]; have := q1.size; omega
  have i2 : OrdIn W1 (fun k => D < k ∧ k ≠ X) wholeO p := (i1.mono (F' := fun k => D < k ∧ k ≠ X) (fun k hk hl => by rw [hX]; omega)).fr qv1 (fun _ _ h => h)
  have d1 := (d0.fr q1 (fun h => h)).fr qv1 (fun h => h)
  have Q1 : Nw w W1 := (q0.tr q1).tr qv1
  have c1 : W1.cell? ⟨X, 0, none⟩ = some (U8V 0) := by simpa using x1.cell 0
  have f1 := x1.frozen 0
  have HX := Lib.hid hX
  have HW1 := Lib.hid hW1
  rw [← HX.out, ← HW1.out]
  have hDw : w.heap.size ≤ D := by rw [HD.out]; exact Nat.le_refl _
  clear hX hW1 q0 q1 qv1 i1 d0 hwh
  go_upto_region 3 with (fail)
  obtain ⟨W2, hW2⟩ : ∃ W, W = W1.setCell ⟨X, 0, none⟩ (U8V kd) := ⟨_, rfl⟩
  have st : KdR w D X W2 := by
    rw [hW2]
    exact KdR.set_ (x := wholeO) (p := p) (y := { wholeO with kind := kd }) (q := p) ⟨⟨hk0, hk1⟩, wholeO_sm.acts, wholeO_sm.reads, wholeO_sm.bytes, wholeO_sm.lo, wholeO_sm.hi⟩ hDw hDX x1 d1 Q1 ⟨i2.acts, i2.reads, i2.bytes, i2.ca, i2.cr, i2.cb⟩ [(0, U8V kd)] rfl
  have HW2 := Lib.hid hW2
  rw [← HW2.out]
  clear hW2 c1 f1 x1 d1 i2 Q1
  go_upto_if 12 with (fail)
  go_cut [] (fun wx => KdR w D X wx)
  case first =>
    obtain ⟨x, p, hsm, hx, hi, hd, hq⟩ := st
    have c1 := hx.cell 1
    have f1 := hx.frozen 1
    simp at c1
    have c2 := hx.cell 2
    have f2 := hx.frozen 2
    simp at c2
    have h2 := KdR.set_ (y := { x with nm := (0, 0) }) (q := p) ⟨hsm.kind, hsm.acts, hsm.reads, hsm.bytes, hsm.lo, hsm.hi⟩ hDw hDX hx hd hq ⟨hi.acts, hi.reads, hi.bytes, hi.ca, hi.cr, hi.cb⟩ [(1, I64 0), (2, I64 0)] rfl
    have h1 : KdR w D X W2 := ⟨x, p, hsm, hx, hi, hd, hq⟩
    have H1 := Lib.hid h1
    have H2 := Lib.hid h2
    clear h1 h2 hi hd hq hsm hx
    go_wp2_with fail
    all_goals go_meet
    all_goals first | exact H1.out | exact H2.out
  case rest =>
    clear st
    obtain ⟨V0, hV⟩ : ∃ V, V = wc := ⟨_, rfl⟩
    have st := hcut
    rw [← hV] at st ⊢
    clear hV hcut
    go_upto_if 17 with (fail)
    go_cut [] (fun wx => KdR w D X wx)
    case first =>
      obtain ⟨x, p, hsm, hx, hi, hd, hq⟩ := st
      have c3 := hx.cell 3
      have f3 := hx.frozen 3
      simp at c3
      have h2 := KdR.set_ (y := { x with epoch := 0 }) (q := p) ⟨hsm.kind, hsm.acts, hsm.reads, hsm.bytes, hsm.lo, hsm.hi⟩ hDw hDX hx hd hq ⟨hi.acts, hi.reads, hi.bytes, hi.ca, hi.cr, hi.cb⟩ [(3, I64 0)] rfl
      have h1 : KdR w D X V0 := ⟨x, p, hsm, hx, hi, hd, hq⟩
      have H1 := Lib.hid h1
      have H2 := Lib.hid h2
      clear h1 h2 hi hd hq hsm hx
      go_wp2_with fail
      all_goals go_meet
      all_goals first | exact H1.out | exact H2.out
    case rest =>
      clear st
      obtain ⟨V1, hV⟩ : ∃ V, V = wc := ⟨_, rfl⟩
      have st := hcut
      rw [← hV] at st ⊢
      clear hV hcut
      go_upto_if 21 with (fail)
      go_cut [] (fun wx => KdR w D X wx)
      case first =>
        obtain ⟨x, p, hsm, hx, hi, hd, hq⟩ := st
        have c4 := hx.cell 4
        have f4 := hx.frozen 4
        simp at c4
        have h2 := KdR.set_ (y := { x with acts := [] }) (q := { p with a := none, ca := 0 }) ⟨hsm.kind, ⟨Nat.zero_le _, act_nil⟩, hsm.reads, hsm.bytes, hsm.lo, hsm.hi⟩ hDw hDX hx hd hq ⟨.inl rfl, hi.reads, hi.bytes, ⟨Nat.le_refl _, Nat.zero_le _⟩, hi.cr, hi.cb⟩ [(4, .slice none 0 0)] rfl
        have h1 : KdR w D X V1 := ⟨x, p, hsm, hx, hi, hd, hq⟩
        have H1 := Lib.hid h1
        have H2 := Lib.hid h2
        clear h1 h2 hi hd hq hsm hx
        go_wp2_with fail
        all_goals go_meet
        all_goals first | exact H1.out | exact H2.out
      case rest =>
        clear st
        obtain ⟨V2, hV⟩ : ∃ V, V = wc := ⟨_, rfl⟩
        have st := hcut
        rw [← hV] at st ⊢
        clear hV hcut
        go_upto_if 25 with (fail)
        go_cut [] (fun wx => KdR w D X wx)
        case first =>
          obtain ⟨x, p, hsm, hx, hi, hd, hq⟩ := st
          have c5 := hx.cell 5
          have f5 := hx.frozen 5
          simp at c5
          have h2 := KdR.set_ (y := { x with commit := false }) (q := p) ⟨hsm.kind, hsm.acts, hsm.reads, hsm.bytes, hsm.lo, hsm.hi⟩ hDw hDX hx hd hq ⟨hi.acts, hi.reads, hi.bytes, hi.ca, hi.cr, hi.cb⟩ [(5, .bool false)] rfl
          have h1 : KdR w D X V2 := ⟨x, p, hsm, hx, hi, hd, hq⟩
          have H1 := Lib.hid h1
          have H2 := Lib.hid h2
          clear h1 h2 hi hd hq hsm hx
          go_wp2_with fail
          all_goals go_meet
          all_goals first | exact H1.out | exact H2.out
        case rest =>
          clear st
          obtain ⟨V3, hV⟩ : ∃ V, V = wc := ⟨_, rfl⟩
          have st := hcut
          rw [← hV] at st ⊢
          clear hV hcut
          go_upto_if 29 with (fail)
          go_cut [] (fun wx => KdR w D X wx)
          case first =>
            obtain ⟨x, p, hsm, hx, hi, hd, hq⟩ := st
            have c6 := hx.cell 6
            have f6 := hx.frozen 6
            simp at c6
            have h2 := KdR.set_ (y := { x with reads := [] }) (q := { p with r := none, cr := 0 }) ⟨hsm.kind, hsm.acts, ⟨Nat.zero_le _, rdg_nil⟩, hsm.bytes, hsm.lo, hsm.hi⟩ hDw hDX hx hd hq ⟨hi.acts, .inl rfl, hi.bytes, hi.ca, ⟨Nat.le_refl _, Nat.zero_le _⟩, hi.cb⟩ [(6, .slice none 0 0)] rfl
            have h1 : KdR w D X V3 := ⟨x, p, hsm, hx, hi, hd, hq⟩
            have H1 := Lib.hid h1
            have H2 := Lib.hid h2
            clear h1 h2 hi hd hq hsm hx
            go_wp2_with fail
            all_goals go_meet
            all_goals first | exact H1.out | exact H2.out
          case rest =>
            clear st
            obtain ⟨V4, hV⟩ : ∃ V, V = wc := ⟨_, rfl⟩
            have st := hcut
            rw [← hV] at st ⊢
            clear hV hcut
            go_upto_if 33 with (fail)
            go_cut [] (fun wx => KdR w D X wx)
            case first =>
              obtain ⟨x, p, hsm, hx, hi, hd, hq⟩ := st
              have c7 := hx.cell 7
              have f7 := hx.frozen 7
              simp at c7
              have h2 := KdR.set_ (y := { x with scheme := 0 }) (q := p) ⟨hsm.kind, hsm.acts, hsm.reads, hsm.bytes, hsm.lo, hsm.hi⟩ hDw hDX hx hd hq ⟨hi.acts, hi.reads, hi.bytes, hi.ca, hi.cr, hi.cb⟩ [(7, I64 0)] rfl
              have h1 : KdR w D X V4 := ⟨x, p, hsm, hx, hi, hd, hq⟩
              have H1 := Lib.hid h1
              have H2 := Lib.hid h2
              clear h1 h2 hi hd hq hsm hx
              go_wp2_with fail
              all_goals go_meet
              all_goals first | exact H1.out | exact H2.out
            case rest =>
              clear st
              obtain ⟨V5, hV⟩ : ∃ V, V = wc := ⟨_, rfl⟩
              have st := hcut
              rw [← hV] at st ⊢
              clear hV hcut
              go_upto_if 37 with (fail)
              go_cut [] (fun wx => KdR w D X wx)
              case first =>
                obtain ⟨x, p, hsm, hx, hi, hd, hq⟩ := st
                have c8 := hx.cell 8
                have f8 := hx.frozen 8
                simp at c8
                have h2 := KdR.set_ (y := { x with stage := 0 }) (q := p) ⟨hsm.kind, hsm.acts, hsm.reads, hsm.bytes, hsm.lo, hsm.hi⟩ hDw hDX hx hd hq ⟨hi.acts, hi.reads, hi.bytes, hi.ca, hi.cr, hi.cb⟩ [(8, I64 0)] rfl
                have h1 : KdR w D X V5 := ⟨x, p, hsm, hx, hi, hd, hq⟩
                have H1 := Lib.hid h1
                have H2 := Lib.hid h2
                clear h1 h2 hi hd hq hsm hx
                go_wp2_with fail
                all_goals go_meet
                all_goals first | exact H1.out | exact H2.out
              case rest =>
                clear st
                obtain ⟨V6, hV⟩ : ∃ V, V = wc := ⟨_, rfl⟩
                have st := hcut
                rw [← hV] at st ⊢
                clear hV hcut
                go_upto_if 41 with (fail)
                go_cut [] (fun wx => KdR w D X wx)
                case first =>
                  obtain ⟨x, p, hsm, hx, hi, hd, hq⟩ := st
                  have c9 := hx.cell 9
                  have f9 := hx.frozen 9
                  simp at c9
                  have h2 := KdR.set_ (y := ⟨x.kind, x.nm, x.epoch, x.acts, x.commit, x.reads, x.scheme, x.stage, 0, x.lo, x.hi, x.bytes⟩) (q := p) ⟨hsm.kind, hsm.acts, hsm.reads, hsm.bytes, hsm.lo, hsm.hi⟩ hDw hDX hx hd hq ⟨hi.acts, hi.reads, hi.bytes, hi.ca, hi.cr, hi.cb⟩ [(9, I64 0)] rfl
                  have h1 : KdR w D X V6 := ⟨x, p, hsm, hx, hi, hd, hq⟩
                  have H1 := Lib.hid h1
                  have H2 := Lib.hid h2
                  clear h1 h2 hi hd hq hsm hx
                  go_wp2_with fail
                  all_goals go_meet
                  all_goals first | exact H1.out | exact H2.out
                case rest =>
                  clear st
                  obtain ⟨V7, hV⟩ : ∃ V, V = wc := ⟨_, rfl⟩
                  have st := hcut
                  rw [← hV] at st ⊢
                  clear hV hcut
                  go_upto_if 45 with (fail)
                  go_cut [] (fun wx => KdR w D X wx)
                  case first =>
                    obtain ⟨x, p, hsm, hx, hi, hd, hq⟩ := st
                    have c10 := hx.cell 10
                    have f10 := hx.frozen 10
                    simp at c10
                    have c11 := hx.cell 11
                    have f11 := hx.frozen 11
                    simp at c11
                    have h2 := KdR.set_ (y := { x with lo := [], hi := [] }) (q := p) ⟨hsm.kind, hsm.acts, hsm.reads, hsm.bytes, Nat.zero_le _, Nat.zero_le _⟩ hDw hDX hx hd hq ⟨hi.acts, hi.reads, hi.bytes, hi.ca, hi.cr, hi.cb⟩ [(10, .string ⟨#[]⟩), (11, .string ⟨#[]⟩)] rfl
                    have h1 : KdR w D X V7 := ⟨x, p, hsm, hx, hi, hd, hq⟩
                    have H1 := Lib.hid h1
                    have H2 := Lib.hid h2
                    clear h1 h2 hi hd hq hsm hx
                    go_wp2_with fail
                    all_goals go_meet
                    all_goals first | exact H1.out | exact H2.out
                  case rest =>
                    clear st
                    obtain ⟨V8, hV⟩ : ∃ V, V = wc := ⟨_, rfl⟩
                    have st := hcut
                    rw [← hV] at st ⊢
                    clear hV hcut
                    go_upto_if 50 with (fail)
                    go_cut [] (fun wx => KdR w D X wx)
                    case first =>
                      obtain ⟨x, p, hsm, hx, hi, hd, hq⟩ := st
                      have c12 := hx.cell 12
                      have f12 := hx.frozen 12
                      simp at c12
                      have h2 := KdR.set_ (y := { x with bytes := [] }) (q := { p with b := none, cb := 0 }) ⟨hsm.kind, hsm.acts, hsm.reads, Nat.zero_le _, hsm.lo, hsm.hi⟩ hDw hDX hx hd hq ⟨hi.acts, hi.reads, .inl rfl, hi.ca, hi.cr, ⟨Nat.le_refl _, Nat.zero_le _⟩⟩ [(12, .slice none 0 0)] rfl
                      have h1 : KdR w D X V8 := ⟨x, p, hsm, hx, hi, hd, hq⟩
                      have H1 := Lib.hid h1
                      have H2 := Lib.hid h2
                      clear h1 h2 hi hd hq hsm hx
                      go_wp2_with fail
                      all_goals go_meet
                      all_goals first | exact H1.out | exact H2.out
                    case rest =>
                      clear st
                      obtain ⟨V9, hV⟩ : ∃ V, V = wc := ⟨_, rfl⟩
                      have st := hcut
                      rw [← hV] at st ⊢
                      clear hV hcut
                      obtain ⟨x, p, hsm, hx, hi, hd, hq⟩ := st
                      have hone := of_one (U8V x.kind) rfl x p
                      go_wp2_with (first | (refine wpList_load_row rfl 31 _ rfl X rfl 31 _ (0, 0) _ hx Tryz.underlying31 rfl ord_size ?_) | (refine wpList_store_row rfl 31 _ _ rfl D _ rfl rfl 31 _ hd ord_size rfl hone ?_))
                      refine bodyPost_ret (v := .agg (ofA (U8V x.kind) x p)) ?_ rfl ?_
                      · exact results_cell_row rfl _ _ D 31 _ (0, 0) _ rfl (hd.row _) Tryz.underlying31 rfl ord_size
                      have qe := (Fr.refl (· = D) V9).setRow (.inl rfl) (ofA (U8V x.kind) x p)
                      exact ⟨x, p, rfl, hsm, (hi.fr qe (fun k hk e => by have h1 : k = D := e; omega)).mono (fun k hk _ => by have := hk.1; omega), hq.new qe (fun k hk => by have h1 : k = D := hk; omega)⟩
end Go.Proofs.YtkjnlhidnkbelaaGreatDoor

namespace Go.Proofs.YtkjnlhidnkbelaaGreatDoor
open Go Go.RowKit

/-- What is told of each operation. -/
abbrev BkT (T : Type) := Nat → T
section
variable {T : Type} {P : Program} {ops : Array Oper} {md : Region.Mode} {C : (Nat → Bool) → BkT T → World → Prop}
def updT (B : BkT T) (k : Nat) (b : T) : BkT T := fun j => if j = k then b else B j
theorem updT_self (B : BkT T) (k : Nat) : updT B k (B k) = B := by
  funext j
  unfold updT
  by_cases h : j = k
  · rw [if_pos h, h]
  · rw [if_neg h]
theorem updT_at (B : BkT T) (k : Nat) (b : T) : updT B k b k = b := if_pos rfl
def effUponT (P : Program) (K : T → World → Prop) (vf : T → Value) : Result Next → Prop
  | .ok (.value u) w' => ∃ b, u = vf b ∧ K b w'
  | .ok .skip w' => ∃ b, vf b = undef ∧ K b w'
  | .ok (.enter f args) w' => Calls P f args w' (fun e w'' => ∃ b, e = .returned (vf b) ∧ K b w'')
  | _ => False
def effAtT (P : Program) (o : Oper) (a : Act) (vf : T → Value) (K : T → World → Prop) (w : World) : Prop := effUponT P K vf ((execOp a.eval o).run P w)
def EffInT (md : Region.Mode) (P : Program) (ops : Array Oper) (C : (Nat → Bool) → BkT T → World → Prop) (o : Oper) (k : Nat) (vf : BkT T → Value) (a : Act) (B : BkT T) : Prop :=
  ∀ L w, L k = false → (∀ j, waitsFor md o j = true → L j = true) → C L B w → (Region.wanted o (yielded ops a.tmps) = true ∧ effAtT P o a (fun b => vf (updT B k b)) (fun b w' => C (onL L k) (updT B k b) w') w) ∨ (Region.wanted o (yielded ops a.tmps) = false ∧ ∃ b, vf (updT B k b) = undef ∧ C (onL L k) (updT B k b) w)
def DepT (md : Region.Mode) (ops : Array Oper) (k : Nat) (vf : BkT T → Value) : Prop := ∀ B B' : BkT T, (∀ j, reach md ops fuelR k j = true → B j = B' j) → vf B = vf B'
/-- The walk. -/
def wpEffT (md : Region.Mode) (P : Program) (ops : Array Oper) (C : (Nat → Bool) → BkT T → World → Prop) (Q : BkT T → Act → Prop) : List Oper → Nat → (BkT T → Act) → Prop
  | [], _, a => ∀ B, Q B (a B)
  | o :: rest, k, a => ∃ vf : BkT T → Value, DepT md ops k vf ∧ (∀ B, EffInT md P ops C o k vf (a B) B) ∧ wpEffT md P ops C Q rest (k + 1) (fun B => (a B).put o.dst (vf B))
theorem effUponT_const {K : World → Prop} {K' : T → World → Prop} {v : Value} {vf : T → Value} {b : T} (hv : vf b = v) (hK : ∀ w, K w → K' b w) {r : Result Next} (h : effUpon P K v r) : effUponT P K' vf r := by
  cases r with
  | ok n w' =>
    cases n <;> simp only [effUpon, effUponT] at h ⊢
    case value u => exact ⟨b, by rw [hv]; exact h.1, hK _ h.2⟩
    case skip => exact ⟨b, by rw [hv]; exact h.1, hK _ h.2⟩
    case enter f args => exact h.mono fun e w'' ⟨he, hw⟩ => ⟨b, by rw [hv]; exact he, hK _ hw⟩
  | halt x w' => simp only [effUpon] at h
/-- A value that hangs on what is told of those that it waits for. -/
theorem wpEffT_dep {Q : BkT T → Act → Prop} {o : Oper} {rest : List Oper} {k : Nat} {a : BkT T → Act} (vf : BkT T → Value) (hd : DepT md ops k vf)
    (h1 : ∀ B L w, L k = false → (∀ j, waitsFor md o j = true → L j = true) → C L B w → (Region.wanted o (yielded ops (a B).tmps) = true ∧ effAt P o (a B) (vf B) (C (onL L k) B) w) ∨ (Region.wanted o (yielded ops (a B).tmps) = false ∧ vf B = undef ∧ C (onL L k) B w))
    (h2 : wpEffT md P ops C Q rest (k + 1) (fun B => (a B).put o.dst (vf B))) : wpEffT md P ops C Q (o :: rest) k a := by
  refine ⟨vf, hd, fun B L w hL hD hC => ?_, h2⟩
  rcases h1 B L w hL hD hC with ⟨hw, he⟩ | ⟨hw, hv, hc⟩
  · refine .inl ⟨hw, effUponT_const (b := B k) (by show vf _ = _; rw [updT_self]) (fun w h => ?_) he⟩
    rw [updT_self]
    exact h
  · refine .inr ⟨hw, B k, by rw [updT_self]; exact hv, ?_⟩
    rw [updT_self]
    exact hc
theorem wpEffT_cons {Q : BkT T → Act → Prop} {o : Oper} {rest : List Oper} {k : Nat} {a : BkT T → Act} {v : Value}
    (h1 : ∀ B L w, L k = false → (∀ j, waitsFor md o j = true → L j = true) → C L B w → (Region.wanted o (yielded ops (a B).tmps) = true ∧ effAt P o (a B) v (C (onL L k) B) w) ∨ (Region.wanted o (yielded ops (a B).tmps) = false ∧ v = undef ∧ C (onL L k) B w))
    (h2 : wpEffT md P ops C Q rest (k + 1) (fun B => (a B).put o.dst v)) : wpEffT md P ops C Q (o :: rest) k a :=
  wpEffT_dep (fun _ => v) (fun _ _ _ => rfl) h1 h2
theorem wpEffT_free {Q : BkT T → Act → Prop} {o : Oper} {rest : List Oper} {k : Nat} {a : BkT T → Act} (vf : T → Value)
    (h1 : ∀ B L w, L k = false → (∀ j, waitsFor md o j = true → L j = true) → C L B w → (Region.wanted o (yielded ops (a B).tmps) = true ∧ effAtT P o (a B) vf (fun b w' => C (onL L k) (updT B k b) w') w) ∨ (Region.wanted o (yielded ops (a B).tmps) = false ∧ ∃ b, vf b = undef ∧ C (onL L k) (updT B k b) w))
    (h2 : wpEffT md P ops C Q rest (k + 1) (fun B => (a B).put o.dst (vf (B k)))) : wpEffT md P ops C Q (o :: rest) k a := by
  refine ⟨fun B => vf (B k), fun B B' h => by show vf _ = vf _; rw [h k (by simp [reach])], fun B L w hL hD hC => ?_, h2⟩
  have := h1 B L w hL hD hC
  simpa only [updT_at] using this
theorem wpEffT_nil {Q : BkT T → Act → Prop} {k : Nat} {a : BkT T → Act} (h : ∀ B, Q B (a B)) : wpEffT md P ops C Q [] k a := h
theorem wpEffT_values {Q : BkT T → Act → Prop} (l : List Oper) (k : Nat) (a : BkT T → Act) (hl : ∀ j, l[j]? = ops[k + j]?) (h : wpEffT md P ops C Q l k a) :
    ∃ vf : Nat → BkT T → Value, (∀ j, DepT md ops j (vf j)) ∧ (∀ j o, l[j]? = some o → ∀ B, EffInT md P ops C o (k + j) (vf (k + j)) (frameL ops (fun j => vf j B) (List.range' k j) (a B)) B) ∧ ∀ B, Q B (frameL ops (fun j => vf j B) (List.range' k l.length) (a B)) := by
  induction l generalizing k a with
  | nil => exact ⟨fun _ _ => undef, fun _ _ _ _ => rfl, fun j o hj => (by simp at hj), fun B => h B⟩
  | cons o l ih =>
    obtain ⟨v, hdp, he, hr⟩ := h
    obtain ⟨V, h0, h1, h2⟩ := ih (k + 1) _ (fun j => by have := hl (j + 1); simpa [Nat.add_assoc, Nat.add_comm 1 j] using this) hr
    have hd : dstOf ops k = o.dst := by
      have := hl 0
      simp at this
      simp [dstOf, ← this]
    have hF : ∀ B j, frameL ops (fun i => (if i = k then v else V i) B) (List.range' k (j + 1)) (a B) = frameL ops (fun i => V i B) (List.range' (k + 1) j) ((a B).put o.dst (v B)) := fun B j => by
      rw [List.range'_succ]
      show frameL ops _ (List.range' (k + 1) j) ((a B).put (dstOf ops k) ((if k = k then v else V k) B)) = _
      rw [if_pos rfl, hd]
      refine frameL_congr _ _ _ _ fun i hi => ?_
      have := (List.mem_range'_1.1 hi).1
      show (if i = k then v else V i) B = V i B
      rw [if_neg (by omega)]
    refine ⟨fun i => if i = k then v else V i, fun j => ?_, fun j o' hj B => ?_, fun B => ?_⟩
    · show DepT md ops j (if j = k then v else V j)
      by_cases hjk : j = k
      · rw [if_pos hjk, hjk]; exact hdp
      · rw [if_neg hjk]; exact h0 j
    · cases j with
      | zero =>
        simp at hj
        subst hj
        simpa [frameL] using he B
      | succ j =>
        have hj' : l[j]? = some o' := by simpa using hj
        have := h1 j o' hj' B
        rw [hF B j]
        have e : k + (j + 1) = k + 1 + j := by omega
        simp only [e]
        rw [if_neg (by omega)]
        exact this
    · rw [List.length_cons, hF]
      exact h2 B
theorem wpAny_effT {vf : Nat → BkT T → Value} {a0 : Act} {Q : Exit → Act → World → Prop} (hB : effB md ops = true) (hd : ∀ j, DepT md ops j (vf j)) (hV : ∀ j o, ops[j]? = some o → ∀ B, EffInT md P ops C o j (vf j) (frameL ops (fun j => vf j B) (List.range' 0 j) a0) B)
    (hQ : ∀ B w, C (fun j => decide (j < ops.size)) B w → Q .normal (frameL ops (fun j => vf j B) (List.range' 0 ops.size) a0) w) (fuel : Nat) (listed : Array Bool) (a : Act) (w : World) (B : BkT T) (h : EffInv ops md (fun _ _ => True) (fun j => vf j B) a0 fuel listed a w) (hc : C (Lof listed) B w) : wpAny P md ops Q fuel listed a w := by
  induction fuel generalizing listed a w B with
  | zero =>
    have hnil := List.eq_nil_of_length_eq_zero h.cnt.symm
    have hal : ∀ j, j < ops.size → Lof listed j = true := fun j hj => by
      have := List.filter_eq_nil_iff.1 hnil j (List.mem_range'_1.2 ⟨by omega, by omega⟩)
      simpa using this
    have hLe : Lof listed = fun j => decide (j < ops.size) := by
      funext j
      by_cases hj : j < ops.size
      · rw [hal j hj, decide_eq_true hj]
      · rw [decide_eq_false hj]
        cases hx : Lof listed j with
        | false => rfl
        | true => exact absurd (h.size ▸ Lof_lt hx) hj
    refine ⟨?_, ?_⟩
    · refine List.eq_nil_iff_forall_not_mem.2 fun i hi => ?_
      obtain ⟨h0, _⟩ := mem_ready.1 hi
      obtain ⟨h1, h2⟩ := getD_tf h0
      rw [hal i (h.size ▸ h1)] at h2
      cases h2
    · have hf := h.frame
      rw [List.filter_eq_self.2 (fun j hj => hal j (by have := (List.mem_range'_1.1 hj).2; omega))] at hf
      rw [hf]
      exact hQ B w (hLe ▸ hc)
  | succ fuel ih =>
    refine ⟨fun hnil => ?_, fun i hi => ?_⟩
    · exfalso
      have hal : ∀ k, k ≤ ops.size → ∀ j, j < k → Lof listed j = true := by
        intro k
        induction k with
        | zero => intro _ j hj; omega
        | succ k ihk =>
          intro hk j hj
          by_cases hjk : j < k
          · exact ihk (by omega) j hjk
          · obtain rfl : j = k := by omega
            cases hx : Lof listed j with
            | true => rfl
            | false =>
              exfalso
              obtain ⟨o, ho⟩ : ∃ o, ops[j]? = some o := ⟨_, Array.getElem?_eq_getElem (by omega)⟩
              have : j ∈ Region.ready md ops listed := mem_ready.2 ⟨getD_ft (by rw [h.size]; omega) hx, o, ho, fun e he hb => ihk (by omega) e.on (((effB_spec hB).2 j o ho).1 e he hb)⟩
              rw [hnil] at this
              cases this
      have := h.cnt
      rw [List.filter_eq_nil_iff.2 (fun j hj => by rw [hal ops.size (Nat.le_refl _) j (by have := (List.mem_range'_1.1 hj).2; omega)]; simp)] at this
      simp at this
    · obtain ⟨h0, o, ho, hal⟩ := mem_ready.1 hi
      obtain ⟨hex, hwa⟩ := h.looks hB ho hi
      have hiL := (getD_tf h0).2
      have stepE : ∀ b w', C (onL (Lof listed) i) (updT B i b) w' → wpAny P md ops Q fuel (listed.setIfInBounds i true) (a.put o.dst (vf i (updT B i b))) w' := fun b w' hc' => by
        have h' := h.congrV (V' := fun j => vf j (updT B i b)) (fun j hj => hd j _ _ fun j' hj' => by
          have := reach_listed h.down fuelR j j' hj hj'
          unfold updT
          rw [if_neg (fun e => by rw [e, hiL] at this; cases this)])
        have h2 := h'.step hB ho hi (w' := w') trivial
        exact ih _ _ _ (updT B i b) h2 (by rw [Lof_set (by rw [h.size]; exact (Array.getElem?_eq_some_iff.1 ho).1)]; exact hc')
      have hE := hV i o ho B (Lof listed) w (getD_tf h0).2 (fun j hj => by
        unfold waitsFor at hj
        rw [← Array.any_toList, List.any_eq_true] at hj
        obtain ⟨e, he, h3⟩ := hj
        simp only [Bool.and_eq_true, beq_iff_eq] at h3
        rw [← h3.2]
        exact hal e (by simpa using he) h3.1) hc
      unfold wpOp
      simp only [ho]
      rw [hwa]
      rcases hE with ⟨hw, hE⟩ | ⟨hw, b, hv, hE⟩
      · simp only [hw, if_true]
        refine .inl ?_
        unfold effAtT at hE
        unfold Oper.wp
        rw [hex]
        generalize (execOp (frameL ops (fun j => vf j B) (List.range' 0 i) a0).eval o).run P w = r at hE ⊢
        cases r with
        | ok n w' =>
          cases n <;> simp only [effUponT] at hE <;> simp only [Oper.upon]
          case value u =>
            obtain ⟨b, e1, e2⟩ := hE
            rw [e1]
            exact stepE b _ e2
          case skip =>
            obtain ⟨b, e1, e2⟩ := hE
            rw [← e1]
            exact stepE b _ e2
          case enter f args =>
            exact hE.mono fun e w'' ⟨b, he, hw''⟩ => by subst he; exact stepE b _ hw''
        | halt x w' => simp only [effUponT] at hE
      · simp only [hw, Bool.false_eq_true, if_false]
        rw [← hv]
        exact stepE b _ hE
/-- A drawn region, walked once. -/
theorem wp_region_effT {id : Nat} {Q : Exit → Act → World → Prop} {a : Act} {w : World} {l : List Oper} (C : (Nat → Bool) → BkT T → World → Prop) (B0 : BkT T) (hm : P.follows .mixedOrders = true) (hB : effB .any l.toArray = true) (hC : C (fun _ => false) B0 w.drew)
    (h : wpEffT .any P l.toArray C (fun B a' => ∀ w', C (fun j => decide (j < l.length)) B w' → Q .normal a' w') l 0 (fun _ => a)) : (Code.region id l.toArray true).wp P Q a w := by
  obtain ⟨V, h0, h1, h2⟩ := wpEffT_values l 0 (fun _ => a) (fun j => by simp) h
  refine wp_region_any hm ?_
  have hL0 : Lof (Array.replicate l.toArray.size false) = fun _ => false := by
    funext j
    unfold Lof
    by_cases hj : j < l.length
    · simp [hj]
    · simp [Nat.le_of_not_lt hj]
  refine wpAny_effT (vf := V) (a0 := a) hB h0 (fun j o hj B => ?_) (fun B w' hw' => ?_) _ _ _ w.drew B0 ⟨by simp, fun j o _ hj => (by rw [hL0] at hj; cases hj), ?_, trivial, ?_⟩ (by rw [hL0]; exact hC)
  · have := h1 j o (by simpa using hj) B
    simpa using this
  · have := h2 B w' (by simpa using hw')
    simpa using this
  · rw [hL0, List.filter_eq_nil_iff.2 (fun j _ => by simp)]; rfl
  · rw [hL0, List.filter_eq_self.2 (fun j _ => by simp)]; simp
end
end Go.Proofs.YtkjnlhidnkbelaaGreatDoor

namespace Go.Proofs.YtkjnlhidnkbelaaGreatDoor
open Go Go.RowKit
set_option linter.unusedVariables false
set_option linter.unusedSimpArgs false
/-- What is listed is closed under what it waits for. -/
def DownK (md : Region.Mode) (ops : Array Oper) (L : Nat → Bool) : Prop := ∀ k o, ops[k]? = some o → L k = true → ∀ j, waitsFor md o j = true → L j = true
theorem DownK.step {md : Region.Mode} {ops : Array Oper} {L : Nat → Bool} (h : DownK md ops L) {k : Nat} {o : Oper} (ho : ops[k]? = some o) (hD : ∀ j, waitsFor md o j = true → L j = true) : DownK md ops (onL L k) := fun i o' hi hl j hj => by
  unfold onL at hl ⊢
  by_cases e : j = k
  · rw [if_pos e]
  rw [if_neg e]
  by_cases e2 : i = k
  · subst e2
    rw [ho] at hi
    injection hi with hi
    subst hi
    exact hD j hj
  · rw [if_neg e2] at hl
    exact h i o' hi hl j hj
def waitsK (md : Region.Mode) (ops : Array Oper) (a b : Nat) : Bool := match ops[a]? with
  | none => false
  | some o => waitsFor md o b
theorem DownK.of {md : Region.Mode} {ops : Array Oper} {L : Nat → Bool} (h : DownK md ops L) {a b : Nat} (hw : waitsK md ops a b = true) (ha : L a = true) : L b = true := by
  unfold waitsK at hw
  cases ho : ops[a]? with
  | none => rw [ho] at hw; cases hw
  | some o => rw [ho] at hw; exact h a o ho ha b hw
theorem DownK.no {md : Region.Mode} {ops : Array Oper} {L : Nat → Bool} (h : DownK md ops L) {a b : Nat} (hw : waitsK md ops a b = true) (hb : L b = false) : L a = false := by
  cases ha : L a with
  | false => rfl
  | true => rw [h.of hw ha] at hb; cases hb
def koA : List Int := [1, 1, 3, 6, 12, 11, 1]
def koB : List Int := [1016, 1016, 733, 989, 927, 639, 1016]
def ansY : AnsF := ⟨0, (3, 300), false, false, wholeO.reads, 0, 0, [1]⟩
def plY (p : Pl) (g : Nat) : Pl := ⟨none, 0, p.r, p.cr, some ⟨g, 0, none⟩, 1⟩
abbrev zAf : Array Value := #[I64 0, I64 0, I64 0, .bool false, .bool false, .slice none 0 0, I64 0, I64 0, .slice none 0 0]
/-- What is told: a block, an order, where it lies. -/
abbrev KT := Nat × OrdF × Pl
/-- The blocks made since W1, but for the variables'. -/
def kq (W1 : World) (b1 b2 : Bool) (n1 n2 : Nat) (k : Nat) : Prop := W1.heap.size ≤ k ∧ (b1 = true → k ≠ n1) ∧ (b2 = true → k ≠ n2)
structure KS (W1 : World) (la lb lk lw l3 m1 m2 t1 t2 : Bool) (va vb vk vw v3 : KT) (n1 n2 : Nat) (w : World) : Prop where
  nw : Nw W1 w
  pa : la = true → Sl w (kq W1 m1 m2 n1 n2) (some ⟨va.1, 0, none⟩) (koA.map I64)
  pb : lb = true → Sl w (kq W1 m1 m2 n1 n2) (some ⟨vb.1, 0, none⟩) (koB.map I64)
  pk : lk = true → SmO vk.2.1 ∧ OrdIn w (kq W1 m1 m2 n1 n2) vk.2.1 vk.2.2
  pw : lw = true → OrdIn w (kq W1 m1 m2 n1 n2) wholeO vw.2.2
  p3 : l3 = true → Sl w (kq W1 m1 m2 n1 n2) (some ⟨v3.1, 0, none⟩) ([1].map B8)
  x1 : m1 = true → W1.heap.size ≤ n1 ∧ Blk w n1 31 (if t1 = true then ofA (U8V vk.2.1.kind) vk.2.1 vk.2.2 else zO (U8V 0))
  x2 : m2 = true → W1.heap.size ≤ n2 ∧ Blk w n2 41 (if t2 = true then afA ansY (plY vw.2.2 v3.1) else zAf)
  ne : m1 = true → m2 = true → n1 ≠ n2
section
variable {W1 w w' : World} {la lb lk lw l3 m1 m2 t1 t2 : Bool} {va vb vk vw v3 b : KT} {n1 n2 : Nat}
theorem KS.start (W1 w : World) (q : Nw W1 w) (va vb vk vw v3 : KT) (n1 n2 : Nat) : KS W1 false false false false false false false false false va vb vk vw v3 n1 n2 w :=
  ⟨q, fun h => (by cases h), fun h => (by cases h), fun h => (by cases h), fun h => (by cases h), fun h => (by cases h), fun h => (by cases h), fun h => (by cases h), fun h => (by cases h)⟩
theorem KS.since (h : KS W1 la lb lk lw l3 m1 m2 t1 t2 va vb vk vw v3 n1 n2 w) (k : Nat) (hk : w.heap.size ≤ k) : kq W1 m1 m2 n1 n2 k :=
  ⟨Nat.le_trans h.nw.size hk, fun hm => by have := (h.x1 hm).2.lt; omega, fun hm => by have := (h.x2 hm).2.lt; omega⟩
theorem KS.step (h : KS W1 la lb lk lw l3 m1 m2 t1 t2 va vb vk vw v3 n1 n2 w) (q : Nw w w') : KS W1 la lb lk lw l3 m1 m2 t1 t2 va vb vk vw v3 n1 n2 w' :=
  ⟨h.nw.tr q, fun hl => (h.pa hl).fr q (fun _ _ h => h), fun hl => (h.pb hl).fr q (fun _ _ h => h), fun hl => ⟨(h.pk hl).1, (h.pk hl).2.fr q (fun _ _ h => h)⟩, fun hl => (h.pw hl).fr q (fun _ _ h => h), fun hl => (h.p3 hl).fr q (fun _ _ h => h),
    fun hm => ⟨(h.x1 hm).1, (h.x1 hm).2.fr q (fun h => h)⟩, fun hm => ⟨(h.x2 hm).1, (h.x2 hm).2.fr q (fun h => h)⟩, h.ne⟩
theorem KS.seta (h : KS W1 la lb lk lw l3 m1 m2 t1 t2 va vb vk vw v3 n1 n2 w) (q : Nw w w') (hp : Sl w' (fun k => w.heap.size ≤ k) (some ⟨b.1, 0, none⟩) (koA.map I64)) : KS W1 true lb lk lw l3 m1 m2 t1 t2 b vb vk vw v3 n1 n2 w' :=
  { h.step q with pa := fun _ => hp.mono (fun k hk _ => h.since k hk) }
theorem KS.setb (h : KS W1 la lb lk lw l3 m1 m2 t1 t2 va vb vk vw v3 n1 n2 w) (q : Nw w w') (hp : Sl w' (fun k => w.heap.size ≤ k) (some ⟨b.1, 0, none⟩) (koB.map I64)) : KS W1 la true lk lw l3 m1 m2 t1 t2 va b vk vw v3 n1 n2 w' :=
  { h.step q with pb := fun _ => hp.mono (fun k hk _ => h.since k hk) }
theorem KS.setk (h : KS W1 la lb false lw l3 m1 m2 false t2 va vb vk vw v3 n1 n2 w) (q : Nw w w') (hs : SmO b.2.1) (hp : OrdIn w' (fun k => w.heap.size ≤ k) b.2.1 b.2.2) : KS W1 la lb true lw l3 m1 m2 false t2 va vb b vw v3 n1 n2 w' :=
  { h.step q with pk := fun _ => ⟨hs, hp.mono (fun k hk _ => h.since k hk)⟩, x1 := fun hm => ⟨(h.x1 hm).1, by simpa using (h.x1 hm).2.fr q (fun h => h)⟩ }
theorem KS.setw (h : KS W1 la lb lk false l3 m1 m2 t1 false va vb vk vw v3 n1 n2 w) (q : Nw w w') (hp : OrdIn w' (fun k => w.heap.size ≤ k) wholeO b.2.2) : KS W1 la lb lk true l3 m1 m2 t1 false va vb vk b v3 n1 n2 w' :=
  { h.step q with pw := fun _ => hp.mono (fun k hk _ => h.since k hk), x2 := fun hm => ⟨(h.x2 hm).1, by simpa using (h.x2 hm).2.fr q (fun h => h)⟩ }
theorem KS.set3 (h : KS W1 la lb lk lw false m1 m2 t1 false va vb vk vw v3 n1 n2 w) (q : Nw w w') (hp : Sl w' (fun k => w.heap.size ≤ k) (some ⟨b.1, 0, none⟩) ([1].map B8)) : KS W1 la lb lk lw true m1 m2 t1 false va vb vk vw b n1 n2 w' :=
  { h.step q with p3 := fun _ => hp.mono (fun k hk _ => h.since k hk), x2 := fun hm => ⟨(h.x2 hm).1, by simpa using (h.x2 hm).2.fr q (fun h => h)⟩ }
theorem KS.moved (h : KS W1 la lb lk lw l3 m1 m2 t1 t2 va vb vk vw v3 n1 n2 w) {m1' m2' : Bool} {n1' n2' : Nat} {S : Nat → Prop} (f : Fr S w w') (mv : ∀ k, kq W1 m1 m2 n1 n2 k → k < w.heap.size → kq W1 m1' m2' n1' n2' k) (hn : ∀ k, kq W1 m1' m2' n1' n2' k → ¬ S k) (q : Nw W1 w')
    (hx1 : m1' = true → W1.heap.size ≤ n1' ∧ Blk w' n1' 31 (if t1 = true then ofA (U8V vk.2.1.kind) vk.2.1 vk.2.2 else zO (U8V 0))) (hx2 : m2' = true → W1.heap.size ≤ n2' ∧ Blk w' n2' 41 (if t2 = true then afA ansY (plY vw.2.2 v3.1) else zAf)) (hne : m1' = true → m2' = true → n1' ≠ n2') :
    KS W1 la lb lk lw l3 m1' m2' t1 t2 va vb vk vw v3 n1' n2' w' :=
  ⟨q, fun hl => ((h.pa hl).mono mv).fr f hn, fun hl => ((h.pb hl).mono mv).fr f hn, fun hl => ⟨(h.pk hl).1, ((h.pk hl).2.mono mv).fr f hn⟩, fun hl => ((h.pw hl).mono mv).fr f hn, fun hl => ((h.p3 hl).mono mv).fr f hn, hx1, hx2, hne⟩
theorem KS.alloc1 (h : KS W1 la lb lk lw l3 false m2 false t2 va vb vk vw v3 n1 n2 w) : KS W1 la lb lk lw l3 true m2 false t2 va vb vk vw v3 w.heap.size n2 (w.alloc (.cells (zO (U8V 0)) 31)) := by
  have q : Nw w (w.alloc (.cells (zO (U8V 0)) 31)) := (Fr.refl (fun _ => False) w).alloc _
  exact h.moved q (fun k hk hl => ⟨hk.1, fun _ => by omega, hk.2.2⟩) (fun _ _ h => h) (h.nw.tr q) (fun _ => ⟨h.nw.size, by simpa using Blk.new w 31 (zO (U8V 0))⟩)
    (fun hm => ⟨(h.x2 hm).1, (h.x2 hm).2.fr q (fun h => h)⟩) (fun _ hm => (by have := (h.x2 hm).2.lt; omega))
theorem KS.alloc2 (h : KS W1 la lb lk lw l3 m1 false t1 false va vb vk vw v3 n1 n2 w) : KS W1 la lb lk lw l3 m1 true t1 false va vb vk vw v3 n1 w.heap.size (w.alloc (.cells zAf 41)) := by
  have q : Nw w (w.alloc (.cells zAf 41)) := (Fr.refl (fun _ => False) w).alloc _
  exact h.moved q (fun k hk hl => ⟨hk.1, hk.2.1, fun _ => by omega⟩) (fun _ _ h => h) (h.nw.tr q) (fun hm => ⟨(h.x1 hm).1, (h.x1 hm).2.fr q (fun h => h)⟩)
    (fun _ => ⟨h.nw.size, by simpa using Blk.new w 41 zAf⟩) (fun hm _ => (by have := (h.x1 hm).2.lt; omega))
theorem KS.store1 (h : KS W1 la lb true lw l3 true m2 false t2 va vb vk vw v3 n1 n2 w) : KS W1 la lb true lw l3 true m2 true t2 va vb vk vw v3 n1 n2 (w.setRow n1 (ofA (U8V vk.2.1.kind) vk.2.1 vk.2.2)) := by
  obtain ⟨hx, hb⟩ := h.x1 rfl
  have m : Fr (· = n1) w (w.setRow n1 (ofA (U8V vk.2.1.kind) vk.2.1 vk.2.2)) := (Fr.refl (· = n1) w).setRow (.inl rfl) _
  have hn : ∀ k, kq W1 true m2 n1 n2 k → ¬ k = n1 := fun k hk => hk.2.1 rfl
  exact ⟨h.nw.new m (fun k hk => by omega), fun hl => (h.pa hl).fr m hn, fun hl => (h.pb hl).fr m hn, fun hl => ⟨(h.pk hl).1, (h.pk hl).2.fr m hn⟩, fun hl => (h.pw hl).fr m hn, fun hl => (h.p3 hl).fr m hn,
    fun _ => ⟨hx, by rw [if_pos rfl]; exact hb.row _⟩, fun hm => ⟨(h.x2 hm).1, (h.x2 hm).2.fr m (fun e => (h.ne rfl hm) e.symm)⟩, h.ne⟩
theorem KS.store2 (h : KS W1 la lb lk true true m1 true t1 false va vb vk vw v3 n1 n2 w) : KS W1 la lb lk true true m1 true t1 true va vb vk vw v3 n1 n2 (w.setRow n2 (afA ansY (plY vw.2.2 v3.1))) := by
  obtain ⟨hx, hb⟩ := h.x2 rfl
  have m : Fr (· = n2) w (w.setRow n2 (afA ansY (plY vw.2.2 v3.1))) := (Fr.refl (· = n2) w).setRow (.inl rfl) _
  have hn : ∀ k, kq W1 m1 true n1 n2 k → ¬ k = n2 := fun k hk => hk.2.2 rfl
  exact ⟨h.nw.new m (fun k hk => by omega), fun hl => (h.pa hl).fr m hn, fun hl => (h.pb hl).fr m hn, fun hl => ⟨(h.pk hl).1, (h.pk hl).2.fr m hn⟩, fun hl => (h.pw hl).fr m hn, fun hl => (h.p3 hl).fr m hn,
    fun hm => ⟨(h.x1 hm).1, (h.x1 hm).2.fr m (fun e => (h.ne hm rfl) e)⟩, fun _ => ⟨hx, by rw [if_pos rfl]; exact hb.row _⟩, h.ne⟩
end
/-- The class of worlds of the region: by what was listed. -/
def K33 (ops : Array Oper) (W1 : World) (L : Nat → Bool) (B : BkT KT) (w : World) : Prop :=
  DownK .any ops L ∧ KS W1 (L 0) (L 4) (L 8) (L 11) (L 13) (L 15) (L 16) (L 17) (L 18) (B 0) (B 4) (B 8) (B 11) (B 13) (B 15).1 (B 16).1 w
def kt0 (g : Nat) : KT := (g, wholeO, plZ)
theorem wp_region_k33 {P : Program} {id : Nat} {Q : Exit → Act → World → Prop} {a : Act} {w : World} {l : List Oper} (W1 : World) (hm : P.follows .mixedOrders = true) (hB : effB .any l.toArray = true) (h0 : Nw W1 w)
    (h : wpEffT .any P l.toArray (K33 l.toArray W1) (fun B a' => ∀ w', K33 l.toArray W1 (fun j => decide (j < l.length)) B w' → Q .normal a' w') l 0 (fun _ => a)) : (Code.region id l.toArray true).wp P Q a w :=
  wp_region_effT (K33 l.toArray W1) (fun _ => kt0 0) hm hB ⟨fun _ _ _ h => (by cases h), KS.start _ _ h0.drew _ _ _ _ _ _ _⟩ h
theorem effAt_store_row {P : Program} {o : Oper} {a : Act} {w : World} {K : World → Prop} (ty : TypeId) (x y : Operand) (ho : o.op = .store ty x y) (g : Nat) (cells : Array Value) (hx : a.eval x = .pointer (some ⟨g, 0, none⟩)) (hy : a.eval y = .agg cells)
    (t : TypeId) (old : Array Value) (hg : w.heap[g]? = some (.cells old t (0, 0))) (hi : (P.info? ty).map (·.size) = some cells.size) (hold : old.size = cells.size) (h1 : cells.all (·.oneCell') = true) (h : K (w.setRow g cells)) : effAt P o a undef K w := by
  unfold effAt execOp
  simp only [ho, hx, hy, Instr.storeAt, Instr.sureAddr, Sem.run_bind, Sem.run_pure, Result.andThen_ok, run_storeVar_row w g t ty old cells hg hi hold h1]
  exact ⟨rfl, h⟩
/-- An order with one of its numbers turned. -/
def setO (x : OrdF) (k : Nat) (z : Int) : OrdF :=
  if k = 0 then { x with nm := (z, x.nm.2) } else if k = 1 then { x with nm := (x.nm.1, z) } else if k = 2 then { x with scheme := z } else if k = 3 then { x with epoch := z } else if k = 4 then { x with stage := z } else if k = 5 then ⟨x.kind, x.nm, x.epoch, x.acts, x.commit, x.reads, x.scheme, x.stage, z, x.lo, x.hi, x.bytes⟩ else { x with epoch := z }
def offO : List Nat := [1, 2, 7, 3, 8, 9, 3]
theorem setO_cells (x : OrdF) (p : Pl) (z : Int) (k : Nat) (hk : k < 7) : (ofA (U8V x.kind) x p).setIfInBounds (offO.getD k 0) (I64 z) = ofA (U8V (setO x k z).kind) (setO x k z) p ∧ (∀ w F, OrdIn w F x p → OrdIn w F (setO x k z) p) ∧ (SmO x → SmO (setO x k z)) := by
  match k, hk with
  | 0, _ => exact ⟨rfl, fun w F h => ⟨h.acts, h.reads, h.bytes, h.ca, h.cr, h.cb⟩, fun h => ⟨h.kind, h.acts, h.reads, h.bytes, h.lo, h.hi⟩⟩
  | 1, _ => exact ⟨rfl, fun w F h => ⟨h.acts, h.reads, h.bytes, h.ca, h.cr, h.cb⟩, fun h => ⟨h.kind, h.acts, h.reads, h.bytes, h.lo, h.hi⟩⟩
  | 2, _ => exact ⟨rfl, fun w F h => ⟨h.acts, h.reads, h.bytes, h.ca, h.cr, h.cb⟩, fun h => ⟨h.kind, h.acts, h.reads, h.bytes, h.lo, h.hi⟩⟩
  | 3, _ => exact ⟨rfl, fun w F h => ⟨h.acts, h.reads, h.bytes, h.ca, h.cr, h.cb⟩, fun h => ⟨h.kind, h.acts, h.reads, h.bytes, h.lo, h.hi⟩⟩
  | 4, _ => exact ⟨rfl, fun w F h => ⟨h.acts, h.reads, h.bytes, h.ca, h.cr, h.cb⟩, fun h => ⟨h.kind, h.acts, h.reads, h.bytes, h.lo, h.hi⟩⟩
  | 5, _ => exact ⟨rfl, fun w F h => ⟨h.acts, h.reads, h.bytes, h.ca, h.cr, h.cb⟩, fun h => ⟨h.kind, h.acts, h.reads, h.bytes, h.lo, h.hi⟩⟩
  | 6, _ => exact ⟨rfl, fun w F h => ⟨h.acts, h.reads, h.bytes, h.ca, h.cr, h.cb⟩, fun h => ⟨h.kind, h.acts, h.reads, h.bytes, h.lo, h.hi⟩⟩
/-- An answer with one of its numbers turned. -/
def setY (x : AnsF) (k : Nat) (z : Int) : AnsF :=
  if k = 0 then { x with nm := (z, x.nm.2) } else if k = 1 then { x with nm := (x.nm.1, z) } else if k = 2 then { x with scheme := z } else if k = 3 then { x with scheme := z } else if k = 4 then { x with stage := z } else if k = 5 then { x with stage := z } else { x with scheme := z }
def offY : List Nat := [1, 2, 6, 6, 7, 7, 6]
theorem setY_cells (x : AnsF) (p : Pl) (z : Int) (k : Nat) (hk : k < 7) : (afA x p).setIfInBounds (offY.getD k 0) (I64 z) = afA (setY x k z) p ∧ (∀ w F, AnsIn w F x p → AnsIn w F (setY x k z) p) ∧ (setY x k z).reads = x.reads := by
  match k, hk with
  | 0, _ => exact ⟨rfl, fun w F h => ⟨h.reads, h.bytes, h.cr, h.cb⟩, rfl⟩
  | 1, _ => exact ⟨rfl, fun w F h => ⟨h.reads, h.bytes, h.cr, h.cb⟩, rfl⟩
  | 2, _ => exact ⟨rfl, fun w F h => ⟨h.reads, h.bytes, h.cr, h.cb⟩, rfl⟩
  | 3, _ => exact ⟨rfl, fun w F h => ⟨h.reads, h.bytes, h.cr, h.cb⟩, rfl⟩
  | 4, _ => exact ⟨rfl, fun w F h => ⟨h.reads, h.bytes, h.cr, h.cb⟩, rfl⟩
  | 5, _ => exact ⟨rfl, fun w F h => ⟨h.reads, h.bytes, h.cr, h.cb⟩, rfl⟩
  | 6, _ => exact ⟨rfl, fun w F h => ⟨h.reads, h.bytes, h.cr, h.cb⟩, rfl⟩
theorem big_ord (bs : List UInt8) : ordOk ⟨5, (0, 0), 0, [], false, [], 1, 0, 0, [], [], bs⟩ = decide (bs.length ≤ 65536) := by
  simp [ordOk, kindOk, partsOf, partOk, onlyF, partTo, ordZ, spanOk]
theorem big_ans (bs : List UInt8) : ansOk ⟨0, (0, 0), false, false, [], 0, 0, bs⟩ = decide (bs.length ≤ 131072) := by
  simp [ansOk, rdgsOk]
end Go.Proofs.YtkjnlhidnkbelaaGreatDoor

namespace Go.Proofs.YtkjnlhidnkbelaaGreatDoor
open Go Go.RowKit

theorem quiet_load_cells {P : Program} {ops : Array Oper} {C : World → Prop} {L : Act → Prop} {rest : List Oper} {o : Oper} {a : Act} (hw : Region.wanted o (yielded ops a.tmps) = true) (ty : TypeId) (x : Operand) (ho : o.op = .load ty x)
    (g off : Nat) (hx : a.eval x = .pointer (some ⟨g, off, none⟩)) (cs : List Value) (d : TypeDesc) (hc : ∀ w, C w → ∀ j v, cs[j]? = some v → w.cell? ⟨g, off + j, none⟩ = some v)
    (hu : P.underlying ty = some d) (hd : (match d with | .struct _ | .array _ _ => true | _ => false) = true) (hi : (P.info? ty).map (·.size) = some cs.length)
    (h : wpQuiet P ops C L rest (a.put o.dst (.agg cs.toArray))) : wpQuiet P ops C L (o :: rest) a := by
  unfold wpQuiet
  rw [if_pos hw]
  refine ⟨.agg cs.toArray, fun w hC => ?_, h⟩
  unfold Oper.quietAt execOp
  simp only [ho, hx, Instr.loadAt, Instr.sureAddr, Sem.run_bind, Sem.run_pure, Result.andThen_ok, run_loadVar_cells w g off ty cs d (hc w hC) hu hd hi]
  exact ⟨rfl, rfl⟩
/-- A struct's cells loaded behind a guard that says yes. -/
theorem wl_cells_want {P : Program} {w : World} {ops : Array Oper} {rest : List Oper} {o : Oper} {a : Act} {Q : Exit → Act → World → Prop} (hw : Region.wanted o (yielded ops a.tmps) = true) (ty : TypeId) (x : Operand) (ho : o.op = .load ty x)
    (g off : Nat) (hx : a.eval x = .pointer (some ⟨g, off, none⟩)) (cs : List Value) (d : TypeDesc) (hc : ∀ j v, cs[j]? = some v → w.cell? ⟨g, off + j, none⟩ = some v) (hu : P.underlying ty = some d) (hd : (match d with | .struct _ | .array _ _ => true | _ => false) = true) (hi : (P.info? ty).map (·.size) = some cs.length)
    (h : wpList P ops Q rest (a.put o.dst (.agg cs.toArray)) w) : wpList P ops Q (o :: rest) a w := by
  refine BigFrame.wpList_want hw fun K hK => ?_
  exact wp_load_cells ty x ho g off hx cs d hc hu hd hi (hK _ _ h)
end Go.Proofs.YtkjnlhidnkbelaaGreatDoor

namespace Go.Proofs.YtkjnlhidnkbelaaGreatDoor
open Go Go.RowKit

/-- Values put into an array, one behind the other. -/
theorem fold_set (v : List Value) : ∀ (j off : Nat) (cs : Array Value) (i : Nat), ((v.zipIdx j).foldl (fun (cs : Array Value) (p : Value × Nat) => cs.setIfInBounds (off + p.2) p.1) cs)[i]? =
    if off + j ≤ i ∧ i < off + j + v.length ∧ i < cs.size then v[i - (off + j)]? else cs[i]? := by
  induction v with
  | nil =>
    intro j off cs i
    rw [if_neg (by simp; omega)]
    rfl
  | cons c v ih =>
    intro j off cs i
    rw [List.zipIdx_cons, List.foldl_cons, ih (j + 1) off]
    simp only [List.length_cons, Array.size_setIfInBounds]
    rcases Nat.lt_trichotomy i (off + j) with h | h | h
    · rw [if_neg (by omega), if_neg (by omega), Array.getElem?_setIfInBounds_ne (by omega)]
    · subst h
      by_cases hs : off + j < cs.size
      · rw [if_neg (by omega), if_pos (by omega), Array.getElem?_setIfInBounds_self_of_lt hs, Nat.sub_self]
        rfl
      · rw [if_neg (by omega), if_neg (by omega), Array.getElem?_eq_none (by simp; omega), Array.getElem?_eq_none (by omega)]
    · by_cases hs : off + (j + 1) ≤ i ∧ i < off + (j + 1) + v.length ∧ i < cs.size
      · rw [if_pos hs, if_pos (by omega), show i - (off + j) = (i - (off + (j + 1))) + 1 by omega]
        rfl
      · rw [if_neg hs, if_neg (by omega), Array.getElem?_setIfInBounds_ne (by omega)]
theorem fill_rows (C : Nat) : ∀ (vs : List (List Value)) (k : Nat) (cs : Array Value), (∀ v ∈ vs, v.length = C) → cs.size = (k + vs.length) * C →
    Instr.fill (fun i => some (i * C, C)) cs ((vs.zipIdx k).map fun p => (p.2, Value.agg p.1.toArray)) = some (cs.toList.take (k * C) ++ vs.flatten).toArray := by
  intro vs
  induction vs with
  | nil =>
    intro k cs _ hs
    show some cs = _
    simp at hs
    rw [List.take_of_length_le (by simp [hs])]
    simp
  | cons v vs ih =>
    intro k cs hv hs
    have hvl := hv v (by simp)
    simp only [List.length_cons] at hs
    rw [List.zipIdx_cons, List.map_cons]
    unfold Instr.fill
    simp only
    have e1 : (Value.agg v.toArray).cells = v.toArray := rfl
    have hb : k * C + C ≤ cs.size := by
      rw [hs, ← Nat.succ_mul]
      exact Nat.mul_le_mul_right _ (by omega)
    rw [e1, if_neg (by simp [hvl]; omega)]
    have e2 : v.toArray.zipIdx.foldl (fun cs x => cs.setIfInBounds (k * C + x.2) x.1) cs = (v.zipIdx 0).foldl (fun (cs : Array Value) (p : Value × Nat) => cs.setIfInBounds (k * C + p.2) p.1) cs := by simp
    have e3 : ((v.zipIdx 0).foldl (fun (cs : Array Value) (p : Value × Nat) => cs.setIfInBounds (k * C + p.2) p.1) cs).size = cs.size := by
      have hg : ∀ (l : List (Value × Nat)) (c : Array Value), (l.foldl (fun (cs : Array Value) (p : Value × Nat) => cs.setIfInBounds (k * C + p.2) p.1) c).size = c.size := fun l => by
        induction l with
        | nil => intro c; rfl
        | cons x l ih => intro c; rw [List.foldl_cons, ih]; simp
      exact hg _ _
    have e4 := ih (k + 1) ((v.zipIdx 0).foldl (fun (cs : Array Value) (p : Value × Nat) => cs.setIfInBounds (k * C + p.2) p.1) cs) (fun x hx => hv x (by simp [hx])) (by rw [e3, hs]; congr 1; omega)
    refine Eq.trans ?_ (e4.trans ?_)
    · rw [← e2]
    · congr 2
      rw [List.flatten_cons, ← List.append_assoc]
      congr 1
      refine List.ext_getElem? fun i => ?_
      rw [List.getElem?_take, List.getElem?_append, List.getElem?_take]
      have e5 : ((v.zipIdx 0).foldl (fun (cs : Array Value) (p : Value × Nat) => cs.setIfInBounds (k * C + p.2) p.1) cs).toList[i]? = if k * C + 0 ≤ i ∧ i < k * C + 0 + v.length ∧ i < cs.size then v[i - (k * C + 0)]? else cs[i]? := by
        rw [Array.getElem?_toList]
        exact fold_set v 0 (k * C) cs i
      rw [e5, hvl]
      have hlt : (List.take (k * C) cs.toList).length = k * C := by simp; omega
      rw [hlt, Nat.succ_mul]
      simp only [Nat.add_zero, Array.getElem?_toList]
      by_cases h1 : i < k * C
      · rw [if_pos (by omega), if_neg (by omega), if_pos h1, if_pos h1]
      · by_cases h2 : i < k * C + C
        · rw [if_pos h2, if_pos (by omega), if_neg h1]
        · rw [if_neg h2, if_neg h1, List.getElem?_eq_none (by omega)]
theorem run_build {P : Program} (w : World) (t E : TypeId) (C : Nat) (vs : List (List Value)) (z : Value) (ht : P.underlying t = some (.slice E)) (hinfo : (P.info? E).map (fun i => (i.zero, i.size)) = some (some z, C))
    (hn0 : 0 < vs.length) (hC : 0 < C) (hl : ∀ v ∈ vs, v.length = C) (hsz : vs.length * C ≤ 16777216) :
    (Instr.buildSlice t vs.length ((vs.zipIdx 0).map fun p => (p.2, Value.agg p.1.toArray)).toArray).run P w = .ok (.slice (some ⟨w.heap.size, 0, none⟩) vs.length vs.length) (w.alloc (.cells vs.flatten.toArray E)) := by
  have hne : ¬ vs.length * C = 0 := Nat.ne_of_gt (Nat.mul_pos hn0 hC)
  have hle : ¬ vs.length * C > 2 ^ 24 := by show ¬ vs.length * C > 16777216; omega
  cases hi : P.info? E with
  | none => rw [hi] at hinfo; cases hinfo
  | some i =>
    rw [hi] at hinfo
    simp only [Option.map_some, Option.some.injEq, Prod.mk.injEq] at hinfo
    obtain ⟨hz, hs⟩ := hinfo
    have hf := fill_rows C vs 0 ((Array.range (vs.length * C)).map fun k => z.cells[k % z.cells.size]!) hl (by simp)
    rw [Nat.zero_mul, List.take_zero, List.nil_append] at hf
    simp [Instr.buildSlice, run_underlying ht, sizeOf, typeInfo, hi, hs, hle, hne, zeroValue, hz, hf, newRow]
section
variable {P : Program} {w : World} {ops : Array Oper} {rest : List Oper} {o : Oper} {a : Act} {Q : Exit → Act → World → Prop}
/-- The walk over a slice written out. -/
theorem wl_build (hgd : o.guard = none) {E : TypeId} (t : TypeId) (n : Nat) (ps : List (Nat × Operand)) (C : Nat) (vs : List (List Value)) (z : Value) (ho : o.op = .buildSlice t n ps.toArray) (ht : P.underlying t = some (.slice E)) (hinfo : (P.info? E).map (fun i => (i.zero, i.size)) = some (some z, C))
    (hn : vs.length = n) (hn0 : 0 < n) (hC : 0 < C) (hl : ∀ v ∈ vs, v.length = C) (hsz : n * C ≤ 16777216)
    (hp : (ps.map fun (i, x) => (i, a.eval x)) = (vs.zipIdx 0).map fun p => (p.2, Value.agg p.1.toArray))
    (h : ∀ g w', g = w.heap.size → w' = w.alloc (.cells vs.flatten.toArray E) → wpList P ops Q rest (a.put o.dst (.slice (some ⟨g, 0, none⟩) n n)) w') : wpList P ops Q (o :: rest) a w := by
  refine wpList_plain hgd fun K hK => ?_
  subst hn
  unfold Oper.wp execOp
  simp only [ho, List.map_toArray, hp]
  rw [Sem.run_bind, run_build w t E C vs z ht hinfo hn0 hC hl hsz]
  exact hK _ _ (h _ _ rfl rfl)
/-- The same, behind a guard that says yes. -/
theorem wl_buildw (hw : Region.wanted o (yielded ops a.tmps) = true) {E : TypeId} (t : TypeId) (n : Nat) (ps : List (Nat × Operand)) (C : Nat) (vs : List (List Value)) (z : Value) (ho : o.op = .buildSlice t n ps.toArray) (ht : P.underlying t = some (.slice E)) (hinfo : (P.info? E).map (fun i => (i.zero, i.size)) = some (some z, C))
    (hn : vs.length = n) (hn0 : 0 < n) (hC : 0 < C) (hl : ∀ v ∈ vs, v.length = C) (hsz : n * C ≤ 16777216)
    (hp : (ps.map fun (i, x) => (i, a.eval x)) = (vs.zipIdx 0).map fun p => (p.2, Value.agg p.1.toArray))
    (h : ∀ g w', g = w.heap.size → w' = w.alloc (.cells vs.flatten.toArray E) → wpList P ops Q rest (a.put o.dst (.slice (some ⟨g, 0, none⟩) n n)) w') : wpList P ops Q (o :: rest) a w := by
  refine BigFrame.wpList_want hw fun K hK => ?_
  subst hn
  unfold Oper.wp execOp
  simp only [ho, List.map_toArray, hp]
  rw [Sem.run_bind, run_build w t E C vs z ht hinfo hn0 hC hl hsz]
  exact hK _ _ (h _ _ rfl rfl)
end
end Go.Proofs.YtkjnlhidnkbelaaGreatDoor
