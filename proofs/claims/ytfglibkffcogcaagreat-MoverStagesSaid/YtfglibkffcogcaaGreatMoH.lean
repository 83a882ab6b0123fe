/- Movers: the program's mover is answered: whole. -/
import Derived.Test.YtfglibkffcogcaaGreatMoG
namespace Go.Proofs.YtfglibkffcogcaaGreat
open Go Go.RowKit

theorem kind_keys : U8MapKey Tryz.prog 66 := U8MapKey.of Tryz.underlying66
theorem IsMv.kindc {w : World} {I : Nat → Prop} {g : Nat} {s : Mv} {b : AskT} (h : IsMv w I g s) (hb : s.line = some b) : w.cell? ⟨g, 0, none⟩ = some (.bool true) ∧ w.cell? ⟨g, 1, none⟩ = some (I64 b.tag) ∧ w.cell? ⟨g, 3, none⟩ = some (U8V b.ord.kind) := by
  obtain ⟨a, Ao, co, y, Ab, cb, h1, h2, _⟩ := h
  obtain rfl := (h2 b hb).symm
  rw [hb] at h1
  exact ⟨by simpa using h1.cell 0, by simpa using h1.cell 1, by simpa using h1.cell 3⟩
theorem fn_nil (w : World) : (binOp .eql 88 .nilFunc .nilFunc).run Tryz.prog w = .ok (.bool true) w := by kernel_rfl
theorem fn_not (w : World) (f : FuncId) : (binOp .eql 88 (.func (.func f) #[] #[]) .nilFunc).run Tryz.prog w = .ok (.bool false) w := by
  first | kernel_rfl | rfl | simp
theorem an_size : (Tryz.prog.info? 41).map (·.size) = some 9 := by kernel_rfl
set_option maxRecDepth 100000 in
set_option maxHeartbeats 4000000 in
theorem done_any (w : World) (I : Nat → Prop) (g : Nat) (s : Mv) (x : Sch) (b : AskT) (h : IsMv w I g s) (hx : s.works = some x) (hb : s.line = some b) (hk : b.ord.kind = 4 ∨ b.ord.kind = 6 ∨ b.ord.kind = 7 ∨ b.ord.kind = 8) (hn : 0 ≤ s.next ∧ s.next ≤ 4611686018427387904) (a : AnT) (A : Option Addr) (c : Nat) :
    Calls Tryz.prog 42 #[.pointer (some ⟨g, 0, none⟩), .agg (anA a A c)] w fun e w' => ∃ v, e = .returned v ∧ MvTo w I g (if a.err ≠ 0 then ({ s with since := 0 }, []) else askM s 0 (stepO x.num (doneStage b.ord.kind))) v w' := by
  obtain ⟨r, hr⟩ : ∃ r, (if a.err ≠ 0 then ({ s with since := 0 }, []) else askM s 0 (stepO x.num (doneStage b.ord.kind))) = r := ⟨_, rfl⟩
  rw [hr]
  obtain ⟨W, hW⟩ : ∃ W, W = w.alloc (.cells (anA a A c) 41) := ⟨_, rfl⟩
  have q0 : Nw w W := by rw [hW]; exact (Fr.refl (fun _ => False) w).alloc _
  have b0 : Blk W w.heap.size 41 (anA a A c) := by rw [hW]; exact Blk.new w _ _
  have c0 : W.cell? ⟨w.heap.size, 0, none⟩ = some (I64 a.err) := by simpa using b0.cell 0
  have hm := h.fr q0 (fun h => h) (fun _ _ h => h)
  have HW := Lib.hid hW
  clear hW
  by_cases he : a.err = 0
  · have d : (a.err != 0) = false := by simp [he]
    have e : r = askM s 0 (stepO x.num (doneStage b.ord.kind)) := by rw [← hr, if_neg (fun h => h he)]
    have E := Lib.hid e
    clear hr e he b0
    have hmm := @run_makeMap Tryz.prog
    have M0 : MapU Tryz.prog 66 (W.alloc (.map #[] 0)) W.heap.size 0 (fun _ => none) := MapU.made W rfl
    have p0 : Nw W (W.alloc (.map #[] 0)) := (Fr.refl _ W).alloc _
    obtain ⟨V1, r1, M1, u1⟩ := M0.put kind_keys Tryz.underlying130 (by unfold maxLen; omega) 6 (u8Wf (by omega)) (by simp) (.int .u8 5)
    have p1 := p0.trans u1 (fun q e => .inr (by omega))
    obtain ⟨V2, r2, M2, u2⟩ := M1.put kind_keys Tryz.underlying130 (by unfold maxLen; omega) 7 (u8Wf (by omega)) (by simp) (.int .u8 6)
    have p2 := p1.trans u2 (fun q e => .inr (by omega))
    obtain ⟨V3, r3, M3, u3⟩ := M2.put kind_keys Tryz.underlying130 (by unfold maxLen; omega) 4 (u8Wf (by omega)) (by simp) (.int .u8 8)
    have p3 := p2.trans u3 (fun q e => .inr (by omega))
    obtain ⟨V4, r4, M4, u4⟩ := M3.put kind_keys Tryz.underlying130 (by unfold maxLen; omega) 8 (u8Wf (by omega)) (by simp) (.int .u8 9)
    have p4 := p3.trans u4 (fun q e => .inr (by omega))
    have hm4 := hm.fr p4 (fun h => h) (fun _ _ h => h)
    have f4 : Fr (· = g) w V4 := (Nw.on q0 : Fr (· = g) w W).tr (Nw.on p4)
    have hz0 : (zeroValue 32).run Tryz.prog V4 = .ok (.int .u8 0) V4 := by kernel_rfl
    have hlk := fun n hn => M4.look1 kind_keys Tryz.underlying130 hz0 n (u8Wf hn)
    have c3 := (hm4.kindc hb).2.2
    have HLK := Lib.hid hlk
    clear hlk M0 M1 M2 M3 M4 u1 u2 u3 u4 p0 p1 p2 p3 p4 hm
    rcases hk with hk | hk | hk | hk
    · rw [hk] at c3
      have hk1 := HLK.out 4 (by omega)
      have hk2 : (Instr.lookup 130 (.map (some W.heap.size)) (.int .u8 4) false).run Tryz.prog V4 = .ok (.int .u8 8) V4 := hk1
      have hst := step_any V4 I g s x hm4 hx hn 8 (by omega)
      clear hk1
      go_enter Tryz.func42, Tryz.ntmps42
      go_upto_region 1 with (fail)
      rw [← HW.out]
      go_wp2_with fail
      refine hst.mono ?_
      rintro e w1 ⟨v, rfl, hv⟩
      go_wp2_with fail
      go_ret
      have e2 : doneStage b.ord.kind = 8 := by rw [hk]; rfl
      rw [E.out, e2]
      exact ⟨_, rfl, hv.back f4⟩
    · rw [hk] at c3
      have hk1 := HLK.out 6 (by omega)
      have hk2 : (Instr.lookup 130 (.map (some W.heap.size)) (.int .u8 6) false).run Tryz.prog V4 = .ok (.int .u8 5) V4 := hk1
      have hst := step_any V4 I g s x hm4 hx hn 5 (by omega)
      clear hk1
      go_enter Tryz.func42, Tryz.ntmps42
      go_upto_region 1 with (fail)
      rw [← HW.out]
      go_wp2_with fail
      refine hst.mono ?_
      rintro e w1 ⟨v, rfl, hv⟩
      go_wp2_with fail
      go_ret
      have e2 : doneStage b.ord.kind = 5 := by rw [hk]; rfl
      rw [E.out, e2]
      exact ⟨_, rfl, hv.back f4⟩
    · rw [hk] at c3
      have hk1 := HLK.out 7 (by omega)
      have hk2 : (Instr.lookup 130 (.map (some W.heap.size)) (.int .u8 7) false).run Tryz.prog V4 = .ok (.int .u8 6) V4 := hk1
      have hst := step_any V4 I g s x hm4 hx hn 6 (by omega)
      clear hk1
      go_enter Tryz.func42, Tryz.ntmps42
      go_upto_region 1 with (fail)
      rw [← HW.out]
      go_wp2_with fail
      refine hst.mono ?_
      rintro e w1 ⟨v, rfl, hv⟩
      go_wp2_with fail
      go_ret
      have e2 : doneStage b.ord.kind = 6 := by rw [hk]; rfl
      rw [E.out, e2]
      exact ⟨_, rfl, hv.back f4⟩
    · rw [hk] at c3
      have hk1 := HLK.out 8 (by omega)
      have hk2 : (Instr.lookup 130 (.map (some W.heap.size)) (.int .u8 8) false).run Tryz.prog V4 = .ok (.int .u8 9) V4 := hk1
      have hst := step_any V4 I g s x hm4 hx hn 9 (by omega)
      clear hk1
      go_enter Tryz.func42, Tryz.ntmps42
      go_upto_region 1 with (fail)
      rw [← HW.out]
      go_wp2_with fail
      refine hst.mono ?_
      rintro e w1 ⟨v, rfl, hv⟩
      go_wp2_with fail
      go_ret
      have e2 : doneStage b.ord.kind = 9 := by rw [hk]; rfl
      rw [E.out, e2]
      exact ⟨_, rfl, hv.back f4⟩
  · have d : (a.err != 0) = true := by simp [he]
    have e : r = ({ s with since := 0 }, []) := by rw [← hr, if_pos he]
    have E := Lib.hid e
    obtain ⟨n, c16, f16, hm2⟩ := hm.since
    clear hr e he b0 hm
    go_enter Tryz.func42, Tryz.ntmps42
    go_upto_region 1 with (fail)
    rw [← HW.out]
    go_wp2_with fail
    go_ret
    rw [E.out]
    exact ⟨_, rfl, .inl ⟨rfl, rfl⟩, ⟨I, hm2, fun k hk => .inl hk⟩, (Nw.on q0 : Fr (· = g) w W).set1 _ _⟩
set_option maxRecDepth 100000 in
set_option maxHeartbeats 8000000 in
theorem manswer_any (w : World) (I J : Nat → Prop) (g : Nat) (s : Mv) (tag : Int) (h : IsMv w I g s) (ok : MvOk s) (hn : 0 ≤ s.next ∧ s.next ≤ 4611686018427387904) (a : AnT) (A : Option Addr) (c : Nat) (hs : Sl w J A (a.bytes.map B8)) (hl : a.bytes.length ≤ 1000000000) :
    Calls Tryz.prog 13 #[.pointer (some ⟨g, 0, none⟩), .int .i64 tag, .agg (anA a A c)] w fun e w' => ∃ v, e = .returned v ∧ MvTo w I g (answerM s tag a.err a.bytes) v w' := by
  obtain ⟨r, hr⟩ : ∃ r, answerM s tag a.err a.bytes = r := ⟨_, rfl⟩
  rw [hr]
  obtain ⟨W, hW⟩ : ∃ W, W = w.alloc (.cells (anA a A c) 41) := ⟨_, rfl⟩
  have q0 : Nw w W := by rw [hW]; exact (Fr.refl (fun _ => False) w).alloc _
  have b0 : Blk W w.heap.size 41 (anA a A c) := by rw [hW]; exact Blk.new w _ _
  have c0 : W.cell? ⟨w.heap.size, 0, none⟩ = some (I64 a.err) := by simpa using b0.cell 0
  have hm := h.fr q0 (fun h => h) (fun _ _ h => h)
  have HW := Lib.hid hW
  have hkn := mknown_any W I g s hm
  have hsW := hs.fr q0 (fun _ _ h => h)
  clear hW
  cases hln : s.line with
  | none =>
    have e : r = (s, []) := by rw [← hr]; unfold answerM; rw [hln]
    have E := Lib.hid e
    have c00 : W.cell? ⟨g, 0, none⟩ = some (.bool false) := by
      obtain ⟨a', Ao, co, y, Ab, cb, h1, _⟩ := hm
      rw [hln] at h1
      simpa using h1.cell 0
    clear hr e b0
    go_enter Tryz.func13, Tryz.ntmps13
    go_upto_region 1 with (fail)
    rw [← HW.out]
    go_wp2_with fail
    refine hkn.mono ?_
    rintro e w1 ⟨rfl, rfl⟩
    go_wp2_with fail
    go_ret
    rw [E.out]
    exact ⟨_, rfl, .inl ⟨rfl, rfl⟩, ⟨I, hm, fun k hk => .inl hk⟩, Nw.on q0⟩
  | some b =>
    obtain ⟨x, hx⟩ : ∃ x, s.works = some x := by
      cases hw : s.works with
      | none => exact absurd hw (ok.line (by rw [hln]; simp))
      | some x => exact ⟨x, rfl⟩
    have hkd := ok.kind b hln
    obtain ⟨c00, c01, c03⟩ := hm.kindc hln
    have e0 : r = if b.tag ≠ tag then (s, [])
      else if b.ord.kind = 3 then frozenM s x a.err a.bytes
      else if b.ord.kind = 5 then askM s 0 (stepO x.num (if a.err = 0 then 3 else 7))
      else if b.ord.kind = 12 then (if a.err ≠ 0 ∧ b.ord.stage = 4 then askM s 0 (stepO x.num 7) else ({ s with line := none, since := 0 }, []))
      else if a.err ≠ 0 then ({ s with since := 0 }, [])
      else askM s 0 (stepO x.num (doneStage b.ord.kind)) := by rw [← hr]; unfold answerM; rw [hln, hx]
    have E0 := Lib.hid e0
    clear hr e0
    by_cases ht : b.tag = tag
    · have dt : (b.tag != tag) = false := by simp [ht]
      have hmm := @run_makeMap Tryz.prog
      have M0 : MapU Tryz.prog 66 (W.alloc (.map #[] 0)) W.heap.size 0 (fun _ => none) := MapU.made W rfl
      have p0 : Nw W (W.alloc (.map #[] 0)) := (Fr.refl _ W).alloc _
      obtain ⟨V1, r1, M1, u1⟩ := M0.put kind_keys Tryz.underlying90 (by unfold maxLen; omega) 3 (u8Wf (by omega)) (by simp) (.func (.func 39) #[] #[])
      have p1 := p0.trans u1 (fun q e => .inr (by omega))
      obtain ⟨V2, r2, M2, u2⟩ := M1.put kind_keys Tryz.underlying90 (by unfold maxLen; omega) 5 (u8Wf (by omega)) (by simp) (.func (.func 40) #[] #[])
      have p2 := p1.trans u2 (fun q e => .inr (by omega))
      obtain ⟨V3, r3, M3, u3⟩ := M2.put kind_keys Tryz.underlying90 (by unfold maxLen; omega) 12 (u8Wf (by omega)) (by simp) (.func (.func 41) #[] #[])
      have p3 := p2.trans u3 (fun q e => .inr (by omega))
      have hm4 := hm.fr p3 (fun h => h) (fun _ _ h => h)
      have b4 := b0.fr p3 (fun h => h)
      have hs4 := hsW.fr p3 (fun _ _ h => h)
      have f4 : Fr (· = g) w V3 := (Nw.on q0 : Fr (· = g) w W).tr (Nw.on p3)
      have hz0 : (zeroValue 88).run Tryz.prog V3 = .ok .nilFunc V3 := by kernel_rfl
      have hlk := fun n hn => M3.look1 kind_keys Tryz.underlying90 hz0 n (u8Wf hn)
      have c3 := (hm4.kindc hln).2.2
      have hcl : ∀ p u, ((anA a A c).toList)[p]? = some u → V3.cell? ⟨w.heap.size, 0 + p, none⟩ = some u := Blk.cells_in b4 0 9
      have HLK := Lib.hid hlk
      clear hlk M0 M1 M2 M3 u1 u2 u3 p0 p1 p2 p3 hm b0 hsW c03 c0
      rcases hkd with hk | hk | hk | hk | hk | hk | hk
      · have hc := frozen_any V3 I J g s x hm4 hx hn a A c hs4 hl
        rw [hk] at c3
        have hk1 := HLK.out 3 (by omega)
        have hk2 : (Instr.lookup 90 (.map (some W.heap.size)) (.int .u8 3) false).run Tryz.prog V3 = .ok (.func (.func 39) #[] #[]) V3 := hk1
        have e1 := E0.out
        rw [if_neg (fun h => h ht), if_pos hk] at e1
        have E := Lib.hid e1
        have hfn := fn_nil V3
        have hfn2 := fn_not V3
        clear hk1 e1
        go_enter Tryz.func13, Tryz.ntmps13
        go_upto_region 1 with (fail)
        rw [← HW.out]
        go_wp2_with fail
        refine hkn.mono ?_
        rintro e w1 ⟨rfl, rfl⟩
        go_wp2_with (refine wl_load_cells rfl 41 _ rfl w.heap.size 0 rfl (anA a A c).toList _ hcl Tryz.underlying41 rfl an_size ?_)
        refine hc.mono ?_
        rintro e w1 ⟨v, rfl, hv⟩
        go_wp2_with fail
        go_ret
        rw [E.out]
        exact ⟨_, rfl, hv.back f4⟩
      · have hc := done_any V3 I g s x b hm4 hx hln (.inl hk) hn a A c
        rw [hk] at c3
        have hk1 := HLK.out 4 (by omega)
        have hk2 : (Instr.lookup 90 (.map (some W.heap.size)) (.int .u8 4) false).run Tryz.prog V3 = .ok (.nilFunc) V3 := hk1
        have e1 := E0.out
        rw [if_neg (fun h => h ht), if_neg (by omega), if_neg (by omega), if_neg (by omega)] at e1
        have E := Lib.hid e1
        have hfn := fn_nil V3
        have hfn2 := fn_not V3
        clear hk1 e1
        go_enter Tryz.func13, Tryz.ntmps13
        go_upto_region 1 with (fail)
        rw [← HW.out]
        go_wp2_with fail
        refine hkn.mono ?_
        rintro e w1 ⟨rfl, rfl⟩
        go_wp2_with (refine wl_load_cells rfl 41 _ rfl w.heap.size 0 rfl (anA a A c).toList _ hcl Tryz.underlying41 rfl an_size ?_)
        refine hc.mono ?_
        rintro e w1 ⟨v, rfl, hv⟩
        go_wp2_with fail
        go_ret
        rw [E.out]
        exact ⟨_, rfl, hv.back f4⟩
      · have hc := absorbed_any V3 I g s x hm4 hx hn a A c
        rw [hk] at c3
        have hk1 := HLK.out 5 (by omega)
        have hk2 : (Instr.lookup 90 (.map (some W.heap.size)) (.int .u8 5) false).run Tryz.prog V3 = .ok (.func (.func 40) #[] #[]) V3 := hk1
        have e1 := E0.out
        rw [if_neg (fun h => h ht), if_neg (by omega), if_pos hk] at e1
        have E := Lib.hid e1
        have hfn := fn_nil V3
        have hfn2 := fn_not V3
        clear hk1 e1
        go_enter Tryz.func13, Tryz.ntmps13
        go_upto_region 1 with (fail)
        rw [← HW.out]
        go_wp2_with fail
        refine hkn.mono ?_
        rintro e w1 ⟨rfl, rfl⟩
        go_wp2_with (refine wl_load_cells rfl 41 _ rfl w.heap.size 0 rfl (anA a A c).toList _ hcl Tryz.underlying41 rfl an_size ?_)
        refine hc.mono ?_
        rintro e w1 ⟨v, rfl, hv⟩
        go_wp2_with fail
        go_ret
        rw [E.out]
        exact ⟨_, rfl, hv.back f4⟩
      · have hc := done_any V3 I g s x b hm4 hx hln (.inr (.inl hk)) hn a A c
        rw [hk] at c3
        have hk1 := HLK.out 6 (by omega)
        have hk2 : (Instr.lookup 90 (.map (some W.heap.size)) (.int .u8 6) false).run Tryz.prog V3 = .ok (.nilFunc) V3 := hk1
        have e1 := E0.out
        rw [if_neg (fun h => h ht), if_neg (by omega), if_neg (by omega), if_neg (by omega)] at e1
        have E := Lib.hid e1
        have hfn := fn_nil V3
        have hfn2 := fn_not V3
        clear hk1 e1
        go_enter Tryz.func13, Tryz.ntmps13
        go_upto_region 1 with (fail)
        rw [← HW.out]
        go_wp2_with fail
        refine hkn.mono ?_
        rintro e w1 ⟨rfl, rfl⟩
        go_wp2_with (refine wl_load_cells rfl 41 _ rfl w.heap.size 0 rfl (anA a A c).toList _ hcl Tryz.underlying41 rfl an_size ?_)
        refine hc.mono ?_
        rintro e w1 ⟨v, rfl, hv⟩
        go_wp2_with fail
        go_ret
        rw [E.out]
        exact ⟨_, rfl, hv.back f4⟩
      · have hc := done_any V3 I g s x b hm4 hx hln (.inr (.inr (.inl hk))) hn a A c
        rw [hk] at c3
        have hk1 := HLK.out 7 (by omega)
        have hk2 : (Instr.lookup 90 (.map (some W.heap.size)) (.int .u8 7) false).run Tryz.prog V3 = .ok (.nilFunc) V3 := hk1
        have e1 := E0.out
        rw [if_neg (fun h => h ht), if_neg (by omega), if_neg (by omega), if_neg (by omega)] at e1
        have E := Lib.hid e1
        have hfn := fn_nil V3
        have hfn2 := fn_not V3
        clear hk1 e1
        go_enter Tryz.func13, Tryz.ntmps13
        go_upto_region 1 with (fail)
        rw [← HW.out]
        go_wp2_with fail
        refine hkn.mono ?_
        rintro e w1 ⟨rfl, rfl⟩
        go_wp2_with (refine wl_load_cells rfl 41 _ rfl w.heap.size 0 rfl (anA a A c).toList _ hcl Tryz.underlying41 rfl an_size ?_)
        refine hc.mono ?_
        rintro e w1 ⟨v, rfl, hv⟩
        go_wp2_with fail
        go_ret
        rw [E.out]
        exact ⟨_, rfl, hv.back f4⟩
      · have hc := done_any V3 I g s x b hm4 hx hln (.inr (.inr (.inr hk))) hn a A c
        rw [hk] at c3
        have hk1 := HLK.out 8 (by omega)
        have hk2 : (Instr.lookup 90 (.map (some W.heap.size)) (.int .u8 8) false).run Tryz.prog V3 = .ok (.nilFunc) V3 := hk1
        have e1 := E0.out
        rw [if_neg (fun h => h ht), if_neg (by omega), if_neg (by omega), if_neg (by omega)] at e1
        have E := Lib.hid e1
        have hfn := fn_nil V3
        have hfn2 := fn_not V3
        clear hk1 e1
        go_enter Tryz.func13, Tryz.ntmps13
        go_upto_region 1 with (fail)
        rw [← HW.out]
        go_wp2_with fail
        refine hkn.mono ?_
        rintro e w1 ⟨rfl, rfl⟩
        go_wp2_with (refine wl_load_cells rfl 41 _ rfl w.heap.size 0 rfl (anA a A c).toList _ hcl Tryz.underlying41 rfl an_size ?_)
        refine hc.mono ?_
        rintro e w1 ⟨v, rfl, hv⟩
        go_wp2_with fail
        go_ret
        rw [E.out]
        exact ⟨_, rfl, hv.back f4⟩
      · have hc := stepped_any V3 I g s x b hm4 hx hln hn a A c
        rw [hk] at c3
        have hk1 := HLK.out 12 (by omega)
        have hk2 : (Instr.lookup 90 (.map (some W.heap.size)) (.int .u8 12) false).run Tryz.prog V3 = .ok (.func (.func 41) #[] #[]) V3 := hk1
        have e1 := E0.out
        rw [if_neg (fun h => h ht), if_neg (by omega), if_neg (by omega), if_pos hk] at e1
        have E := Lib.hid e1
        have hfn := fn_nil V3
        have hfn2 := fn_not V3
        clear hk1 e1
        go_enter Tryz.func13, Tryz.ntmps13
        go_upto_region 1 with (fail)
        rw [← HW.out]
        go_wp2_with fail
        refine hkn.mono ?_
        rintro e w1 ⟨rfl, rfl⟩
        go_wp2_with (refine wl_load_cells rfl 41 _ rfl w.heap.size 0 rfl (anA a A c).toList _ hcl Tryz.underlying41 rfl an_size ?_)
        refine hc.mono ?_
        rintro e w1 ⟨v, rfl, hv⟩
        go_wp2_with fail
        go_ret
        rw [E.out]
        exact ⟨_, rfl, hv.back f4⟩
    · have dt : (b.tag != tag) = true := by simp [ht]
      have e1 := E0.out
      rw [if_pos ht] at e1
      have E := Lib.hid e1
      clear e1 b0
      go_enter Tryz.func13, Tryz.ntmps13
      go_upto_region 1 with (fail)
      rw [← HW.out]
      go_wp2_with fail
      refine hkn.mono ?_
      rintro e w1 ⟨rfl, rfl⟩
      go_wp2_with fail
      go_ret
      rw [E.out]
      exact ⟨_, rfl, .inl ⟨rfl, rfl⟩, ⟨I, hm, fun k hk => .inl hk⟩, Nw.on q0⟩
end Go.Proofs.YtfglibkffcogcaaGreat
