/- Movers: the document's mover is answered: whole. -/
import Derived.Test.YtfglibkffcogcaaGreatMrD
namespace Go.Proofs.YtfglibkffcogcaaGreat
open Go Go.RowKit

set_option maxRecDepth 100000 in
set_option maxHeartbeats 8000000 in
theorem ranswer_any (w : World) (I J : Nat → Prop) (g : Nat) (s : Mv) (tag : Int) (h : IsRMv w I g s) (ok : MvOk s) (hn : 0 ≤ s.next ∧ s.next ≤ 4611686018427387904) (a : AnT) (A : Option Addr) (c : Nat) (hs : Sl w J A (a.bytes.map B8)) (hJ : ¬ J g) (hl : a.bytes.length ≤ 1000000000) :
    Calls Tryz.prog 14 #[.pointer (some ⟨g, 0, none⟩), .int .i64 tag, .agg (anA a A c)] w fun e w' => ∃ v, e = .returned v ∧ RTo w I g (answerM s tag a.err a.bytes) v w' := by
  obtain ⟨r, hr⟩ : ∃ r, answerM s tag a.err a.bytes = r := ⟨_, rfl⟩
  rw [hr]
  obtain ⟨W, hW⟩ : ∃ W, W = w.alloc (.cells (anA a A c) 52) := ⟨_, rfl⟩
  have q0 : Nw w W := by rw [hW]; exact (Fr.refl (fun _ => False) w).alloc _
  have b0 : Blk W w.heap.size 52 (anA a A c) := by rw [hW]; exact Blk.new w _ _
  have hm := h.fr q0 (fun h => h) (fun _ _ h => h)
  have hsW := hs.fr q0 (fun _ _ h => h)
  have HW := Lib.hid hW
  clear hW
  cases hln : s.line with
  | none =>
    have e : r = (s, []) := by rw [← hr]; unfold answerM; rw [hln]
    have E := Lib.hid e
    have c11 : W.cell? ⟨g, 11, none⟩ = some (.bool false) := by
      obtain ⟨x, Ab, cb, aa, Ao, co, sn, h1, _⟩ := hm
      rw [hln] at h1
      simpa using h1.cell 11
    clear hr e b0
    go_enter Tryz.func14, Tryz.ntmps14
    go_upto_region 1 with (fail)
    rw [← HW.out]
    go_wp2_with fail
    go_ret
    rw [E.out]
    exact ⟨_, rfl, .inl ⟨rfl, rfl⟩, ⟨I, hm, fun k hk => .inl hk⟩, Nw.on q0⟩
  | some b =>
    obtain ⟨x, hx⟩ : ∃ x, s.works = some x := by
      cases hw : s.works with
      | none => exact absurd hw (ok.line (by rw [hln]; simp))
      | some x => exact ⟨x, rfl⟩
    have hkd := ok.kind b hln
    have e0 : r = if b.tag ≠ tag then (s, [])
      else if b.ord.kind = 3 then frozenM s x a.err a.bytes
      else if b.ord.kind = 5 then askM s 0 (stepO x.num (if a.err = 0 then 3 else 7))
      else if b.ord.kind = 12 then (if a.err ≠ 0 ∧ b.ord.stage = 4 then askM s 0 (stepO x.num 7) else ({ s with line := none, since := 0 }, []))
      else if a.err ≠ 0 then ({ s with since := 0 }, [])
      else askM s 0 (stepO x.num (doneStage b.ord.kind)) := by rw [← hr]; unfold answerM; rw [hln, hx]
    have E0 := Lib.hid e0
    clear hr e0
    by_cases ht : b.tag = tag
    · have dt : (b.tag != tag) = false := by simp [ht]
      obtain ⟨c11, c12, _, _⟩ := hm.linec hln
      obtain ⟨V, hV⟩ : ∃ V, V = W.alloc (.cells #[.int .u8 0, .int .u8 0, .int .u8 0, .int .u8 0, .int .u8 8, .int .u8 0, .int .u8 5, .int .u8 6, .int .u8 9] 32) := ⟨_, rfl⟩
      have qV : Nw W V := by rw [hV]; exact (Fr.refl (fun _ => False) W).alloc _
      have bV : Blk V W.heap.size 32 #[.int .u8 0, .int .u8 0, .int .u8 0, .int .u8 0, .int .u8 8, .int .u8 0, .int .u8 5, .int .u8 6, .int .u8 9] := by rw [hV]; exact Blk.new W _ _
      have HV := Lib.hid hV
      clear hV
      have hm4 := hm.fr qV (fun h => h) (fun _ _ h => h)
      have b4 := b0.fr qV (fun h => h)
      have hs4 := hsW.fr qV (fun _ _ h => h)
      have f4 : Fr (· = g) w V := (Nw.on q0 : Fr (· = g) w W).tr (Nw.on qV)
      obtain ⟨_, _, k14, k22⟩ := hm4.linec hln
      have hcl : ∀ p u, ((anA a A c).toList)[p]? = some u → V.cell? ⟨w.heap.size, 0 + p, none⟩ = some u := Blk.cells_in b4 0 9
      have v0 : V.cell? ⟨w.heap.size, 0, none⟩ = some (I64 a.err) := by simpa using b4.cell 0
      have n4 : V.cell? ⟨W.heap.size, 4, none⟩ = some (.int .u8 8) := by simpa using bV.cell 4
      have n6 : V.cell? ⟨W.heap.size, 6, none⟩ = some (.int .u8 5) := by simpa using bV.cell 6
      have n7 : V.cell? ⟨W.heap.size, 7, none⟩ = some (.int .u8 6) := by simpa using bV.cell 7
      have n8 : V.cell? ⟨W.heap.size, 8, none⟩ = some (.int .u8 9) := by simpa using bV.cell 8
      clear hm b0 hsW bV b4
      rcases hkd with hk | hk | hk | hk | hk | hk | hk
      · have hc := rfrozen_any V I J g s x hm4 hx hn a A c hs4 hJ hl
        have e1 : r = frozenM s x a.err a.bytes := by have e := E0.out; rw [if_neg (fun h => h ht), if_pos hk] at e; exact e
        have E := Lib.hid e1
        rw [hk] at k14
        clear e1
        go_enter Tryz.func14, Tryz.ntmps14
        go_upto_region 1 with (fail)
        rw [← HW.out]
        go_upto_region 4 with (fail)
        rw [← HV.out]
        go_wp2_with (refine wl_load_cells rfl 52 _ rfl w.heap.size 0 rfl (anA a A c).toList _ hcl Tryz.underlying52 rfl ran_size ?_)
        refine hc.mono ?_
        rintro e w1 ⟨v, rfl, hv⟩
        go_wp2_with fail
        go_ret
        rw [E.out]
        exact ⟨_, rfl, hv.back f4⟩
      · by_cases he : a.err = 0
        · have d : (a.err != 0) = false := by simp [he]
          have hc := rstep_any V I g s x hm4 hx hn 8 (by omega)
          have e1 : r = askM s 0 (stepO x.num 8) := by have e := E0.out; rw [if_neg (fun h => h ht), if_neg (by omega), if_neg (by omega), if_neg (by omega), if_neg (fun h => h he), show doneStage b.ord.kind = 8 by rw [hk]; rfl] at e; exact e
          have E := Lib.hid e1
          rw [hk] at k14
          clear e1
          go_enter Tryz.func14, Tryz.ntmps14
          go_upto_region 1 with (fail)
          rw [← HW.out]
          go_upto_region 4 with (fail)
          rw [← HV.out]
          go_wp2_with fail
          refine hc.mono ?_
          rintro e w1 ⟨v, rfl, hv⟩
          go_wp2_with fail
          go_ret
          rw [E.out]
          exact ⟨_, rfl, hv.back f4⟩
        · have d : (a.err != 0) = true := by simp [he]
          have e1 : r = ({ s with since := 0 }, []) := by have e := E0.out; rw [if_neg (fun h => h ht), if_neg (by omega), if_neg (by omega), if_neg (by omega), if_pos he] at e; exact e
          have E := Lib.hid e1
          obtain ⟨u, c27, f27, hm5⟩ := hm4.since_
          rw [hk] at k14
          clear e1
          go_enter Tryz.func14, Tryz.ntmps14
          go_upto_region 1 with (fail)
          rw [← HW.out]
          go_upto_region 4 with (fail)
          rw [← HV.out]
          go_wp2_with fail
          go_ret
          rw [E.out]
          exact ⟨_, rfl, .inl ⟨rfl, rfl⟩, ⟨I, hm5, fun k hk => .inl hk⟩, f4.set1 _ _⟩
      · by_cases he : a.err = 0
        · have d : (a.err != 0) = false := by simp [he]
          have hc := rstep_any V I g s x hm4 hx hn 3 (by omega)
          have e1 : r = askM s 0 (stepO x.num 3) := by have e := E0.out; rw [if_neg (fun h => h ht), if_neg (by omega), if_pos hk, if_pos he] at e; exact e
          have E := Lib.hid e1
          rw [hk] at k14
          clear e1
          go_enter Tryz.func14, Tryz.ntmps14
          go_upto_region 1 with (fail)
          rw [← HW.out]
          go_upto_region 4 with (fail)
          rw [← HV.out]
          go_wp2_with fail
          refine hc.mono ?_
          rintro e w1 ⟨v, rfl, hv⟩
          go_wp2_with fail
          go_ret
          rw [E.out]
          exact ⟨_, rfl, hv.back f4⟩
        · have d : (a.err != 0) = true := by simp [he]
          have hc := rstep_any V I g s x hm4 hx hn 7 (by omega)
          have e1 : r = askM s 0 (stepO x.num 7) := by have e := E0.out; rw [if_neg (fun h => h ht), if_neg (by omega), if_pos hk, if_neg he] at e; exact e
          have E := Lib.hid e1
          rw [hk] at k14
          clear e1
          go_enter Tryz.func14, Tryz.ntmps14
          go_upto_region 1 with (fail)
          rw [← HW.out]
          go_upto_region 4 with (fail)
          rw [← HV.out]
          go_wp2_with fail
          refine hc.mono ?_
          rintro e w1 ⟨v, rfl, hv⟩
          go_wp2_with fail
          go_ret
          rw [E.out]
          exact ⟨_, rfl, hv.back f4⟩
      · by_cases he : a.err = 0
        · have d : (a.err != 0) = false := by simp [he]
          have hc := rstep_any V I g s x hm4 hx hn 5 (by omega)
          have e1 : r = askM s 0 (stepO x.num 5) := by have e := E0.out; rw [if_neg (fun h => h ht), if_neg (by omega), if_neg (by omega), if_neg (by omega), if_neg (fun h => h he), show doneStage b.ord.kind = 5 by rw [hk]; rfl] at e; exact e
          have E := Lib.hid e1
          rw [hk] at k14
          clear e1
          go_enter Tryz.func14, Tryz.ntmps14
          go_upto_region 1 with (fail)
          rw [← HW.out]
          go_upto_region 4 with (fail)
          rw [← HV.out]
          go_wp2_with fail
          refine hc.mono ?_
          rintro e w1 ⟨v, rfl, hv⟩
          go_wp2_with fail
          go_ret
          rw [E.out]
          exact ⟨_, rfl, hv.back f4⟩
        · have d : (a.err != 0) = true := by simp [he]
          have e1 : r = ({ s with since := 0 }, []) := by have e := E0.out; rw [if_neg (fun h => h ht), if_neg (by omega), if_neg (by omega), if_neg (by omega), if_pos he] at e; exact e
          have E := Lib.hid e1
          obtain ⟨u, c27, f27, hm5⟩ := hm4.since_
          rw [hk] at k14
          clear e1
          go_enter Tryz.func14, Tryz.ntmps14
          go_upto_region 1 with (fail)
          rw [← HW.out]
          go_upto_region 4 with (fail)
          rw [← HV.out]
          go_wp2_with fail
          go_ret
          rw [E.out]
          exact ⟨_, rfl, .inl ⟨rfl, rfl⟩, ⟨I, hm5, fun k hk => .inl hk⟩, f4.set1 _ _⟩
      · by_cases he : a.err = 0
        · have d : (a.err != 0) = false := by simp [he]
          have hc := rstep_any V I g s x hm4 hx hn 6 (by omega)
          have e1 : r = askM s 0 (stepO x.num 6) := by have e := E0.out; rw [if_neg (fun h => h ht), if_neg (by omega), if_neg (by omega), if_neg (by omega), if_neg (fun h => h he), show doneStage b.ord.kind = 6 by rw [hk]; rfl] at e; exact e
          have E := Lib.hid e1
          rw [hk] at k14
          clear e1
          go_enter Tryz.func14, Tryz.ntmps14
          go_upto_region 1 with (fail)
          rw [← HW.out]
          go_upto_region 4 with (fail)
          rw [← HV.out]
          go_wp2_with fail
          refine hc.mono ?_
          rintro e w1 ⟨v, rfl, hv⟩
          go_wp2_with fail
          go_ret
          rw [E.out]
          exact ⟨_, rfl, hv.back f4⟩
        · have d : (a.err != 0) = true := by simp [he]
          have e1 : r = ({ s with since := 0 }, []) := by have e := E0.out; rw [if_neg (fun h => h ht), if_neg (by omega), if_neg (by omega), if_neg (by omega), if_pos he] at e; exact e
          have E := Lib.hid e1
          obtain ⟨u, c27, f27, hm5⟩ := hm4.since_
          rw [hk] at k14
          clear e1
          go_enter Tryz.func14, Tryz.ntmps14
          go_upto_region 1 with (fail)
          rw [← HW.out]
          go_upto_region 4 with (fail)
          rw [← HV.out]
          go_wp2_with fail
          go_ret
          rw [E.out]
          exact ⟨_, rfl, .inl ⟨rfl, rfl⟩, ⟨I, hm5, fun k hk => .inl hk⟩, f4.set1 _ _⟩
      · by_cases he : a.err = 0
        · have d : (a.err != 0) = false := by simp [he]
          have hc := rstep_any V I g s x hm4 hx hn 9 (by omega)
          have e1 : r = askM s 0 (stepO x.num 9) := by have e := E0.out; rw [if_neg (fun h => h ht), if_neg (by omega), if_neg (by omega), if_neg (by omega), if_neg (fun h => h he), show doneStage b.ord.kind = 9 by rw [hk]; rfl] at e; exact e
          have E := Lib.hid e1
          rw [hk] at k14
          clear e1
          go_enter Tryz.func14, Tryz.ntmps14
          go_upto_region 1 with (fail)
          rw [← HW.out]
          go_upto_region 4 with (fail)
          rw [← HV.out]
          go_wp2_with fail
          refine hc.mono ?_
          rintro e w1 ⟨v, rfl, hv⟩
          go_wp2_with fail
          go_ret
          rw [E.out]
          exact ⟨_, rfl, hv.back f4⟩
        · have d : (a.err != 0) = true := by simp [he]
          have e1 : r = ({ s with since := 0 }, []) := by have e := E0.out; rw [if_neg (fun h => h ht), if_neg (by omega), if_neg (by omega), if_neg (by omega), if_pos he] at e; exact e
          have E := Lib.hid e1
          obtain ⟨u, c27, f27, hm5⟩ := hm4.since_
          rw [hk] at k14
          clear e1
          go_enter Tryz.func14, Tryz.ntmps14
          go_upto_region 1 with (fail)
          rw [← HW.out]
          go_upto_region 4 with (fail)
          rw [← HV.out]
          go_wp2_with fail
          go_ret
          rw [E.out]
          exact ⟨_, rfl, .inl ⟨rfl, rfl⟩, ⟨I, hm5, fun k hk => .inl hk⟩, f4.set1 _ _⟩
      · by_cases hs4' : b.ord.stage = 4
        · have d4 : (b.ord.stage == 4) = true := by simp [hs4']
          by_cases he : a.err = 0
          · have d : (a.err != 0) = false := by simp [he]
            have e1 : r = ({ s with line := none, since := 0 }, []) := by have e := E0.out; rw [if_neg (fun h => h ht), if_neg (by omega), if_neg (by omega), if_pos hk, if_neg (fun h => h.1 he)] at e; exact e
            have E := Lib.hid e1
            obtain ⟨u, c11, f11, hm5⟩ := hm4.off_
            rw [hk] at k14
            clear e1
            go_enter Tryz.func14, Tryz.ntmps14
            go_upto_region 1 with (fail)
            rw [← HW.out]
            go_upto_region 4 with (fail)
            rw [← HV.out]
            go_wp2_with fail
            go_ret
            rw [E.out]
            exact ⟨_, rfl, .inl ⟨rfl, rfl⟩, ⟨I, hm5, fun k hk => .inl hk⟩, f4.set1 _ _⟩
          · have d : (a.err != 0) = true := by simp [he]
            have hc := rstep_any V I g s x hm4 hx hn 7 (by omega)
            have e1 : r = askM s 0 (stepO x.num 7) := by have e := E0.out; rw [if_neg (fun h => h ht), if_neg (by omega), if_neg (by omega), if_pos hk, if_pos ⟨he, hs4'⟩] at e; exact e
            have E := Lib.hid e1
            rw [hk] at k14
            clear e1
            go_enter Tryz.func14, Tryz.ntmps14
            go_upto_region 1 with (fail)
            rw [← HW.out]
            go_upto_region 4 with (fail)
            rw [← HV.out]
            go_wp2_with fail
            refine hc.mono ?_
            rintro e w1 ⟨v, rfl, hv⟩
            go_wp2_with fail
            go_ret
            rw [E.out]
            exact ⟨_, rfl, hv.back f4⟩
        · have d4 : (b.ord.stage == 4) = false := by simp [hs4']
          have e1 : r = ({ s with line := none, since := 0 }, []) := by have e := E0.out; rw [if_neg (fun h => h ht), if_neg (by omega), if_neg (by omega), if_pos hk, if_neg (fun h => hs4' h.2)] at e; exact e
          have E := Lib.hid e1
          obtain ⟨u, c11, f11, hm5⟩ := hm4.off_
          rw [hk] at k14
          clear e1
          go_enter Tryz.func14, Tryz.ntmps14
          go_upto_region 1 with (fail)
          rw [← HW.out]
          go_upto_region 4 with (fail)
          rw [← HV.out]
          go_wp2_with fail
          go_ret
          rw [E.out]
          exact ⟨_, rfl, .inl ⟨rfl, rfl⟩, ⟨I, hm5, fun k hk => .inl hk⟩, f4.set1 _ _⟩
    · have dt : (b.tag != tag) = true := by simp [ht]
      obtain ⟨c11, c12, _, _⟩ := hm.linec hln
      have e1 := E0.out
      rw [if_pos ht] at e1
      have E := Lib.hid e1
      clear e1 b0
      go_enter Tryz.func14, Tryz.ntmps14
      go_upto_region 1 with (fail)
      rw [← HW.out]
      go_wp2_with fail
      go_ret
      rw [E.out]
      exact ⟨_, rfl, .inl ⟨rfl, rfl⟩, ⟨I, hm, fun k hk => .inl hk⟩, Nw.on q0⟩
end Go.Proofs.YtfglibkffcogcaaGreat
