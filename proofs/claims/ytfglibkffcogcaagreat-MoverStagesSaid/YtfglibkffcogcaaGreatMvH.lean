/- MoverRuns: the walk. -/
import Derived.Test.YtfglibkffcogcaaGreatMvG
namespace Go.Proofs.YtfglibkffcogcaaGreat
open Go Go.RowKit

theorem mpick_any (w : World) (x n : Int) (hn : 0 < n) (hn2 : n ≤ 1000000000000) (hx : -9223372036854775808 ≤ x ∧ x ≤ 9223372036854775807) :
    Calls Tryz.prog 9 #[.int .i64 x, .int .i64 n] w fun e w' => (∃ k : Nat, (k : Int) < n ∧ e = .returned (.int .i64 (k : Int))) ∧ w = w' := pick_any w x n hn hn2 hx
/-- Where the list of rows lies. -/
def rowsIn (t : Value) (k : Nat) : Prop := ∃ A n c, t = .slice A n c ∧ inA A k
theorem rowsIn_sl {A : Option Addr} {n c k : Nat} (h : rowsIn (.slice A n c) k) : inA A k := by
  obtain ⟨A', n', c', h1, h2⟩ := h
  injection h1 with h1
  rw [h1]; exact h2
def RunRel (w0 : World) (l : List Deed) (first : Int) (gm gr : Nat) (rows tag i : Value) (wr : World) : Prop :=
  ∃ (j : Nat) (s : Mv) (t : Int), j ≤ l.length ∧ i = .int .i64 j ∧ tag = .int .i64 t ∧ (0 ≤ t ∧ t ≤ first + 1 + j) ∧ MvInv s (first + 1 + j) ∧ DuoM wr w0.heap.size gm (rowsIn rows) s ∧ DuoR wr w0.heap.size gr (rowsIn rows) s ∧
    RwAt w0.heap.size rows wr ∧ Fr (fun k => k = gm ∨ k = gr) w0 wr
/-- What one deed leaves. -/
def DeedTo (wr : World) (B gm gr : Nat) (X : Nat → Prop) (T : Int) (a b : Value) (wx : World) : Prop :=
  ∃ r : Mv × List AskT, MvTold r T ∧ ToldV wr 70 U8V r.2 a wx ∧ ToldD wr (fun _ => False) r.2 b wx ∧ DuoM wx B gm X r.1 ∧ DuoR wx B gr X r.1 ∧ Fr (fun k => k = gm ∨ k = gr) wr wx
theorem deed_size : (Tryz.prog.info? 43).map (·.size) = some 20 := by kernel_rfl
theorem deed_one (d : Deed) : ((deedL d).toArray).all (·.oneCell') = true := by
  rw [List.all_toArray]
  simp only [List.all_cons, List.all_nil]
  rfl
abbrev zD : Array Value := #[I64 0, I64 0, .string ⟨#[]⟩, .string ⟨#[]⟩, I64 0, I64 0, I64 0, I64 0, .int .u8 0, .bool false, I64 0, I64 0, I64 0, I64 0, .bool false, .bool false, .slice none 0 0, I64 0, I64 0, .slice none 0 0]
set_option maxRecDepth 100000 in
set_option maxHeartbeats 8000000 in
theorem runs_walk (w : World) (F F2 : Nat → Prop) (first : Int) (A : Option Addr) (c : Nat) (l : List Deed) (hs : Sl w F A (deedsC l)) (hz : ∀ d ∈ l, DeedIn w F2 d) (hl : l.length ≤ 3000000000000) (hx : -9223372036854775808 ≤ first ∧ first ≤ 9223372036854775807) :
    Calls Tryz.prog 3 #[.int .i64 first, .slice A l.length c] w fun e w' => e = .returned (.bool true) ∧ Nw w w' := by
  have hli := light_any w F F2 A c l hs hl hz
  have haw := fun w => awake_any w
  go_enter Tryz.func3, Tryz.ntmps3
  go_wp2_with fail
  refine hli.mono ?_
  rintro e w1 ⟨b, rfl, hb, q1⟩
  cases b with
  | false =>
    go_wp2_with fail
    refine (haw _).mono ?_
    rintro e w2 ⟨rfl, q2⟩
    go_wp2_with fail
    go_ret
    exact ⟨rfl, q1.tr q2⟩
  | true =>
    obtain ⟨hl3, hsm⟩ := hb rfl
    by_cases h0 : first < 0
    · go_wp2_with fail
      refine (haw _).mono ?_
      rintro e w2 ⟨rfl, q2⟩
      go_wp2_with fail
      go_ret
      exact ⟨rfl, q1.tr q2⟩
    · have h0d : decide (first < 0) = false := decide_eq_false h0
      by_cases h1 : (2305843009213693952 : Int) < first
      · go_wp2_with fail
        refine (haw _).mono ?_
        rintro e w2 ⟨rfl, q2⟩
        go_wp2_with fail
        go_ret
        exact ⟨rfl, q1.tr q2⟩
      · have h1d : decide ((2305843009213693952 : Int) < first) = false := decide_eq_false h1
        have hm := mnew_any w1 first (by omega)
        go_wp2_with fail
        refine hm.mono ?_
        rintro e w2 ⟨rfl, m2, q2⟩
        have hr := rnew_any w2 first (by omega)
        go_wp2_with fail
        refine hr.mono ?_
        rintro e w3 ⟨rfl, r3, q3⟩
        obtain ⟨gm, hgm⟩ : ∃ g, g = w1.heap.size := ⟨_, rfl⟩
        obtain ⟨gr, hgr⟩ : ∃ g, g = w2.heap.size := ⟨_, rfl⟩
        have hm3 : DuoM w3 w3.heap.size gm (fun _ => False) (newM first) := by rw [hgm]; exact ⟨_, m2.fr q3 (fun h => h) (fun _ _ h => h), fun k h => h.elim⟩
        have hr3 : DuoR w3 w3.heap.size gr (fun _ => False) (newM first) := by rw [hgr]; exact ⟨_, r3, fun k h => h.elim⟩
        have hgmB : w.heap.size ≤ gm := by rw [hgm]; exact q1.size
        have hgrB : w.heap.size ≤ gr := by rw [hgr]; exact Nat.le_trans q1.size q2.size
        have hne : gm ≠ gr := by have := m2.lt; omega
        have hq03 : Nw w w3 := (q1.tr q2).tr q3
        rw [← hgm, ← hgr]
        have HGM := Lib.hid hgm
        have HGR := Lib.hid hgr
        have hf0 : 0 ≤ first := by omega
        have hf1 : first ≤ 2305843009213693952 := by omega
        clear hgm hgr m2 r3 q1 q2 q3 h0 h1 h0d h1d hm hr hli hb
        go_wp2_with fail
        go_loopw [7, 8, 9] (fun rows tag i wx => RunRel w3 l first gm gr rows tag i wx) (fun _ _ i _ => l.length - (intOf i).toNat)
        case atStart => exact ⟨0, newM first, first, Nat.zero_le _, rfl, rfl, by omega, (inv_new first hf0).mono (by omega), hm3.fresh (fun k h => (inA_none _ (rowsIn_sl h)).elim), hr3.fresh (fun k h => (inA_none _ (rowsIn_sl h)).elim), ⟨0, fun _ => none, fun _ => 0, fun _ => 0, fun _ => [], none, 0, rfl, by omega, Own.nil _ _ _, fun k hk => by omega, fun i j hi => by omega, fun j hj => by omega, fun b hb => (inA_none b hb).elim, fun b ⟨k, hk, _⟩ => by omega⟩, Fr.refl _ _⟩
        case round =>
          obtain ⟨j, s, t, hj, rfl, rfl, ht, hinv, hM, hR, hW, hfr⟩ := hrel
          obtain ⟨m, A, N, cp, f', Br, cr, rfl, hm40, ho, hrw, hfar, hNs, hBr, hIn⟩ := hW
          have hXlt0 : ∀ k, rowsIn (.slice Br m cr) k → k < wr.heap.size := fun k h => ho.lt k (rowsIn_sl h)
          obtain ⟨X, hX⟩ : ∃ X, rowsIn (.slice Br m cr) = X := ⟨_, rfl⟩
          rw [hX] at hM hR hXlt0
          have hXlt := hXlt0
          have HX := Lib.hid hX
          clear hX hXlt0
          have hNw : Nw w wr := hq03.new hfr (fun b hb => by rcases hb with rfl | rfl <;> assumption)
          by_cases hlt : j < l.length
          · obtain ⟨bA, oA, rfl, _, hcell⟩ := (hs.fr hNw (fun _ _ h => h)).deed hlt
            have hzk := hz _ (List.getElem_mem hlt)
            have hsk := hsm _ (List.getElem_mem hlt)
            obtain ⟨d, hd⟩ : ∃ d, l[j] = d := ⟨_, rfl⟩
            rw [hd] at hcell hzk hsk
            have HD := Lib.hid hd
            have hby := hzk.bytes.fr hNw (fun _ _ h => h)
            have hi0 : (j : Int) < (l.length : Int) := by omega
            obtain ⟨W0, hW0⟩ : ∃ W0, W0 = wr.alloc (.cells zD 43) := ⟨_, rfl⟩
            have q0 : Nw wr W0 := by rw [hW0]; exact (Fr.refl (fun _ => False) wr).alloc _
            have d0 : Blk W0 wr.heap.size 43 zD := by rw [hW0]; exact Blk.new wr _ _
            obtain ⟨W1, hW1⟩ : ∃ W1, W1 = W0.setCells wr.heap.size 0 (deedL d).toArray.toList := ⟨_, rfl⟩
            have q1 : Nw wr W1 := by rw [hW1]; exact q0.new ((Fr.refl (· = wr.heap.size) W0).setCells _ _) (fun b hb => by omega)
            have d1 : Blk W1 wr.heap.size 43 (deedL d).toArray := by rw [hW1]; exact Blk.setCells d0 0 (deedL d)
            have hth := Blk.there d0 0 20 (by show 0 + 20 ≤ 20; omega)
            have hone := deed_one d
            have HW0 := Lib.hid hW0
            have HW1 := Lib.hid hW1
            clear hd hW0 hW1 d0
            go_upto_region 10 with (first | (refine wl_load_cells rfl 43 _ rfl bA (oA + j * 20) rfl (deedL d) _ hcell Tryz.underlying43 rfl deed_size ?_) | (rw [← HW0.out]; refine wpList_store_mid rfl 43 _ _ rfl wr.heap.size 0 (deedL d).toArray rfl rfl hth deed_size hone ?_))
            rw [← HW1.out]
            have hpk := fun w => mpick_any w d.kind 6 (by omega) (by omega) hzk.kind
            have k0 : W1.cell? ⟨wr.heap.size, 0, none⟩ = some (.int .i64 d.kind) := by simpa using d1.cell 0
            go_upto_if 48 with (go_at_call 9; refine (hpk _).mono ?_; rintro e w4 ⟨⟨k, hk, rfl⟩, rfl⟩)
            go_cut [11, 12] (fun a b wx => DeedTo wr w3.heap.size gm gr X (first + 1 + j + 1) a b wx)
            case first =>
              by_cases hk3 : (k : Int) < 3
              · have hcx : ∀ p u, ((schA d.x).toList)[p]? = some u → W1.cell? ⟨wr.heap.size, 1 + p, none⟩ = some u := Blk.cells_in d1 1 8
                have k9 : W1.cell? ⟨wr.heap.size, 9, none⟩ = some (.bool d.on) := by simpa using d1.cell 9
                have hsz := hfr.size
                have hgmw := hM.lt
                have hgrw := hR.lt
                have ht1 := duo_tick (hM.nw q1) (Nat.le_trans hsz q1.size) (fun k h => Nat.lt_of_lt_of_le (hXlt k h) q1.size) d.x d.on (by have := hsk.2.1; omega) (by have := hsk.2.2; omega) hzk.stage hinv (by omega)
                have told := inv_tick hinv d.x d.on
                obtain ⟨r, hr⟩ : ∃ r, tickM s d.x d.on = r := ⟨_, rfl⟩
                rw [hr] at ht1 told
                have HR := Lib.hid hr
                clear hr
                go_wp2_with (refine wl_load_cells rfl 34 _ rfl wr.heap.size 1 rfl (schA d.x).toList _ hcx Tryz.underlying34 rfl sch_size ?_)
                refine ht1.mono ?_
                rintro e w5 ⟨va, rfl, ta, hM5, f5⟩
                have d5 := d1.fr f5 (by omega)
                have hcx5 : ∀ p u, ((schA d.x).toList)[p]? = some u → w5.cell? ⟨wr.heap.size, 1 + p, none⟩ = some u := Blk.cells_in d5 1 8
                have k95 : w5.cell? ⟨wr.heap.size, 9, none⟩ = some (.bool d.on) := by simpa using d5.cell 9
                have ht2 := duo_rtick ((hR.nw q1).fr f5 (fun h => hne h.symm) (fun k h hB => by have := hm3.lt; omega)) (Nat.le_trans hsz (Nat.le_trans q1.size f5.size)) (fun k h => Nat.lt_of_lt_of_le (hXlt k h) (Nat.le_trans q1.size f5.size)) d.x d.on (by have := hsk.2.1; omega) (by have := hsk.2.2; omega) hinv (by omega)
                rw [HR.out] at ht2
                go_wp2_with (refine wl_load_cells rfl 34 _ rfl wr.heap.size 1 rfl (schA d.x).toList _ hcx5 Tryz.underlying34 rfl sch_size ?_)
                refine ht2.mono ?_
                rintro e w6 ⟨vb, rfl, tb, hR6, f6⟩
                go_wp2_with fail
                go_meet
                have s5 := q1.size
                refine ⟨r, told, (ta.fr f6 (fun k h => by omega)).back s5, ?_, hM5.fr f6 hne (fun k h hB => by have := hr3.lt; omega), hR6, ?_⟩
                · exact tb.back (Nat.le_trans s5 f5.size)
                · exact ((Nw.on q1).tr (f5.mono fun b hb => .inl (.inl hb))).tr (f6.mono fun b hb => .inl (.inr hb))
              · have hk3d : decide ((k : Int) < 3) = false := decide_eq_false hk3
                have hsz := hfr.size
                have hgmw := hM.lt
                have hgrw := hR.lt
                have hBw : w3.heap.size ≤ W1.heap.size := Nat.le_trans hsz q1.size
                have hcl11 : ∀ p u, ((anA d.an d.A d.c).toList)[p]? = some u → W1.cell? ⟨wr.heap.size, 11 + p, none⟩ = some u := Blk.cells_in d1 11 9
                obtain ⟨gI, hgI⟩ : ∃ g, g = W1.heap.size := ⟨_, rfl⟩
                obtain ⟨V1, hV1⟩ : ∃ V1, V1 = W1.alloc (.cells zA 41) := ⟨_, rfl⟩
                have qV1 : Nw W1 V1 := by rw [hV1]; exact (Fr.refl (fun _ => False) W1).alloc _
                have y1 : Blk V1 gI 41 zA := by rw [hV1, hgI]; exact Blk.new W1 _ _
                obtain ⟨V2, hV2⟩ : ∃ V2, V2 = V1.setCells gI 0 (anA d.an d.A d.c).toList := ⟨_, rfl⟩
                have qV2 : Nw W1 V2 := by rw [hV2]; exact qV1.new ((Fr.refl (· = gI) V1).setCells _ _) (fun b hb => by omega)
                have y2 : Blk V2 gI 41 (anA d.an d.A d.c) := by rw [hV2]; exact Blk.setCells y1 0 (anA d.an d.A d.c).toList
                have hthA := Blk.there y1 0 9 (by show 0 + 9 ≤ 9; omega)
                have honeA := an_one d.an d.A d.c
                have qw2 : Nw wr V2 := q1.tr qV2
                have hbyF := (hzk.bytes.mono (F' := (· < w.heap.size)) fun b _ h => h)
                have hby2 := hbyF.fr (hNw.tr qw2) (fun _ _ h => h)
                have d2 := d1.fr qV2 (fun h => h)
                have x19 : V2.cell? ⟨wr.heap.size, 19, none⟩ = some (.slice d.A d.an.bytes.length d.c) := by simpa using d2.cell 19
                have hbl : d.an.bytes.length ≤ 30099 := hsk.1
                have hlent := lent_u8 V2 _ d.A d.c d.an.bytes hby2 (by omega)
                have HgI := Lib.hid hgI
                have HV1 := Lib.hid hV1
                have HV2 := Lib.hid hV2
                have hgIw : W1.heap.size ≤ gI := by omega
                clear hgI hV1 hV2 y1
                go_upto_region 16 with (first | (refine wl_load_cells rfl 41 _ rfl wr.heap.size 11 rfl (anA d.an d.A d.c).toList _ hcl11 Tryz.underlying41 rfl an_size ?_) | (rw [← HV1.out, ← HgI.out]; refine wpList_store_mid rfl 41 _ _ rfl gI 0 (anA d.an d.A d.c) rfl rfl hthA an_size honeA ?_))
                rw [← HV2.out]
                go_wp2_with fail
                refine hlent.mono ?_
                rintro e V3 ⟨g, rfl, hLe, qV3, hgV⟩
                have y3 := y2.fr qV3 (fun h => h)
                have y3f := y3.frozen 8
                have y3c : V3.cell? ⟨gI, 8, none⟩ = some (.slice d.A d.an.bytes.length d.c) := by simpa using y3.cell 8
                obtain ⟨V4, hV4⟩ : ∃ V4, V4 = V3.setCell ⟨gI, 8, none⟩ (.slice (some ⟨g, 0, none⟩) d.an.bytes.length (d.an.bytes.length + 12)) := ⟨_, rfl⟩
                have y4 : Blk V4 gI 41 (anA d.an (some ⟨g, 0, none⟩) (d.an.bytes.length + 12)) := by rw [hV4]; exact y3.set_ 8 _
                have gIlt := y2.lt
                have hggI : g ≠ gI := by omega
                have hLe4 : Lent V4 (some ⟨g, 0, none⟩) d.an.bytes := by rw [hV4]; exact Own.setCell hLe (fun h => hggI ((inA_some _ _).1 h).symm) _
                have qw3 : Nw wr V3 := qw2.tr qV3
                have qw1s := q1.size
                have qV2s := qV2.size
                have qV3s := qV3.size
                have q14 : Nw W1 V4 := by rw [hV4]; exact (qV2.tr qV3).setCell (.inr hgIw) _
                have qw4 : Nw wr V4 := q1.tr q14
                have d4 := d1.fr q14 (fun h => h)
                have x10 : V4.cell? ⟨wr.heap.size, 10, none⟩ = some (.int .i64 d.less) := by simpa using d4.cell 10
                have hg4 : g < V4.heap.size := by have := Own.lt hLe4 g ((inA_some _ _).2 rfl); exact this
                have hcl4 : ∀ p u, ((anA d.an (some ⟨g, 0, none⟩) (d.an.bytes.length + 12)).toList)[p]? = some u → V4.cell? ⟨gI, 0 + p, none⟩ = some u := Blk.cells_in y4 0 9
                have HV4 := Lib.hid hV4
                clear hV4 y3
                go_upto_region 17 with (fail)
                rw [← HV4.out]
                have hpk4 := fun w => mpick_any w d.less 4 (by omega) (by omega) hzk.less
                go_wp2_with fail
                refine (hpk4 _).mono ?_
                rintro e w4 ⟨⟨k4, hk4, rfl⟩, rfl⟩
                have hwr : IntKind.i64.wrap (t - (k4 : Int)) = t - (k4 : Int) := IntWalk.i64_in _ (by omega)
                have hwr2 : wrap64 (t - (k4 : Int)) = t - (k4 : Int) := by unfold wrap64; omega
                have ht1 := duo_answer ((hM.fresh (Y := fun k => X k ∨ k = g) (fun k hk => hk.elim .inl fun h => .inr (by omega))).nw qw4) (Nat.le_trans hsz qw4.size) (fun k hk => hk.elim (fun h => Nat.lt_of_lt_of_le (hXlt k h) qw4.size) fun h => by omega) (t - (k4 : Int)) hinv (by omega) d.an (some ⟨g, 0, none⟩) (d.an.bytes.length + 12) (lent_sl hLe4) (by omega)
                have told := inv_answer hinv (t - (k4 : Int)) d.an.err d.an.bytes
                obtain ⟨r, hr⟩ : ∃ r, answerM s (t - (k4 : Int)) d.an.err d.an.bytes = r := ⟨_, rfl⟩
                rw [hr] at ht1 told
                have HR := Lib.hid hr
                clear hr
                go_wp2_with (refine wl_load_cells rfl 41 _ rfl gI 0 rfl (anA d.an (some ⟨g, 0, none⟩) (d.an.bytes.length + 12)).toList _ hcl4 Tryz.underlying41 rfl an_size ?_)
                refine ht1.mono ?_
                rintro e w5 ⟨va, rfl, ta, hM5, f5⟩
                have g5 : ¬ wr.heap.size = gm := by omega
                have qw4s := qw4.size
                have d5 := d4.fr f5 g5
                have hcl5 : ∀ p u, ((anA d.an d.A d.c).toList)[p]? = some u → w5.cell? ⟨wr.heap.size, 11 + p, none⟩ = some u := Blk.cells_in d5 11 9
                have han := answered_any w5 d.an d.A d.c
                go_wp2_with (refine wl_load_cells rfl 41 _ rfl wr.heap.size 11 rfl (anA d.an d.A d.c).toList _ hcl5 Tryz.underlying41 rfl an_size ?_)
                refine han.mono ?_
                rintro e w6 ⟨rfl, q6⟩
                have f45 : Fr (fun k => k = gm ∨ k = gr) V4 w6 := (f5.mono fun b hb => .inl (.inl hb)).tr (Nw.on q6)
                have hgmw2 : w.heap.size ≤ wr.heap.size := hNw.size
                have hby6 := ((hbyF.fr (hNw.tr qw4) (fun _ _ h => h)).fr f5 (fun b hb e => by omega)).fr q6 (fun _ _ h => h)
                have ht2 := duo_ranswer ((((hR.fresh (Y := fun k => X k ∨ k = g) (fun k hk => hk.elim .inl fun h => .inr (by omega))).nw qw4).fr f5 (fun h => hne h.symm) (fun k h hB => by have := hm3.lt; omega)).nw q6) (Nat.le_trans hsz (Nat.le_trans qw4s (Nat.le_trans f5.size q6.size))) (fun k hk => hk.elim (fun h => Nat.lt_of_lt_of_le (hXlt k h) (Nat.le_trans qw4.size (Nat.le_trans f5.size q6.size))) fun h => by have := f5.size; have := q6.size; omega) (t - (k4 : Int)) hinv (by omega) d.an d.A d.c hby6 (fun h => by omega) (by omega)
                rw [HR.out] at ht2
                go_wp2_with fail
                refine ht2.mono ?_
                rintro e w7 ⟨vb, rfl, tb, hR7, f7⟩
                have f47 : Fr (fun k => k = gm ∨ k = gr) V4 w7 := f45.tr (f7.mono fun b hb => .inl (.inr hb))
                have f5s := f5.size
                have q6s := q6.size
                have f7s := f7.size
                have hgg : g ≠ gm ∧ g ≠ gr := by omega
                have y7 := y4.fr f47 (by omega)
                have d7 := d4.fr f47 (by omega)
                have hLe7 : Lent w7 (some ⟨g, 0, none⟩) d.an.bytes := hLe4.fr f47 (fun k hk h => by have h2 : k = g := (inA_some _ _).1 hk; omega)
                have hby7 := hby6.fr f7 (fun b hb e => by omega)
                have y78 : w7.cell? ⟨gI, 8, none⟩ = some (.slice (some ⟨g, 0, none⟩) d.an.bytes.length (d.an.bytes.length + 12)) := by simpa using y7.cell 8
                have x719 : w7.cell? ⟨wr.heap.size, 19, none⟩ = some (.slice d.A d.an.bytes.length d.c) := by simpa using d7.cell 19
                have hkp := kept_u8 w7 _ (some ⟨g, 0, none⟩) d.A d.c d.an.bytes hLe7 hby7 (by omega)
                go_wp2_with fail
                refine hkp.mono ?_
                rintro e w8 ⟨rfl, q8⟩
                have hLe8 : Lent w8 (some ⟨g, 0, none⟩) d.an.bytes := hLe7.fr (q8.fr (fun _ => False)) (fun _ _ h => h)
                have y8 := y7.fr (q8.fr (fun _ => False)) (fun h => h)
                have y88 : w8.cell? ⟨gI, 8, none⟩ = some (.slice (some ⟨g, 0, none⟩) d.an.bytes.length (d.an.bytes.length + 12)) := by simpa using y8.cell 8
                have hov := over_u8 w8 g d.an.bytes hLe8 (by omega)
                go_wp2_with fail
                refine hov.mono ?_
                rintro e w9 ⟨rfl, f9⟩
                have f79 : Fr (fun k => k = g) w7 w9 := (q8.fr _).tr f9
                have f59 : Fr (fun k => k = gr ∨ k = g) w5 w9 := ((Nw.on q6).tr (f7.mono fun b hb => .inl (.inl hb))).tr (f79.mono fun b hb => .inl (.inr hb))
                have f49 : Fr (fun k => k = gm ∨ k = gr ∨ k = g) V4 w9 := (f5.mono fun b hb => .inl (.inl hb)).tr (f59.mono fun b hb => .inl (.inr hb))
                have f9s := f79.size
                have f09 : Fr (fun k => k = gm ∨ k = gr ∨ k = g) wr w9 := (Nw.on qw4).tr f49
                go_wp2_with fail
                go_meet
                refine ⟨r, told, (ta.fr f59 (fun k h => by omega)).back qw4s, (tb.fr f79 (fun k h => ⟨by omega, .inr h⟩)).back (by omega), ?_, ?_, ?_⟩
                · exact (hM5.fr f59 (by omega) (fun k h hB => h.elim (fun h => by have := hr3.lt; omega) .inr)).fresh fun k hk => .inl (.inl hk)
                · exact (hR7.fr f79 (by omega) (fun k h hB => .inr h)).fresh fun k hk => .inl (.inl hk)
                · exact f09.mono fun b hb => by rcases hb with h | h | h; exact .inl (.inl h); exact .inl (.inr h); exact .inr (by omega)
            case rest =>
              obtain ⟨r, hT, tv, td, hM2, hR2, f2⟩ := hcut
              obtain ⟨w0, hw0⟩ : ∃ w0, w0 = wc := ⟨_, rfl⟩
              rw [← hw0] at tv td hM2 hR2 f2 ⊢
              have hInLt : ∀ b, InR m A b → b < wr.heap.size := fun b ⟨k, hk, hb⟩ => (hrw k hk).lt b hb
              have hgm3 := hm3.lt
              have hgr3 := hr3.lt
              have hszw := hfr.size
              obtain ⟨I, hI, _⟩ := id hM2
              obtain ⟨IR, hIR, _⟩ := id hR2
              obtain ⟨Id, hId, _⟩ := td
              obtain ⟨x, Ab, cb, a1, Ao, co, sn, h1, _, hxw, _⟩ := id hIR
              have hwk := mworks_any w0 I gm r.1 hI
              obtain ⟨wk, n1, n2, hwn, hwb, hwx⟩ : ∃ wk n1 n2, worksN r.1 = (n1, n2) ∧ r.1.works.isSome = wk ∧ ((wk = true ∧ n1 = x.num ∧ n2 = x.stage) ∨ (wk = false ∧ n1 = 0 ∧ n2 = 0)) := by
                cases hwo : r.1.works with
                | none => exact ⟨false, 0, 0, by unfold worksN; rw [hwo], rfl, .inr ⟨rfl, rfl, rfl⟩⟩
                | some y =>
                  have := hxw y hwo
                  subst this
                  exact ⟨true, x.num, x.stage, by unfold worksN; rw [hwo], rfl, .inl ⟨rfl, rfl, rfl⟩⟩
              rw [hwn] at hwk
              rw [hwb] at h1
              have hkinds : ∀ a ∈ r.2, 0 ≤ a.ord.kind ∧ a.ord.kind ≤ 255 := fun a ha => hT.1.kinds a (hT.2 a ha)
              have htags : ∀ a ∈ r.2, 0 ≤ a.tag ∧ a.tag ≤ first + 1 + (j : Int) + 1 := fun a ha => hT.1.tag a (hT.2 a ha)
              have hinv2 := hT.1
              clear hw0 hT hxw hI hIR hwn hwb d1 hth hone HW0 HW1 hcell hpk k0 hsk hzk HD hby q0 q1
              go_wp2_with fail
              refine hwk.mono ?_
              rintro e w4 ⟨rfl, q4⟩
              have hs := same27_any w4 wr wr Id r.2 _ _ (tv.fr q4 (fun k h => h.elim)) (hId.fr q4 (fun k h => h.elim)) hkinds
              have h14 := h1.fr q4 (fun h => h)
              go_upto_region 24 with (fail)
              go_cut [140] (fun v wx => v = .bool false ∧ Nw w4 wx)
              case first =>
                rcases hwx with ⟨rfl, rfl, rfl⟩ | ⟨rfl, rfl, rfl⟩
                · go_wp2_with fail
                  refine hs.mono ?_
                  rintro e w5 ⟨rfl, q5⟩
                  have h15 := h14.fr q5 (fun h => h)
                  have y0 : w5.cell? ⟨gr, 0, none⟩ = some (.int .i64 x.num) := by simpa using h15.cell 0
                  have y7 : w5.cell? ⟨gr, 7, none⟩ = some (.int .u8 x.stage) := by simpa using h15.cell 7
                  have y8 : w5.cell? ⟨gr, 8, none⟩ = some (.bool true) := by simpa using h15.cell 8
                  go_wp2_with fail
                  go_meet
                  exact ⟨rfl, q5⟩
                · go_wp2_with fail
                  refine hs.mono ?_
                  rintro e w5 ⟨rfl, q5⟩
                  have h15 := h14.fr q5 (fun h => h)
                  have y0 : w5.cell? ⟨gr, 0, none⟩ = some (.int .i64 x.num) := by simpa using h15.cell 0
                  have y7 : w5.cell? ⟨gr, 7, none⟩ = some (.int .u8 x.stage) := by simpa using h15.cell 7
                  have y8 : w5.cell? ⟨gr, 8, none⟩ = some (.bool false) := by simpa using h15.cell 8
                  go_wp2_with fail
                  go_meet
                  exact ⟨rfl, q5⟩
              case rest =>
                obtain ⟨rfl, q5⟩ := hcut
                obtain ⟨w5, hw5⟩ : ∃ w5, w5 = wc := ⟨_, rfl⟩
                rw [← hw5] at q5 ⊢
                clear hw5 hs hwx h14 h1
                have f5 : Fr (fun k => k = gm ∨ k = gr) wr w5 := f2.tr (Nw.on (q4.tr q5))
                have f35 : Fr (fun k => k = gm ∨ k = gr) w3 w5 := hfr.tr f5
                have ho5 := ho.fr f5 (fun k hk h => by have := hBr k hk; omega)
                have hrw5 := hrw.fr f5 (fun k hk b hb h => by have := hIn b ⟨k, hk, hb⟩; omega)
                have hM5 := hM2.nw (q4.tr q5)
                have hR5 := hR2.nw (q4.tr q5)
                rw [← HX.out] at hM5 hR5
                clear HX
                go_wp2_with fail
                rcases tv.fr (q4.tr q5) (fun k h => h.elim) with ⟨hr2, rfl⟩ | ⟨a, gA, A', c', hr2, rfl, hB, hO, hgA, hA'⟩
                · refine wp_loop_rounds 1 ?_
                  rw [rounds_succ]
                  go_wp2_with fail
                  go_roundw
                  case rel => exact ⟨j + 1, r.1, t, hlt, by go_num, rfl, by omega, hinv2.mono (by omega), hM5, hR5, ⟨m, A, N, cp, f', Br, cr, rfl, hm40, ho5, hrw5, hfar, hNs, hBr, hIn⟩, f35⟩
                  case measure => simp [intOf]; omega
                · have hta := htags a (by rw [hr2]; exact List.mem_singleton_self a)
                  have hbl : a.ord.bytes.length ≤ 1000000000 := by
                    rcases hId with ⟨h, _⟩ | ⟨a', g', A2, c2, J, h, _, _, _, hz, _⟩
                    · rw [hr2] at h; cases h
                    · rw [hr2] at h; injection h with h; rw [h]; exact hz
                  have c0 : w5.cell? ⟨gA, 0, none⟩ = some (.int .i64 a.tag) := by simpa using hB.cell 0
                  have c14 : w5.cell? ⟨gA, 14, none⟩ = some (.slice A' a.ord.bytes.length c') := by simpa using hB.cell 14
                  have hwrB : w3.heap.size ≤ wr.heap.size := hszw
                  have hArow : ∀ b, inA A' b → ¬ InR m A b := fun b hb h => by have := hA' b hb; have := hInLt b h; omega
                  have hAB : ∀ b, inA A' b → w3.heap.size ≤ b := fun b hb => by have := hA' b hb; omega
                  have f35s := f35.size
                  clear tv hId hB hkinds htags
                  refine wp_loop_rounds 2 ?_
                  rw [rounds_succ]
                  by_cases hl0 : (0 : Int) < (a.ord.bytes.length : Int)
                  · by_cases hm : (m : Int) < 40
                    · go_wp2_with (at_builtin; refine wl_append rfl _ _ _ rfl 24 (.slice none 0 0) Tryz.underlying29 info_bytes rfl (by decide) rfl (ho5.alloc _) rfl (sl_new w5 39 [.slice A' a.ord.bytes.length c'] _ rfl) rfl (by simp [Value.oneCell']) (by omega) (by unfold maxLen; omega) ?_; intro B' c9 v4 ho4 hf4 hin4)
                      have hf4 : Fr (inA Br) (w5.alloc (.cells #[.slice A' a.ord.bytes.length c'] 39)) v4 := hf4
                      have hYs : ∀ k, rowsIn (.slice Br m cr) k ∨ rowsIn (.slice B' (m + 1) c9) k → rowsIn (.slice Br m cr) k ∨ (w5.alloc (.cells #[.slice A' a.ord.bytes.length c'] 39)).heap.size ≤ k := fun k hk => by
                        rcases hk with h | h
                        · exact .inl h
                        · rcases hin4 k (rowsIn_sl h) with h | h
                          · exact .inl ⟨Br, m, cr, rfl, h⟩
                          · exact .inr (Nat.le_of_eq h.symm)
                      have qa5 : Nw w5 (w5.alloc (.cells #[.slice A' a.ord.bytes.length c'] 39)) := (Fr.refl (fun _ => False) w5).alloc _
                      have hBr' : ∀ k, inA Br k → rowsIn (.slice Br m cr) k := fun k h => ⟨Br, m, cr, rfl, h⟩
                      have hM9 := (((hM5.nw qa5).fresh hYs).fr hf4 (fun h => by have := hBr _ h; omega) (fun k h _ => .inl (hBr' k h))).fresh (Y := rowsIn (.slice B' (m + 1) c9)) (fun k hk => .inl (.inr hk))
                      have hR9 := (((hR5.nw qa5).fresh hYs).fr hf4 (fun h => by have := hBr _ h; omega) (fun k h _ => .inl (hBr' k h))).fresh (Y := rowsIn (.slice B' (m + 1) c9)) (fun k hk => .inl (.inr hk))
                      have f39 : Fr (fun k => k = gm ∨ k = gr) w3 v4 := (f35.tr (Nw.on qa5)).trans hf4 (fun b hb => .inr (hBr b hb))
                      have hrow := RwAt.row (by omega) ho5 hrw5 hfar hNs hBr hIn hO hbl hAB hArow (Nat.le_trans hwrB f5.size) ho4 hf4 hin4
                      clear hf4 ho4 hin4 qa5 hYs
                      go_wp2_with fail
                      rw [rounds_succ]
                      go_wp2_with fail
                      go_roundw
                      case rel => exact ⟨j + 1, r.1, a.tag, hlt, by go_num, rfl, by omega, hinv2.mono (by omega), hM9, hR9, hrow, f39⟩
                      case measure => simp [intOf]; omega
                    · go_wp2_with fail
                      rw [rounds_succ]
                      go_wp2_with fail
                      go_roundw
                      case rel => exact ⟨j + 1, r.1, a.tag, hlt, by go_num, rfl, by omega, hinv2.mono (by omega), hM5, hR5, ⟨m, A, N, cp, f', Br, cr, rfl, hm40, ho5, hrw5, hfar, hNs, hBr, hIn⟩, f35⟩
                      case measure => simp [intOf]; omega
                  · go_wp2_with fail
                    rw [rounds_succ]
                    go_wp2_with fail
                    go_roundw
                    case rel => exact ⟨j + 1, r.1, a.tag, hlt, by go_num, rfl, by omega, hinv2.mono (by omega), hM5, hR5, ⟨m, A, N, cp, f', Br, cr, rfl, hm40, ho5, hrw5, hfar, hNs, hBr, hIn⟩, f35⟩
                    case measure => simp [intOf]; omega
          · have hi0 : ¬ (j : Int) < (l.length : Int) := by omega
            have hap := apartBytes_any wr (inA Br) Br cr m A N cp f' ho.sl hrw hfar (by omega) (fun k hk => Nat.le_trans (hNs k hk) (by omega))
            go_wp2_with fail
            refine hap.mono ?_
            rintro e w5 ⟨rfl, f5⟩
            go_wp2_with fail
            refine (haw _).mono ?_
            rintro e w6 ⟨rfl, q6⟩
            go_wp2_with fail
            go_ret
            exact ⟨rfl, (hNw.new f5 (fun b hb => Nat.le_trans hq03.size (hIn b hb))).tr q6⟩
end Go.Proofs.YtfglibkffcogcaaGreat
