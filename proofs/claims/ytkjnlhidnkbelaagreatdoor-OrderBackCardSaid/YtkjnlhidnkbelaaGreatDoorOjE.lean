/- Orders: put, and got as they were: the walk. (Printed by genjc.py.) -/
import Derived.Test.YtkjnlhidnkbelaaGreatDoorOjC
namespace Go.Proofs.YtkjnlhidnkbelaaGreatDoor
open Go Go.RowKit
set_option linter.unusedVariables false
set_option linter.unusedSimpArgs false
set_option maxRecDepth 1000000 in
set_option maxHeartbeats 16000000 in
theorem back22_walk (w : World) (F : Nat → Prop) (x : OrdF) (p : Pl) (hi : OrdIn w F x p) (hkd : 0 ≤ x.kind ∧ x.kind ≤ 255) (hrz : RdgSz x.reads) (haz : ActSz x.acts) (hal : x.acts.length ≤ 3000000000000) (hlo : x.lo.length ≤ 140737488355328) (hhi : x.hi.length ≤ 140737488355328)
    (y : AnsF) (q : Pl) (hj : AnsIn w F y q) (hryz : RdgSz y.reads) (A : Option Addr) (c : Nat) (bs : List UInt8) (hs : Sl w F A (bs.map B8)) :
    Calls Tryz.prog 4 #[.agg (ofA (U8V x.kind) x p), .agg (afA y q), .slice A bs.length c] w fun e w' => e = .returned (.bool true) ∧ Nw w w' := by
  have haw := fun w => awake22_any w
  obtain ⟨X, hX⟩ : ∃ X, X = w.heap.size := ⟨_, rfl⟩
  obtain ⟨Y, hY⟩ : ∃ Y, Y = w.heap.size + 1 := ⟨_, rfl⟩
  obtain ⟨W0, hW0⟩ : ∃ W0, W0 = (w.alloc (.cells (ofA (U8V x.kind) x p) 31)).alloc (.cells (afA y q) 41) := ⟨_, rfl⟩
  have q0 : Nw w W0 := by rw [hW0]; exact ((Fr.refl (fun _ => False) w).alloc _).alloc _
  have x0 : Blk W0 X 31 (ofA (U8V x.kind) x p) := by rw [hW0, hX]; exact (Blk.new w _ _).alloc _
  have y0 : Blk W0 Y 41 (afA y q) := by rw [hW0, hY]; simpa using Blk.new (w.alloc (.cells (ofA (U8V x.kind) x p) 31)) 41 (afA y q)
  obtain ⟨n, hn⟩ : ∃ n, bs.length = n := ⟨_, rfl⟩
  have gx := fun w' (f : Nw w w') => great22_any w' F p.a p.r p.b p.ca x.reads.length p.cr x.bytes.length p.cb x.acts x.lo x.hi (hi.acts.fr f (fun _ _ h => h)) hal haz hlo hhi
  have gy := fun w' => great22_any w' (fun _ => False) none q.r q.b 0 y.reads.length q.cr y.bytes.length q.cb [] [] [] (.inl rfl) (Nat.zero_le _) (fun a h => by cases h) (Nat.zero_le _) (Nat.zero_le _)
  have gy : ∀ w', Calls Tryz.prog 14 #[.slice none 0 0, .slice q.r y.reads.length q.cr, .slice q.b y.bytes.length q.cb, .agg #[.string ⟨#[]⟩, .string ⟨#[]⟩]] w' fun e w'' => Great22 w' [] y.reads.length y.bytes.length 0 e w'' := gy
  have gb := fun w' (h : bs.length ≤ 1000000000) (f : Nw w w') => oget2 w' F A c bs (hs.fr f (fun _ _ h => h)) h
  have ga := fun w' (h : bs.length ≤ 1000000000) (f : Nw w w') => ogetAns2 w' F A c bs (hs.fr f (fun _ _ h => h)) h
  simp only [hn] at gb ga ⊢
  have HN := Lib.hid hn
  have GX := Lib.hid gx
  have GY := Lib.hid gy
  have GB := Lib.hid gb
  have GA := Lib.hid ga
  have HX := Lib.hid hX
  have HY := Lib.hid hY
  have HW0 := Lib.hid hW0
  clear hn gx gy gb ga hX hY hW0
  go_enter Tryz.func4, Tryz.ntmps4
  go_upto_region 1 with (fail)
  rw [← HW0.out, ← HY.out, ← HX.out]
  go_upto_region 3 with (go_at_call 13; refine (haw _).mono ?_; rintro e w1 ⟨rfl, q1⟩)
  have Q1 := q0.tr q1
  have x1 := x0.fr q1 (fun h => h)
  have y1 := y0.fr q1 (fun h => h)
  have c4 : w1.cell? ⟨X, 4, none⟩ = some (.slice p.a x.acts.length p.ca) := by simpa using x1.cell 4
  have c6 : w1.cell? ⟨X, 6, none⟩ = some (.slice p.r x.reads.length p.cr) := by simpa using x1.cell 6
  have c12 : w1.cell? ⟨X, 12, none⟩ = some (.slice p.b x.bytes.length p.cb) := by simpa using x1.cell 12
  have csp := Blk.cells_in x1 10 2
  go_wp2_with (refine wl_load_cells rfl 29 _ rfl X 10 rfl [StrV x.lo, StrV x.hi] _ csp Tryz.underlying29 rfl (by kernel_rfl) ?_)
  refine (GX.out _ Q1).mono ?_
  rintro e w2 ⟨b1, rfl, hb1, q2⟩
  have Q2 := Q1.tr q2
  have HB1 := Lib.hid hb1
  clear hb1 c4 c6 c12 csp
  cases b1 with
  | true =>
    go_wp2_with fail
    go_ret
    exact ⟨rfl, Q2⟩
  | false =>
  obtain ⟨⟨hal2, _⟩, hrl, hbl, hsp⟩ := HB1.out rfl
  have hszx : OrdSz x := ⟨hkd, ⟨by omega, haz⟩, ⟨by omega, hrz⟩, by omega, by omega, by omega⟩
  have x2 := x1.fr q2 (fun h => h)
  have y2 := y1.fr q2 (fun h => h)
  have c5 : w2.cell? ⟨Y, 5, none⟩ = some (.slice q.r y.reads.length q.cr) := by simpa using y2.cell 5
  have c8 : w2.cell? ⟨Y, 8, none⟩ = some (.slice q.b y.bytes.length q.cb) := by simpa using y2.cell 8
  clear x0 y0 x1 y1 GX HB1
  go_wp2_with fail
  refine (GY.out _).mono ?_
  rintro e w3 ⟨b2, rfl, hb2, q3⟩
  have Q3 := Q2.tr q3
  have HB2 := Lib.hid hb2
  clear hb2 c5 c8
  cases b2 with
  | true =>
    go_wp2_with fail
    go_ret
    exact ⟨rfl, Q3⟩
  | false =>
  obtain ⟨_, hryl, hybl, _⟩ := HB2.out rfl
  have hszy : AnsSz y := ⟨⟨by omega, hryz⟩, by omega⟩
  have x3 := x2.fr q3 (fun h => h)
  have y3 := y2.fr q3 (fun h => h)
  clear x2 y2 GY HB2
  by_cases h5 : n ≤ 5000
  case neg =>
    have h5i : (5000 : Int) < (n : Int) := by omega
    have h5d : decide ((5000 : Int) < (n : Int)) = true := decide_eq_true h5i
    go_wp2_with fail
    go_ret
    exact ⟨rfl, Q3⟩
  have h5i : ¬ (5000 : Int) < (n : Int) := by omega
  have h5d : decide ((5000 : Int) < (n : Int)) = false := decide_eq_false h5i
  have hp := oput_any w3 F x p (hi.fr Q3 (fun _ _ h => h)) hszx
  have hpa := fun w' (f : Nw w w') => oputAns_any w' F y q (hj.fr f (fun _ _ h => h)) hszy
  obtain ⟨ok, hok⟩ : ∃ ok, ordOk x = ok := ⟨_, rfl⟩
  obtain ⟨ak, hak⟩ : ∃ ak, ansOk y = ak := ⟨_, rfl⟩
  obtain ⟨po, hpo⟩ : ∃ po, (if ordOk x = true then some (ordB x) else none) = po := ⟨_, rfl⟩
  obtain ⟨pa, hpao⟩ : ∃ pa, (if ansOk y = true then some (ansB y) else none) = pa := ⟨_, rfl⟩
  rw [hpo] at hp
  simp only [hpao] at hpa
  obtain ⟨S, hS⟩ : ∃ S, (putOut po).1 = S := ⟨_, rfl⟩
  obtain ⟨es, hes⟩ : ∃ es, (putOut po).2 = es := ⟨_, rfl⟩
  obtain ⟨ns, hns⟩ : ∃ ns, S.length = ns := ⟨_, rfl⟩
  obtain ⟨T, hT⟩ : ∃ T, (putOut pa).1 = T := ⟨_, rfl⟩
  obtain ⟨et, het⟩ : ∃ et, (putOut pa).2 = et := ⟨_, rfl⟩
  obtain ⟨nt, hnt⟩ : ∃ nt, T.length = nt := ⟨_, rfl⟩
  have fx : (ok = true → es = 0 ∧ 1 ≤ ns ∧ ns ≤ 1000000 ∧ BackO x S) ∧ (ok = false → es = 2 ∧ ns = 0) := by
    rw [← hns, ← hS, ← hes, ← hpo, ← hok]
    refine ⟨fun h => ?_, fun h => ?_⟩
    · rw [if_pos h]; exact ⟨rfl, ordB_pos x, ordB_most2 h, backO h⟩
    · rw [if_neg (by rw [h]; simp)]; exact ⟨rfl, rfl⟩
  have fy : (ak = true → et = 0 ∧ 1 ≤ nt ∧ nt ≤ 1000000 ∧ BackA y T) ∧ (ak = false → et = 2 ∧ nt = 0) := by
    rw [← hnt, ← hT, ← het, ← hpao, ← hak]
    refine ⟨fun h => ?_, fun h => ?_⟩
    · rw [if_pos h]; exact ⟨rfl, ansB_pos y, ansB_most h, backA h⟩
    · rw [if_neg (by rw [h]; simp)]; exact ⟨rfl, rfl⟩
  have hp2 : Calls Tryz.prog 9 #[.agg (ofA (U8V x.kind) x p)] w3 fun e w' => ∃ A c, e = .returned (.tuple #[.slice A ns c, .int .i64 es]) ∧ Own w' 5 1 A ns c (S.map B8) ∧ Nw w3 w' := hp.mono fun e w' h => by
    obtain ⟨A, c, h1, h2, h3, _⟩ := h.out
    rw [hS, hes, hns] at h1
    rw [hS, hns] at h2
    exact ⟨A, c, h1, h2, h3⟩
  have hpa2 : ∀ w', Nw w w' → Calls Tryz.prog 15 #[.agg (afA y q)] w' fun e w'' => ∃ A c, e = .returned (.tuple #[.slice A nt c, .int .i64 et]) ∧ Own w'' 5 1 A nt c (T.map B8) ∧ Nw w' w'' := fun w' f => (hpa w' f).mono fun e w'' h => by
    obtain ⟨A, c, h1, h2, h3, _⟩ := h.out
    rw [hT, het, hnt] at h1
    rw [hT, hnt] at h2
    exact ⟨A, c, h1, h2, h3⟩
  have HOK := Lib.hid hok
  have HAK := Lib.hid hak
  have HNS := Lib.hid hns
  have HNT := Lib.hid hnt
  have FX := Lib.hid fx
  have FY := Lib.hid fy
  have HPA := Lib.hid hpa2
  clear hp hpa hok hak hpo hpao hS hes hns hT het hnt fx fy hpa2
  go_upto_region 6 with (first | (refine wpList_load_row rfl 31 _ rfl X rfl 31 _ (0, 0) _ x3 Tryz.underlying31 rfl ord_size ?_) | (go_at_call 9; refine hp2.mono ?_; rintro e w5 ⟨As, cs, rfl, os, q5⟩))
  have Q5 := Q3.tr q5
  have y5 := y3.fr q5 (fun h => h)
  go_upto_region 7 with (first | (refine wpList_load_row rfl 41 _ rfl Y rfl 41 _ (0, 0) _ y5 Tryz.underlying41 rfl ans_size ?_) | (go_at_call 15; refine (HPA.out _ Q5).mono ?_; rintro e w6 ⟨At, ct, rfl, ot, q6⟩))
  have Q6 := Q5.tr q6
  have os6 := os.fr q6 (fun _ _ h => h)
  have x6 := (x3.fr q5 (fun h => h)).fr q6 (fun h => h)
  have y6 := y5.fr q6 (fun h => h)
  have i6 := hi.fr Q6 (fun _ _ h => h)
  have j6 := hj.fr Q6 (fun _ _ h => h)
  clear hp2 HPA x3 y3 y5 os q5 q6 Q5 Q3 Q2 Q1 q0 q1 q2 q3
  go_cut [94] (fun v wx => v = .bool false ∧ Nw w6 wx)
  case first =>
    obtain ⟨B7, hB7⟩ : ∃ B, B = w6.heap.size := ⟨_, rfl⟩
    obtain ⟨V7, hV7⟩ : ∃ V, V = w6.alloc (.cells (ofA (U8V x.kind) x p) 31) := ⟨_, rfl⟩
    have qv7 : Nw w6 V7 := by rw [hV7]; exact (Fr.refl (fun _ => False) _).alloc _
    have hr := oRight_any V7 _ B7 x p (by rw [hV7, hB7]; exact Blk.new w6 _ _) (i6.fr qv7 (fun _ _ h => h)) hszx
    have hso := fun w' (f : Nw w6 w') => oSound_any (w'.alloc (.cells (afA y q) 41)) _ w'.heap.size y q (Blk.new w' _ _) (j6.fr (f.alloc _) (fun _ _ h => h)) hszy
    rw [HOK.out] at hr
    simp only [HAK.out] at hso
    have HB7 := Lib.hid hB7
    have HV7 := Lib.hid hV7
    have HSO := Lib.hid hso
    clear hB7 hV7 hso
    have tac_ : True := trivial
    cases ok <;> cases ak
    · obtain ⟨rfl, rfl⟩ := FX.out.2 rfl
      obtain ⟨rfl, rfl⟩ := FY.out.2 rfl
      go_wp2_with (first | (refine wpList_load_row rfl 31 _ rfl X rfl 31 _ (0, 0) _ x6 Tryz.underlying31 rfl ord_size ?_) | (go_at_call 11; rw [← HB7.out, ← HV7.out]; refine hr.mono ?_; rintro e w7 ⟨rfl, q7⟩; have y7 := (y6.fr qv7 (fun h => h)).fr q7 (fun h => h)) | (refine wl_row_want (by rfl) 41 _ rfl Y rfl 41 _ y7 _ Tryz.underlying41 rfl ans_size ?_) | (go_at_call 12; refine (HSO.out _ (qv7.tr q7)).mono ?_; rintro e w8 ⟨rfl, q8⟩))
      go_meet
      exact ⟨rfl, (qv7.tr q7).tr ((Fr.refl (fun _ => False) w7).alloc _ |>.tr q8)⟩
    · obtain ⟨rfl, rfl⟩ := FX.out.2 rfl
      obtain ⟨rfl, hm1, hm2, hbm⟩ := FY.out.1 rfl
      have pm : decide ((0 : Int) < (nt : Int)) = true := decide_eq_true (by omega)
      have pm2 : (0 : Int) < (nt : Int) := by omega
      have pm3 : 0 < nt := by omega
      go_wp2_with (first | (refine wpList_load_row rfl 31 _ rfl X rfl 31 _ (0, 0) _ x6 Tryz.underlying31 rfl ord_size ?_) | (go_at_call 11; rw [← HB7.out, ← HV7.out]; refine hr.mono ?_; rintro e w7 ⟨rfl, q7⟩; have y7 := (y6.fr qv7 (fun h => h)).fr q7 (fun h => h)) | (refine wl_row_want (by rfl) 41 _ rfl Y rfl 41 _ y7 _ Tryz.underlying41 rfl ans_size ?_) | (go_at_call 12; refine (HSO.out _ (qv7.tr q7)).mono ?_; rintro e w8 ⟨rfl, q8⟩))
      go_meet
      exact ⟨rfl, (qv7.tr q7).tr ((Fr.refl (fun _ => False) w7).alloc _ |>.tr q8)⟩
    · obtain ⟨rfl, hn1, hn2, hbk⟩ := FX.out.1 rfl
      obtain ⟨rfl, rfl⟩ := FY.out.2 rfl
      have pn : decide ((0 : Int) < (ns : Int)) = true := decide_eq_true (by omega)
      have pn2 : (0 : Int) < (ns : Int) := by omega
      have pn3 : 0 < ns := by omega
      go_wp2_with (first | (refine wpList_load_row rfl 31 _ rfl X rfl 31 _ (0, 0) _ x6 Tryz.underlying31 rfl ord_size ?_) | (go_at_call 11; rw [← HB7.out, ← HV7.out]; refine hr.mono ?_; rintro e w7 ⟨rfl, q7⟩; have y7 := (y6.fr qv7 (fun h => h)).fr q7 (fun h => h)) | (refine wl_row_want (by rfl) 41 _ rfl Y rfl 41 _ y7 _ Tryz.underlying41 rfl ans_size ?_) | (go_at_call 12; refine (HSO.out _ (qv7.tr q7)).mono ?_; rintro e w8 ⟨rfl, q8⟩))
      go_meet
      exact ⟨rfl, (qv7.tr q7).tr ((Fr.refl (fun _ => False) w7).alloc _ |>.tr q8)⟩
    · obtain ⟨rfl, hn1, hn2, hbk⟩ := FX.out.1 rfl
      obtain ⟨rfl, hm1, hm2, hbm⟩ := FY.out.1 rfl
      have pn : decide ((0 : Int) < (ns : Int)) = true := decide_eq_true (by omega)
      have pn2 : (0 : Int) < (ns : Int) := by omega
      have pn3 : 0 < ns := by omega
      have pm : decide ((0 : Int) < (nt : Int)) = true := decide_eq_true (by omega)
      have pm2 : (0 : Int) < (nt : Int) := by omega
      have pm3 : 0 < nt := by omega
      go_wp2_with (first | (refine wpList_load_row rfl 31 _ rfl X rfl 31 _ (0, 0) _ x6 Tryz.underlying31 rfl ord_size ?_) | (go_at_call 11; rw [← HB7.out, ← HV7.out]; refine hr.mono ?_; rintro e w7 ⟨rfl, q7⟩; have y7 := (y6.fr qv7 (fun h => h)).fr q7 (fun h => h)) | (refine wl_row_want (by rfl) 41 _ rfl Y rfl 41 _ y7 _ Tryz.underlying41 rfl ans_size ?_) | (go_at_call 12; refine (HSO.out _ (qv7.tr q7)).mono ?_; rintro e w8 ⟨rfl, q8⟩))
      go_meet
      exact ⟨rfl, (qv7.tr q7).tr ((Fr.refl (fun _ => False) w7).alloc _ |>.tr q8)⟩
  case rest =>
    obtain ⟨rfl, hcut⟩ := hcut
    obtain ⟨w8, hw8⟩ : ∃ w8, w8 = wc := ⟨_, rfl⟩
    rw [← hw8] at hcut ⊢
    clear hw8
    have Q8 := Q6.tr hcut
    have os8 := os6.fr hcut (fun _ _ h => h)
    have ot8 := ot.fr hcut (fun _ _ h => h)
    have x8 := x6.fr hcut (fun h => h)
    have y8 := y6.fr hcut (fun h => h)
    have i8 := i6.fr hcut (fun _ _ h => h)
    have j8 := j6.fr hcut (fun _ _ h => h)
    clear os6 ot x6 y6 i6 j6 hcut
    go_upto_if 96 with (fail)
    go_cut [] (fun wx => Nw w8 wx)
    case first =>
      rename_i _ _ hj hk
      exact back_blk1 w8 F x p hkd X Y As ns cs es S ok os8 x8 i8 hszx HNS FX _ _ _ hj hk
    case rest =>
      obtain ⟨w9x, hw9x⟩ : ∃ w9x, w9x = wc := ⟨_, rfl⟩
      rw [← hw9x] at hcut ⊢
      clear hw9x
      have Q9 := Q8.tr hcut
      have ot9 := ot8.fr hcut (fun _ _ h => h)
      have y9 := y8.fr hcut (fun h => h)
      have j9 := j8.fr hcut (fun _ _ h => h)
      clear os8 ot8 x8 y8 i8 j8 hcut Q8 FX
      go_upto_if 138 with (fail)
      go_cut [] (fun wx => Nw w9x wx)
      case first =>
        rename_i _ _ hj hk
        exact back_blk2 w9x F y q X Y At nt ct et T ak ot9 y9 j9 hszy HNT FY _ _ _ hj hk
      case rest =>
        obtain ⟨wA, hwA⟩ : ∃ wA, wA = wc := ⟨_, rfl⟩
        rw [← hwA] at hcut ⊢
        clear hwA
        have QA := Q9.tr hcut
        clear ot9 y9 j9 hcut Q9 FY
        have hin : ∀ x, ordGet bs = some x → ordOk x = true ∧ ordB x = bs := fun x h => ordGet_inv h
        have hia : ∀ x, ansGet bs = some x → ansOk x = true ∧ ansB x = bs := fun x h => ansGet_inv h
        have gb := GB.out
        have ga := GA.out
        have hbn : n ≤ 1000000000 := by omega
        generalize ordGet bs = ro at gb hin
        generalize ansGet bs = ra at ga hia
        have hsb : ∀ w' (F' : Nat → Prop) A' c', Nw w w' → Sl w' F' A' (bs.map B8) → Calls Tryz.prog 23 #[.slice A' n c', .slice A n c] w' fun e w'' => e = .returned (.bool true) ∧ Nw w' w'' := fun w' F' A' c' f h => by
          have h1 := same_u8 w' F' F A' A c' c bs bs h (hs.fr f (fun _ _ h => h)) (by rw [HN.out]; omega)
          rw [HN.out] at h1
          exact h1.mono fun e w'' h => ⟨by simpa using h.1, h.2.fr _⟩
        have gb2 := fun w' (f : Nw w w') => gb w' hbn f
        have ga2 := fun w' (f : Nw w w') => ga w' hbn f
        have GB2 := Lib.hid gb2
        have GA2 := Lib.hid ga2
        have HIN := Lib.hid hin
        have HIA := Lib.hid hia
        have HSB := Lib.hid hsb
        clear gb ga gb2 ga2 GB GA hin hia hsb
        go_upto_region 22 with (go_at_call 16; refine (GB2.out _ QA).mono ?_; rintro e w1 ⟨pu, rfl, ou, q1⟩)
        obtain ⟨U, hU⟩ : ∃ U, U = w1.heap.size := ⟨_, rfl⟩
        obtain ⟨V1, hV1⟩ : ∃ V, V = w1.alloc (.cells (ofA (U8V (ordOr ro).kind) (ordOr ro) pu) 31) := ⟨_, rfl⟩
        have qv1 : Nw w1 V1 := by rw [hV1]; exact (Fr.refl (fun _ => False) _).alloc _
        have ub1 : Blk V1 U 31 (ofA (U8V (ordOr ro).kind) (ordOr ro) pu) := by rw [hV1, hU]; exact Blk.new _ _ _
        have HU := Lib.hid hU
        have HV1 := Lib.hid hV1
        rw [← HU.out, ← HV1.out]
        clear hU hV1
        have QB := QA.tr (q1.tr qv1)
        go_upto_region 23 with (go_at_call 20; refine (GA2.out _ QB).mono ?_; rintro e w2 ⟨pv, rfl, ov, q2⟩)
        obtain ⟨V, hV⟩ : ∃ V, V = w2.heap.size := ⟨_, rfl⟩
        obtain ⟨V2, hV2⟩ : ∃ V, V = w2.alloc (.cells (afA (ansOr ra) pv) 41) := ⟨_, rfl⟩
        have qv2 : Nw w2 V2 := by rw [hV2]; exact (Fr.refl (fun _ => False) _).alloc _
        have vb2 : Blk V2 V 41 (afA (ansOr ra) pv) := by rw [hV2, hV]; exact Blk.new _ _ _
        have HV := Lib.hid hV
        have HV2 := Lib.hid hV2
        rw [← HV.out, ← HV2.out]
        clear hV hV2
        have u2 : Nw V1 V2 := q2.tr qv2
        have QC := QB.tr u2
        have ou2 : OrdIn V2 _ (ordOr ro) pu := ou.in_.fr (qv1.tr u2) (fun _ _ h => h)
        have ov2 : AnsIn V2 _ (ansOr ra) pv := ov.in_.fr qv2 (fun _ _ h => h)
        have ub2 := ub1.fr u2 (fun h => h)
        clear GB2 GA2 ou ov ub1 QA QB q1 q2 qv1 qv2 u2
        go_upto_if 190 with (fail)
        go_cut [] (fun wx => Nw V2 wx)
        case first =>
          cases ro with
          | none =>
            have e4 : erOr (none : Option OrdF) = 4 := rfl
            rw [e4]
            go_wp2_with fail
            go_meet
            exact Fr.refl _ _
          | some u =>
            obtain ⟨huo, hub⟩ := HIN.out u rfl
            have e0 : erOr (some u) = 0 := rfl
            rw [e0]
            have hp := oput_any V2 _ u pu ou2 (OrdSz.small (ordOk_sm huo))
            rw [if_pos huo, hub] at hp
            have hp2 : Calls Tryz.prog 9 #[.agg (ofA (U8V u.kind) u pu)] V2 fun e w' => ∃ A c, e = .returned (.tuple #[.slice A n c, .int .i64 0]) ∧ Own w' 5 1 A n c (bs.map B8) ∧ Nw V2 w' := hp.mono fun e w' ⟨A, c, h1, h2, h3, _⟩ => by
              rw [HN.out] at h1 h2
              exact ⟨A, c, h1, h2, h3⟩
            have ub3 : Blk V2 U 31 (ofA (U8V u.kind) u pu) := ub2
            clear hp hub huo
            go_wp2_with (first | (refine wpList_load_row rfl 31 _ rfl U rfl 31 _ (0, 0) _ ub3 Tryz.underlying31 rfl ord_size ?_) | (go_at_call 9; refine hp2.mono ?_; rintro e w3 ⟨A3, c3, rfl, o3, q3⟩) | (go_at_call 23; refine (HSB.out w3 _ A3 c3 (QC.tr q3) o3.sl).mono ?_; rintro e w4 ⟨rfl, q4⟩))
            go_meet
            exact q3.tr q4
        case rest =>
          obtain ⟨wB, hwB⟩ : ∃ wB, wB = wc := ⟨_, rfl⟩
          rw [← hwB] at hcut ⊢
          clear hwB
          have QD := QC.tr hcut
          have vb3 := vb2.fr hcut (fun h => h)
          have ov3 := ov2.fr hcut (fun _ _ h => h)
          clear vb2 ov2 ou2 ub2 hcut
          cases ra with
          | none =>
            have e4 : erOr (none : Option AnsF) = 4 := rfl
            rw [e4]
            go_wp2_with fail
            go_ret
            exact ⟨rfl, QD⟩
          | some v =>
            obtain ⟨hvo, hvb⟩ := HIA.out v rfl
            have e0 : erOr (some v) = 0 := rfl
            rw [e0]
            have hp := oputAns_any wB _ v pv ov3 (ansSz_of hvo)
            rw [if_pos hvo, hvb] at hp
            have hp2 : Calls Tryz.prog 15 #[.agg (afA v pv)] wB fun e w' => ∃ A c, e = .returned (.tuple #[.slice A n c, .int .i64 0]) ∧ Own w' 5 1 A n c (bs.map B8) ∧ Nw wB w' := hp.mono fun e w' ⟨A, c, h1, h2, h3, _⟩ => by
              rw [HN.out] at h1 h2
              exact ⟨A, c, h1, h2, h3⟩
            have vb4 : Blk wB V 41 (afA v pv) := vb3
            clear hp hvb hvo
            go_wp2_with (first | (refine wpList_load_row rfl 41 _ rfl V rfl 41 _ (0, 0) _ vb4 Tryz.underlying41 rfl ans_size ?_) | (go_at_call 15; refine hp2.mono ?_; rintro e w3 ⟨A3, c3, rfl, o3, q3⟩) | (go_at_call 23; refine (HSB.out w3 _ A3 c3 (QD.tr q3) o3.sl).mono ?_; rintro e w4 ⟨rfl, q4⟩))
            go_ret
            exact ⟨rfl, (QD.tr q3).tr q4⟩
end Go.Proofs.YtkjnlhidnkbelaaGreatDoor
