/- LetterBack: the walk. (Printed by genlb.py.) -/
import Derived.Test.YtippdjaakcgeoaaGdH
import Derived.Test.YtippdjaakcgeoaaSmD
import Derived.Test.YtippdjaakcgeoaaKitB
import Derived.Test.YtippdjaakcgeoaaLaA
import Derived.Test.YtippdjaakcgeoaaLgA
import Derived.Test.YtippdjaakcgeoaaJwD
namespace Go.Proofs.Ytippdjaakcgeoaa
open Go Go.RowKit
set_option linter.unusedVariables false
set_option linter.unusedSimpArgs false
theorem letsB_many (l : List LetF) : l.length ≤ (letsB l).length := by
  have key : ∀ m : List LetF, m.length ≤ ((m.map letB).flatten).length := by
    intro m
    induction m with
    | nil => exact Nat.le_refl _
    | cons x m ih =>
      have := List.length_pos_iff.2 (letB_ne x)
      simp only [List.map_cons, List.flatten_cons, List.length_append, List.length_cons]
      omega
  have := key l
  unfold letsB
  rw [List.length_append]
  omega
theorem letsB_le (l : List LetM) (h : letsOk (l.map LetM.x) = true) (hl : l.length ≤ 3000) : (letsB (l.map LetM.x)).length ≤ 20000000000 := by
  have h1 := letsU_le l l.length (fun x hx => (letsOk_iff _).1 h _ (List.mem_map.2 ⟨x, hx, rfl⟩))
  have h2 := enc_len (l.map LetM.x).length
  have e : letsB (l.map LetM.x) = enc (l.map LetM.x).length ++ letsU l l.length := by
    unfold letsB letsU
    rw [List.take_length, List.map_map]
    rfl
  rw [e, List.length_append]
  omega
theorem letsB_snoc (l : List LetF) : ∃ a c, letsB l = a ++ [c] := by
  rcases List.eq_nil_or_concat (letsB l) with h | ⟨a, c, h⟩
  · exfalso
    unfold letsB at h
    have h1 := (List.append_eq_nil_iff.1 h).1
    have := enc_ne l.length
    exact this h1
  · exact ⟨a, c, by rw [h, List.concat_eq_append]⟩
set_option maxRecDepth 100000 in
set_option maxHeartbeats 2000000 in
theorem lback_walk (W : World) (F : Nat → Prop) (A : Option Addr) (c : Nat) (l : List LetM) (h : Sl W F A (letsC l)) (he : ∀ x ∈ l, LetIn W F x) (hbd : ∀ x ∈ l, LetBd x) (hln : l.length ≤ 1125899906842624) (A2 : Option Addr) (c2 : Nat) (b : List UInt8) (hb : Sl W F A2 (b.map B8)) :
    Calls Try.prog 5 #[.slice A l.length c, .slice A2 b.length c2] W fun e w' => e = .returned (.bool true) ∧ Nw W w' := by
  have hgr := fun w1 (q : Nw W w1) => great_any w1 F A c l (h.fr q (fun _ _ h => h)) (fun x hx => (he x hx).nw q) hbd hln
  have HGR := Lib.hid hgr
  clear hgr
  go_enter Try.func5, Try.ntmps5
  go_upto_region 3 with (go_at_call 21; refine (awake_any W).mono ?_; rintro e w1 ⟨rfl, q1⟩)
  go_wp2_with fail
  refine (HGR.out _ q1).mono ?_
  rintro e w2 ⟨gb, rfl, hgb, q2⟩
  have Q2 : Nw W w2 := q1.tr q2
  cases gb with
  | true =>
    go_wp2_with fail
    go_ret
    exact ⟨rfl, Q2⟩
  | false =>
    obtain ⟨hl3, hs3⟩ := hgb rfl
    have hz : ∀ x ∈ l, LetSz x := fun x hx => (hs3 x hx).sz (by omega)
    clear hgb hs3
    by_cases hb3 : b.length ≤ 3000
    case neg =>
      obtain ⟨nb, hnb⟩ : ∃ n, b.length = n := ⟨_, rfl⟩
      rw [hnb] at hb3 ⊢
      have hb4 : (3000 : Int) < (nb : Int) := by omega
      clear hnb hb3
      go_wp2_with fail
      go_ret
      exact ⟨rfl, Q2⟩
    have hget := lget_any w2 F A2 c2 b (hb.fr Q2 (fun _ _ h => h)) (by omega)
    rw [getP_eq] at hget
    have hb4 : ¬ (3000 : Int) < (b.length : Int) := by omega
    cases hm : letsGet headP b with
    | none =>
      rw [hm] at hget
      go_upto_region 10 with (go_at_call 28; refine hget.mono ?_; rintro e w3 ⟨q3, rfl⟩)
      have Qb := Q2.tr q3
      have hput := lPut_any w3 F A c l (h.fr Qb (fun _ _ h => h)) (fun x hx => (he x hx).nw Qb) hz (by omega)
      have hri : ∀ w5, Nw w3 w5 → Calls Try.prog 24 #[.slice A l.length c] w5 fun e w' => e = .returned (.bool (letsOk (l.map LetM.x))) ∧ Nw w5 w' := fun w5 q => lRight_any w5 F A c l (h.fr (Qb.tr q) (fun _ _ h => h)) (fun x hx => (he x hx).nw (Qb.tr q)) hz (by omega)
      cases hok : letsOk (l.map LetM.x) with
      | false =>
        rw [show letsPut (l.map LetM.x) = none from by unfold letsPut; rw [hok]; rfl] at hput
        rw [hok] at hri
        have HRI := Lib.hid hri
        clear hri
        go_upto_region 11 with (go_at_call 25; refine hput.mono ?_; rintro e w7 ⟨rfl, q7⟩)
        go_wp2_with (go_at_call 24; refine (HRI.out _ q7).mono ?_; rintro e w8 ⟨rfl, q8⟩)
        go_ret
        exact ⟨rfl, (Qb.tr q7).tr q8⟩
      | true =>
        have hlen : (l.map LetM.x).length ≤ 1073741824 := by rw [List.length_map]; omega
        have hself := letsGet_self headP_ok hok hlen
        have hmore := letsGet_more headP_ok hok hlen 0
        have hless := fun a ch e => letsGet_less headP_ok hok hlen a ch e
        have hbnd := letsB_le l hok hl3
        obtain ⟨s1, ch, hsc⟩ := letsB_snoc (l.map LetM.x)
        rw [show letsPut (l.map LetM.x) = some (letsB (l.map LetM.x)) from by unfold letsPut; rw [hok]; rfl] at hput
        rw [hok] at hri
        have hl1 := hless s1 ch hsc
        obtain ⟨S, hS⟩ : ∃ S, letsB (l.map LetM.x) = S := ⟨_, rfl⟩
        rw [hS] at hput hself hmore hbnd hsc
        simp only [PutTo] at hput
        obtain ⟨ns, hns⟩ : ∃ n, S.length = n := ⟨_, rfl⟩
        rw [hns] at hput hbnd
        obtain ⟨m, hm⟩ : ∃ m, s1.length = m := ⟨_, rfl⟩
        have hnm : ns = m + 1 := by rw [← hns, hsc, List.length_append, hm]; rfl
        have hposd : decide (0 < ns) = true := decide_eq_true (by omega)
        have hposn : 0 < ns := by omega
        have hpos : (0 : Int) < (ns : Int) := by omega
        have HNM := Lib.hid hnm
        have HRI := Lib.hid hri
        have HNS := Lib.hid hns
        have HSC := Lib.hid hsc
        have HM := Lib.hid hm
        clear hri hless hS hns hsc hm hok hnm
        go_upto_region 11 with (go_at_call 25; refine hput.mono ?_; rintro e w7 ⟨As, cs, rfl, os, q7, nms⟩)
        go_upto_region 13 with (go_at_call 24; refine (HRI.out _ q7).mono ?_; rintro e w8 ⟨rfl, q8⟩)
        have Q8 := (Qb.tr q7).tr q8
        have os8 := os.fr q8 (fun _ _ h => h)
        have g1 : ∀ w', Nw w8 w' → Calls Try.prog 28 #[.slice As ns cs] w' fun e w'' => GetLTo w' (some (l.map LetM.x)) e w'' := fun w' f => by
          have h := lget_any w' _ As cs S (os8.sl.fr f (fun _ _ h => h)) (by rw [HNS.out]; omega)
          rw [HNS.out, getP_eq, hself] at h
          exact h
        have g2 : ∀ w', Nw w8 w' → Calls Try.prog 28 #[.slice As m cs] w' fun e w'' => GetLTo w' none e w'' := fun w' f => by
          have hsl := (os8.sl.fr f (fun _ _ h => h)).pre (k := m)
          rw [HSC.out, List.map_append, List.take_left' (by rw [List.length_map]; exact HM.out)] at hsl
          have h := lget_any w' _ As cs s1 hsl (by rw [HM.out]; have := HNM.out; omega)
          rw [HM.out, getP_eq, hl1] at h
          exact h
        have g3 : ∀ w' (F' : Nat → Prop) A' c', Sl w' F' A' ((S ++ [0]).map B8) → Calls Try.prog 28 #[.slice A' (ns + 1) c'] w' fun e w'' => GetLTo w' none e w'' := fun w' F' A' c' hsl => by
          have h := lget_any w' _ A' c' (S ++ [0]) hsl (by rw [List.length_append, HNS.out]; simp; omega)
          rw [List.length_append, HNS.out, getP_eq, hmore] at h
          exact h
        have hcp := fun w' (f : Nw w8 w') => copy_u8 w' _ As cs S (os8.sl.fr f (fun _ _ h => h)) (by rw [HNS.out]; omega)
        simp only [HNS.out] at hcp
        have hcap := os.cap_le
        have hnm := HNM.out
        have hsl0 := slice_h (P := Try.prog) 38 under_bytes 1 size_bytes As ns cs m (by omega)
        have hsl1 : ∀ w, (Instr.slice 38 (.slice As ns cs) none (some (.int .i64 ((ns : Int) - 1))) none).run Try.prog w = .ok (.slice As m cs) w := fun w => by
          rw [show ((ns : Int) - 1) = (m : Int) by omega]
          exact hsl0 w
        have hns12 : ns ≤ 100000000000 := by omega
        have G1 := Lib.hid g1
        have G2 := Lib.hid g2
        have G3 := Lib.hid g3
        have HCP := Lib.hid hcp
        have HL1 := Lib.hid hl1
        clear g1 g2 g3 hcp hsl0 hself hmore hl1 os os8 hnm hcap
        go_wp2_with fail
        refine (G1.out w8 (Fr.refl _ _)).mono ?_
        rintro e w9 ⟨q9, sg, rfl, x9, o9, i9, z9⟩
        go_upto_region 16 with (fail)
        have X9 := Lib.hid x9
        have I9 := Lib.hid i9
        have Z9 := Lib.hid z9
        clear x9 i9 z9
        obtain ⟨gn, hgn⟩ : ∃ n, sg.l.length = n := ⟨_, rfl⟩
        have o9s := o9.own
        rw [hgn]
        have HGN := Lib.hid hgn
        clear hgn o9
        go_upto_region 17 with (go_at_call 28; refine (G2.out _ q9).mono ?_; rintro e w10 ⟨q10, rfl⟩)
        clear hsl1
        go_upto_region 18 with (first | (go_at_call 29; refine (HCP.out _ (q9.tr q10)).mono ?_; rintro e w11 ⟨Ac, cc, rfl, occ, q11, nc⟩) | (at_builtin; refine wl_append2 rfl _ _ _ rfl 1 (.int .u8 0) Try.underlying38 info_u8 rfl (by decide) rfl (occ.alloc _) rfl (sl_new w11 5 [.int .u8 0] _ rfl) rfl (by intro u hu; rw [List.mem_singleton.1 hu]; rfl) (by omega) (by unfold maxLen; omega) ?_; intro A12 c12 w12 hap; obtain ⟨o12, q12, n12⟩ := hap.newOwn (q11.alloc _) nc; have s12 : Sl w12 (inA A12) A12 ((S ++ [0]).map B8) := (by have h := o12.sl; rwa [show S.map B8 ++ [Value.int .u8 0] = (S ++ [0]).map B8 from by rw [List.map_append]; rfl] at h)) | (go_at_call 28; refine (G3.out _ _ _ _ s12).mono ?_; rintro e w13 ⟨q13, rfl⟩))
        have u13 : Nw w9 w13 := (q10.tr q12).tr q13
        have hSL : Calls Try.prog 19 #[.slice sg.a gn sg.c, .slice A l.length c] w13 fun e w' => e = .returned (.bool true) ∧ Nw w13 w' := by
          have hq := same_lets w13 (fun _ => True) (fun _ => True) sg.a A sg.c c sg.l l ((o9s.fr u13 (fun _ _ h => h)).sl.mono fun _ _ _ => trivial) ((h.fr ((Q8.tr q9).tr u13) (fun _ _ h => h)).mono fun _ _ _ => trivial) (fun x hx => ((I9.out x hx).nw u13).mono fun _ _ _ => trivial) (fun x hx => ((he x hx).nw ((Q8.tr q9).tr u13)).mono fun _ _ _ => trivial) Z9.out (by have := congrArg List.length X9.out; simp only [List.length_map] at this; omega)
          rw [HGN.out, X9.out] at hq
          simpa using hq
        go_wp2_with (go_at_call 19; refine hSL.mono ?_; rintro e w14 ⟨rfl, q14⟩)
        go_ret
        exact ⟨rfl, ((Q8.tr q9).tr u13).tr q14⟩
    | some lm =>
      rw [hm] at hget
      obtain ⟨k1, k2, k3⟩ := letsGet_inv headP_ok hm
      have hlm : lm.length ≤ 3000 := by
        have h1 := letsB_many lm
        rw [k2] at h1
        omega
      go_upto_region 7 with (go_at_call 28; refine hget.mono ?_; rintro e w3 ⟨q3, sm, rfl, x3, o3, i3, z3⟩)
      have hsl : sm.l.length ≤ 3000 := by
        have := congrArg List.length x3
        rw [List.length_map] at this
        omega
      have hput3 := lPut_any w3 (fun _ => True) sm.a sm.c sm.l (o3.own.sl.mono fun _ _ _ => trivial) (fun x hx => (i3 x hx).mono fun _ _ _ => trivial) z3 (by omega)
      rw [x3, show letsPut lm = some b from by unfold letsPut; rw [k1, k2]; rfl] at hput3
      have hri3 : ∀ w5, Nw w3 w5 → Calls Try.prog 24 #[.slice sm.a sm.l.length sm.c] w5 fun e w' => e = .returned (.bool true) ∧ Nw w5 w' := fun w5 q => by
        have hq := lRight_any w5 (fun _ => True) sm.a sm.c sm.l ((o3.own.fr q (fun _ _ h => h)).sl.mono fun _ _ _ => trivial) (fun x hx => ((i3 x hx).nw q).mono fun _ _ _ => trivial) z3 (by omega)
        rw [x3, k1] at hq
        exact hq
      have HR3 := Lib.hid hri3
      have HP3 := Lib.hid hput3
      clear hri3 hput3 o3 i3 z3 x3 k1 k2 k3 hm
      generalize sm.l.length = sn at HR3 HP3 hsl ⊢
      go_upto_region 8 with (go_at_call 25; refine HP3.out.mono ?_; rintro e w4 ⟨A4, c4, rfl, o4, q4, n4⟩)
      have hsb : ∀ w5, Nw w4 w5 → Calls Try.prog 26 #[.slice A2 b.length c2, .slice A4 b.length c4] w5 fun e w' => e = .returned (.bool true) ∧ Nw w5 w' := fun w5 q => (same_u8 w5 _ _ A2 A4 c2 c4 b b (hb.fr (((Q2.tr q3).tr q4).tr q) (fun _ _ h => h)) (o4.fr q (fun _ _ h => h)).sl (by omega)).mono fun e w' hh => ⟨by simpa using hh.1, hh.2.fr _⟩
      have HSB := Lib.hid hsb
      clear hsb o4
      go_upto_region 10 with (first | (go_at_call 24; refine (HR3.out _ q4).mono ?_; rintro e w5 ⟨rfl, q5⟩) | (go_at_call 26; refine (HSB.out _ q5).mono ?_; rintro e w6 ⟨rfl, q6⟩))
      have Qb := (((Q2.tr q3).tr q4).tr q5).tr q6
      have hput := lPut_any w6 F A c l (h.fr Qb (fun _ _ h => h)) (fun x hx => (he x hx).nw Qb) hz (by omega)
      have hri : ∀ w5, Nw w6 w5 → Calls Try.prog 24 #[.slice A l.length c] w5 fun e w' => e = .returned (.bool (letsOk (l.map LetM.x))) ∧ Nw w5 w' := fun w5 q => lRight_any w5 F A c l (h.fr (Qb.tr q) (fun _ _ h => h)) (fun x hx => (he x hx).nw (Qb.tr q)) hz (by omega)
      cases hok : letsOk (l.map LetM.x) with
      | false =>
        rw [show letsPut (l.map LetM.x) = none from by unfold letsPut; rw [hok]; rfl] at hput
        rw [hok] at hri
        have HRI := Lib.hid hri
        clear hri
        go_upto_region 11 with (go_at_call 25; refine hput.mono ?_; rintro e w7 ⟨rfl, q7⟩)
        go_wp2_with (go_at_call 24; refine (HRI.out _ q7).mono ?_; rintro e w8 ⟨rfl, q8⟩)
        go_ret
        exact ⟨rfl, (Qb.tr q7).tr q8⟩
      | true =>
        have hlen : (l.map LetM.x).length ≤ 1073741824 := by rw [List.length_map]; omega
        have hself := letsGet_self headP_ok hok hlen
        have hmore := letsGet_more headP_ok hok hlen 0
        have hless := fun a ch e => letsGet_less headP_ok hok hlen a ch e
        have hbnd := letsB_le l hok hl3
        obtain ⟨s1, ch, hsc⟩ := letsB_snoc (l.map LetM.x)
        rw [show letsPut (l.map LetM.x) = some (letsB (l.map LetM.x)) from by unfold letsPut; rw [hok]; rfl] at hput
        rw [hok] at hri
        have hl1 := hless s1 ch hsc
        obtain ⟨S, hS⟩ : ∃ S, letsB (l.map LetM.x) = S := ⟨_, rfl⟩
        rw [hS] at hput hself hmore hbnd hsc
        simp only [PutTo] at hput
        obtain ⟨ns, hns⟩ : ∃ n, S.length = n := ⟨_, rfl⟩
        rw [hns] at hput hbnd
        obtain ⟨m, hm⟩ : ∃ m, s1.length = m := ⟨_, rfl⟩
        have hnm : ns = m + 1 := by rw [← hns, hsc, List.length_append, hm]; rfl
        have hposd : decide (0 < ns) = true := decide_eq_true (by omega)
        have hposn : 0 < ns := by omega
        have hpos : (0 : Int) < (ns : Int) := by omega
        have HNM := Lib.hid hnm
        have HRI := Lib.hid hri
        have HNS := Lib.hid hns
        have HSC := Lib.hid hsc
        have HM := Lib.hid hm
        clear hri hless hS hns hsc hm hok hnm
        go_upto_region 11 with (go_at_call 25; refine hput.mono ?_; rintro e w7 ⟨As, cs, rfl, os, q7, nms⟩)
        go_upto_region 13 with (go_at_call 24; refine (HRI.out _ q7).mono ?_; rintro e w8 ⟨rfl, q8⟩)
        have Q8 := (Qb.tr q7).tr q8
        have os8 := os.fr q8 (fun _ _ h => h)
        have g1 : ∀ w', Nw w8 w' → Calls Try.prog 28 #[.slice As ns cs] w' fun e w'' => GetLTo w' (some (l.map LetM.x)) e w'' := fun w' f => by
          have h := lget_any w' _ As cs S (os8.sl.fr f (fun _ _ h => h)) (by rw [HNS.out]; omega)
          rw [HNS.out, getP_eq, hself] at h
          exact h
        have g2 : ∀ w', Nw w8 w' → Calls Try.prog 28 #[.slice As m cs] w' fun e w'' => GetLTo w' none e w'' := fun w' f => by
          have hsl := (os8.sl.fr f (fun _ _ h => h)).pre (k := m)
          rw [HSC.out, List.map_append, List.take_left' (by rw [List.length_map]; exact HM.out)] at hsl
          have h := lget_any w' _ As cs s1 hsl (by rw [HM.out]; have := HNM.out; omega)
          rw [HM.out, getP_eq, hl1] at h
          exact h
        have g3 : ∀ w' (F' : Nat → Prop) A' c', Sl w' F' A' ((S ++ [0]).map B8) → Calls Try.prog 28 #[.slice A' (ns + 1) c'] w' fun e w'' => GetLTo w' none e w'' := fun w' F' A' c' hsl => by
          have h := lget_any w' _ A' c' (S ++ [0]) hsl (by rw [List.length_append, HNS.out]; simp; omega)
          rw [List.length_append, HNS.out, getP_eq, hmore] at h
          exact h
        have hcp := fun w' (f : Nw w8 w') => copy_u8 w' _ As cs S (os8.sl.fr f (fun _ _ h => h)) (by rw [HNS.out]; omega)
        simp only [HNS.out] at hcp
        have hcap := os.cap_le
        have hnm := HNM.out
        have hsl0 := slice_h (P := Try.prog) 38 under_bytes 1 size_bytes As ns cs m (by omega)
        have hsl1 : ∀ w, (Instr.slice 38 (.slice As ns cs) none (some (.int .i64 ((ns : Int) - 1))) none).run Try.prog w = .ok (.slice As m cs) w := fun w => by
          rw [show ((ns : Int) - 1) = (m : Int) by omega]
          exact hsl0 w
        have hns12 : ns ≤ 100000000000 := by omega
        have G1 := Lib.hid g1
        have G2 := Lib.hid g2
        have G3 := Lib.hid g3
        have HCP := Lib.hid hcp
        have HL1 := Lib.hid hl1
        clear g1 g2 g3 hcp hsl0 hself hmore hl1 os os8 hnm hcap
        go_wp2_with fail
        refine (G1.out w8 (Fr.refl _ _)).mono ?_
        rintro e w9 ⟨q9, sg, rfl, x9, o9, i9, z9⟩
        go_upto_region 16 with (fail)
        have X9 := Lib.hid x9
        have I9 := Lib.hid i9
        have Z9 := Lib.hid z9
        clear x9 i9 z9
        obtain ⟨gn, hgn⟩ : ∃ n, sg.l.length = n := ⟨_, rfl⟩
        have o9s := o9.own
        rw [hgn]
        have HGN := Lib.hid hgn
        clear hgn o9
        go_upto_region 17 with (go_at_call 28; refine (G2.out _ q9).mono ?_; rintro e w10 ⟨q10, rfl⟩)
        clear hsl1
        go_upto_region 18 with (first | (go_at_call 29; refine (HCP.out _ (q9.tr q10)).mono ?_; rintro e w11 ⟨Ac, cc, rfl, occ, q11, nc⟩) | (at_builtin; refine wl_append2 rfl _ _ _ rfl 1 (.int .u8 0) Try.underlying38 info_u8 rfl (by decide) rfl (occ.alloc _) rfl (sl_new w11 5 [.int .u8 0] _ rfl) rfl (by intro u hu; rw [List.mem_singleton.1 hu]; rfl) (by omega) (by unfold maxLen; omega) ?_; intro A12 c12 w12 hap; obtain ⟨o12, q12, n12⟩ := hap.newOwn (q11.alloc _) nc; have s12 : Sl w12 (inA A12) A12 ((S ++ [0]).map B8) := (by have h := o12.sl; rwa [show S.map B8 ++ [Value.int .u8 0] = (S ++ [0]).map B8 from by rw [List.map_append]; rfl] at h)) | (go_at_call 28; refine (G3.out _ _ _ _ s12).mono ?_; rintro e w13 ⟨q13, rfl⟩))
        have u13 : Nw w9 w13 := (q10.tr q12).tr q13
        have hSL : Calls Try.prog 19 #[.slice sg.a gn sg.c, .slice A l.length c] w13 fun e w' => e = .returned (.bool true) ∧ Nw w13 w' := by
          have hq := same_lets w13 (fun _ => True) (fun _ => True) sg.a A sg.c c sg.l l ((o9s.fr u13 (fun _ _ h => h)).sl.mono fun _ _ _ => trivial) ((h.fr ((Q8.tr q9).tr u13) (fun _ _ h => h)).mono fun _ _ _ => trivial) (fun x hx => ((I9.out x hx).nw u13).mono fun _ _ _ => trivial) (fun x hx => ((he x hx).nw ((Q8.tr q9).tr u13)).mono fun _ _ _ => trivial) Z9.out (by have := congrArg List.length X9.out; simp only [List.length_map] at this; omega)
          rw [HGN.out, X9.out] at hq
          simpa using hq
        go_wp2_with (go_at_call 19; refine hSL.mono ?_; rintro e w14 ⟨rfl, q14⟩)
        go_ret
        exact ⟨rfl, ((Q8.tr q9).tr u13).tr q14⟩
end Go.Proofs.Ytippdjaakcgeoaa
