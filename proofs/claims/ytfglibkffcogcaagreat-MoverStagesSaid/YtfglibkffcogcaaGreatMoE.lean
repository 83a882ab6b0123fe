/- Movers: the program's mover ticks. -/
import Derived.Test.YtfglibkffcogcaaGreatMoD
import Derived.Test.YtfglibkffcogcaaGreatScD
import Derived.BigQuiet
namespace Go.Proofs.YtfglibkffcogcaaGreat
open Go Go.RowKit

theorem MvTo.back {w W w' : World} {I : Nat → Prop} {g : Nat} {r : Mv × List AskT} {v : Value} (h : MvTo W I g r v w') (f : Fr (· = g) w W) : MvTo w I g r v w' := by
  obtain ⟨h1, ⟨I', h2, h3⟩, h4⟩ := h
  exact ⟨h1.back f.size, ⟨I', h2, fun k hk => (h3 k hk).imp id (fun h => Nat.le_trans f.size h)⟩, f.tr h4⟩
theorem sch_one (x : Sch) : (schA x).all (·.oneCell') = true := by
  rw [List.all_toArray]
  simp only [List.all_cons, List.all_nil]
  rfl
def zSch : Sch := ⟨0, [], [], 0, 0, 0, 0, 0⟩
set_option maxRecDepth 100000 in
set_option maxHeartbeats 8000000 in
theorem mtick_any (w : World) (I : Nat → Prop) (g : Nat) (s : Mv) (x : Sch) (under : Bool) (h : IsMv w I g s) (hl : x.lo.length ≤ 1000000000000) (hh : x.hi.length ≤ 1000000000000) (hst : 0 ≤ x.stage ∧ x.stage ≤ 255)
    (hn : 0 ≤ s.next ∧ s.next ≤ 4611686018427387904) (hs : 0 ≤ s.since ∧ s.since ≤ 100) :
    Calls Tryz.prog 10 #[.pointer (some ⟨g, 0, none⟩), .agg (schA x), .bool under] w fun e w' => ∃ v, e = .returned v ∧ MvTo w I g (tickM s x under) v w' := by
  obtain ⟨r, hr⟩ : ∃ r, tickM s x under = r := ⟨_, rfl⟩
  rw [hr]
  have HR := Lib.hid hr
  clear hr
  obtain ⟨W, hW⟩ : ∃ W, W = w.alloc (.cells (schA x) 34) := ⟨_, rfl⟩
  have q0 : Nw w W := by rw [hW]; exact (Fr.refl (fun _ => False) w).alloc _
  have b0 : Blk W w.heap.size 34 (schA x) := by rw [hW]; exact Blk.new w _ _
  have HW := Lib.hid hW
  clear hW
  have hgl : g < w.heap.size := by obtain ⟨_, _, _, _, _, _, h1, _⟩ := h; exact h1.lt
  have hcl : ∀ w', Nw W w' → w'.cell? ⟨w.heap.size, 0, none⟩ = some (I64 x.num) ∧ w'.cell? ⟨w.heap.size, 1, none⟩ = some (StrV x.lo) ∧ w'.cell? ⟨w.heap.size, 2, none⟩ = some (StrV x.hi) ∧ w'.cell? ⟨w.heap.size, 3, none⟩ = some (I64 x.src) ∧ w'.cell? ⟨w.heap.size, 4, none⟩ = some (I64 x.dst) ∧ w'.cell? ⟨w.heap.size, 5, none⟩ = some (I64 x.epoch) ∧ w'.cell? ⟨w.heap.size, 6, none⟩ = some (I64 x.under) ∧ w'.cell? ⟨w.heap.size, 7, none⟩ = some (U8V x.stage) := fun w' f => by
    have k := b0.fr f (fun h => h)
    exact ⟨by simpa using k.cell 0, by simpa using k.cell 1, by simpa using k.cell 2, by simpa using k.cell 3, by simpa using k.cell 4, by simpa using k.cell 5, by simpa using k.cell 6, by simpa using k.cell 7⟩
  obtain ⟨bad, hbad⟩ : ∃ bad, (!(under && (schOk x && !schOver x))) = bad := ⟨_, rfl⟩
  obtain ⟨ok, hok⟩ : ∃ z, schOk x = z := ⟨_, rfl⟩
  obtain ⟨ov, hov⟩ : ∃ z, schOver x = z := ⟨_, rfl⟩
  have hb2 : bad = !(under && (ok && !ov)) := by rw [← hbad, hok, hov]
  have cR : ∀ w1, Nw W w1 → ∀ g1, Blk w1 g1 34 (schA x) → Calls Tryz.prog 24 #[.slice (some ⟨g1, 0, none⟩) 1 1] w1 fun e w' => e = .returned (.bool ok) ∧ Nw W w' := fun w1 f g1 hb => (right1_any w1 x hl hh hst g1 hb).mono fun e w' h => by rw [hok] at h; exact ⟨h.1, f.tr h.2⟩
  have cO : ∀ w1, Nw W w1 → Calls Tryz.prog 25 #[.agg (schA x)] w1 fun e w' => e = .returned (.bool ov) ∧ Nw W w' := fun w1 f => (over_any w1 x).mono fun e w' h => by rw [hov] at h; exact ⟨h.1, f.tr h.2⟩
  have hkn := mknown_any W I g s (h.fr q0 (fun h => h) (fun _ _ h => h))
  have HBAD := Lib.hid hbad
  have HB2 := Lib.hid hb2
  clear hb2 hbad
  go_enter Tryz.func10, Tryz.ntmps10
  go_upto_region 1 with (fail)
  rw [← HW.out]
  go_upto_region 3 with (go_at_call 23; refine hkn.mono ?_; rintro e w' ⟨rfl, rfl⟩)
  obtain ⟨k0, k1, k2, k3, k4, k5, k6, k7⟩ := hcl W (Fr.refl _ _)
  go_cut [11] (fun v wx => v = .bool bad ∧ Nw W wx)
  case first =>
    cases under with
    | false =>
      go_wp2_with fail
      go_meet
      exact ⟨congrArg Value.bool (by rw [HB2.out]; rfl), Fr.refl _ _⟩
    | true =>
      have Q : Nw W (W.alloc (.cells (schA x) 34)) := (Fr.refl (fun _ => False) W).alloc _
      go_wp2_with fail
      refine (cR _ Q W.heap.size (Blk.new W _ _)).mono ?_
      rintro e w1 ⟨rfl, Q⟩
      obtain ⟨k0, k1, k2, k3, k4, k5, k6, k7⟩ := hcl w1 Q
      cases ok with
      | false =>
        go_wp2_with fail
        go_meet
        exact ⟨congrArg Value.bool (by rw [HB2.out]; rfl), by assumption⟩
      | true =>
        go_wp2_with fail
        refine (cO w1 Q).mono ?_
        rintro e w2 ⟨rfl, Q⟩
        go_wp2_with fail
        go_meet
        exact ⟨congrArg Value.bool (by rw [HB2.out]; cases ov <;> rfl), by assumption⟩
  case rest =>
    obtain ⟨rfl, Q⟩ := hcut
    obtain ⟨w1, hw1⟩ : ∃ w1, w1 = wc := ⟨_, rfl⟩
    rw [← hw1] at Q ⊢
    clear hw1 hkn cR cO k0 k1 k2 k3 k4 k5 k6 k7
    have hm1 := h.fr (q0.tr Q) (fun h => h) (fun _ _ h => h)
    have q1 : Fr (· = g) w w1 := Nw.on (q0.tr Q)
    cases bad with
    | true =>
      have e : tickM s x under = (idleM s, []) := by
        unfold tickM
        rw [if_pos]
        have := HBAD.out
        rw [Bool.not_eq_true'] at this
        exact this
      rw [HR.out] at e
      subst e
      have hid := midle_any w1 I g s hm1
      go_wp2_with fail
      refine hid.mono ?_
      rintro e w2 ⟨rfl, hm2, f2⟩
      obtain ⟨a, Ao, co, y, Ab, cb, h1, h2, h3, h4, h5, h6, h7, h8, h9, h10⟩ := hm2
      have hnI : ∀ k, I k → ¬ k = g := fun k hk e => h9 (e ▸ hk)
      have c19 : w2.cell? ⟨g, 19, none⟩ = some (.bool s.works.isSome) := by simpa using h1.cell 19
      have f19 := h1.frozen 19
      obtain ⟨W2, hW2⟩ : ∃ W2, W2 = w2.setCell ⟨g, 19, none⟩ (.bool false) := ⟨_, rfl⟩
      have m2 : Blk W2 g 79 (mvA false a Ao co 0 s.next false y s.bytes Ab cb) := by rw [hW2]; exact h1.set_ 19 _
      have g2 : Fr (· = g) w W2 := by rw [hW2]; exact (q1.tr f2).set1 _ _
      obtain ⟨W3, hW3⟩ : ∃ W3, W3 = W2.setCells g 20 (schA zSch).toList := ⟨_, rfl⟩
      have m3 : Blk W3 g 79 (mvA false a Ao co 0 s.next false zSch s.bytes Ab cb) := by rw [hW3]; exact Blk.setCells m2 20 (schA zSch).toList
      have g3 : Fr (· = g) w W3 := by rw [hW3]; exact g2.setCells _ _
      have hth := Blk.there m2 20 8 (by show 20 + 8 ≤ 29; omega)
      have hone := sch_one zSch
      have c28 : W3.cell? ⟨g, 28, none⟩ = some (.slice Ab s.bytes.length cb) := by simpa using m3.cell 28
      have f28 := m3.frozen 28
      obtain ⟨W4, hW4⟩ : ∃ W4, W4 = W3.setCell ⟨g, 28, none⟩ (.slice none 0 0) := ⟨_, rfl⟩
      have m4 : Blk W4 g 79 (mvA false a Ao co 0 s.next false zSch [] none 0) := by rw [hW4]; exact m3.set_ 28 _
      have g4 : Fr (· = g) w W4 := by rw [hW4]; exact g3.set1 _ _
      have g24 : Fr (· = g) w2 W4 := by rw [hW4, hW3, hW2]; exact (((Fr.refl (· = g) w2).set1 _ _).setCells _ _).set1 _ _
      have HW2 := Lib.hid hW2
      have HW3 := Lib.hid hW3
      have HW4 := Lib.hid hW4
      clear hW2 hW3 hW4
      go_wp2_with (rw [← HW2.out]; refine wpList_store_mid rfl 34 _ _ rfl g 20 (schA zSch) rfl rfl hth sch_size hone ?_; rw [← HW3.out])
      rw [← HW4.out]
      go_ret
      refine ⟨_, rfl, .inl ⟨rfl, rfl⟩, ⟨I, ⟨a, Ao, co, zSch, none, 0, m4, fun b hb => ?_, fun z hz => ?_, fun _ => rfl, h5.fr g24 hnI, Sl.nil _ _ _, h7, Nat.zero_le _, h9, fun k hk => Nat.lt_of_lt_of_le (h10 k hk) g24.size⟩, fun k hk => .inl hk⟩, g4⟩
      · cases hb
      · cases hz
    | false =>
      have e : tickM s x under = if sameAt s x = true then againM s else firstM { s with works := some x, bytes := if sameNum s x = true then s.bytes else [] } x := by
        unfold tickM
        rw [if_neg]
        have := HBAD.out
        rw [Bool.not_eq_false'] at this
        rw [this]
        decide
      rw [HR.out] at e
      have HRE := Lib.hid e
      clear e
      have hsok : schOk x = true ∧ schOver x = false := by
        have := HBAD.out
        rw [Bool.not_eq_false', Bool.and_eq_true, Bool.and_eq_true, Bool.not_eq_true'] at this
        exact this.2
      obtain ⟨a, Ao, co, y, Ab, cb, h1, h2, h3, h4, h5, h6, h7, h8, h9, h10⟩ := id hm1
      have hnI : ∀ k, I k → ¬ k = g := fun k hk e => h9 (e ▸ hk)
      have c19 : w1.cell? ⟨g, 19, none⟩ = some (.bool s.works.isSome) := by simpa using h1.cell 19
      have c20 : w1.cell? ⟨g, 20, none⟩ = some (I64 y.num) := by simpa using h1.cell 20
      have c27 : w1.cell? ⟨g, 27, none⟩ = some (U8V y.stage) := by simpa using h1.cell 27
      obtain ⟨k0, k1, k2, k3, k4, k5, k6, k7⟩ := hcl w1 Q
      obtain ⟨sa, hsa⟩ : ∃ z, sameAt s x = z := ⟨_, rfl⟩
      obtain ⟨sn, hsn⟩ : ∃ z, sameNum s x = z := ⟨_, rfl⟩
      have HSA := Lib.hid hsa
      have HSN := Lib.hid hsn
      clear hsa hsn
      have hx1 : 1 ≤ x.num := (schOk_iff.1 hsok.1).1.1
      go_upto_region 7 with (fail)
      go_cut [38] (fun v wx => v = .bool sa ∧ Nw w1 wx)
      case first =>
        cases hw : s.works with
        | none =>
          have e : sameAt s x = false := by unfold sameAt; rw [hw]
          have e3 : sa = false := by rw [← HSA.out, e]
          rw [hw] at c19
          simp only [Option.isSome_none] at c19
          clear h1 e
          have E3 := Lib.hid e3
          clear e3
          go_quiet (fail)
          go_wp2_with fail
          go_meet
          exact ⟨congrArg Value.bool E3.out.symm, (Fr.refl (fun _ => False) w1).drewN _⟩
        | some z =>
          obtain rfl := h3 z hw
          have e : sameAt s x = decide (y.num = x.num ∧ y.stage = x.stage) := by unfold sameAt; rw [hw]
          rw [hw] at c19
          simp only [Option.isSome_some] at c19
          clear h1
          by_cases e1 : y.num = x.num
          · have d1 : (y.num == x.num) = true := by simp [e1]
            have e2 : sameAt s x = (y.stage == x.stage) := by rw [e]; by_cases h : y.stage = x.stage <;> simp [e1, h]
            have e3 := e2
            rw [HSA.out] at e3
            have E3 := Lib.hid e3
            clear e e2 e1 e3
            go_quiet (fail)
            go_wp2_with fail
            go_meet
            exact ⟨congrArg Value.bool E3.out.symm, (Fr.refl (fun _ => False) w1).drewN _⟩
          · have d1 : (y.num == x.num) = false := by simp [e1]
            have e2 : sameAt s x = false := by rw [e]; simp [e1]
            have e3 := e2
            rw [HSA.out] at e3
            have E3 := Lib.hid e3
            clear e e2 e1 e3
            go_quiet (fail)
            go_wp2_with fail
            go_meet
            exact ⟨congrArg Value.bool E3.out.symm, (Fr.refl (fun _ => False) w1).drewN _⟩
      case rest =>
        obtain ⟨rfl, Q2⟩ := hcut
        obtain ⟨w2, hw2⟩ : ∃ w2, w2 = wc := ⟨_, rfl⟩
        rw [← hw2] at Q2 ⊢
        clear hw2 h1 c19 c20 c27
        have hm2 := hm1.fr Q2 (fun h => h) (fun _ _ h => h)
        have q2 : Fr (· = g) w w2 := q1.tr (Nw.on Q2)
        cases sa with
        | true =>
          have hlt := mlinetick_any w2 I g s hm2 hs
          go_wp2_with fail
          refine hlt.mono ?_
          rintro e w3 ⟨v, rfl, hv⟩
          go_wp2_with fail
          go_ret
          refine ⟨_, rfl, ?_⟩
          have e := HRE.out
          rw [if_pos HSA.out] at e
          rw [e]
          exact hv.back q2
        | false =>
          have e := HRE.out
          rw [if_neg (by rw [HSA.out]; decide), HSN.out] at e
          have HR2 := Lib.hid e
          clear e HRE
          obtain ⟨a, Ao, co, y, Ab, cb, h1, h2, h3, h4, h5, h6, h7, h8, h9, h10⟩ := id hm2
          have c20 : w2.cell? ⟨g, 20, none⟩ = some (I64 y.num) := by simpa using h1.cell 20
          obtain ⟨k0, k1, k2, k3, k4, k5, k6, k7⟩ := hcl w2 (Q.tr Q2)
          have hnum : (y.num == x.num) = sn := by
            rw [← HSN.out]
            unfold sameNum
            cases hw : s.works with
            | none =>
              have := h4 hw
              simp
              omega
            | some z =>
              obtain rfl := h3 z hw
              by_cases e : y.num = x.num <;> simp [e]
          go_upto_region 9 with (fail)
          go_cut [67] (fun v wx => v = .bool (!sn) ∧ Nw w2 wx)
          case first =>
            have HNUM := Lib.hid hnum
            clear h1 hnum
            go_quiet (fail)
            go_wp2_with fail
            go_meet
            exact ⟨congrArg Value.bool (by rw [← HNUM.out]; rfl), (Fr.refl (fun _ => False) w2).drewN _⟩
          case rest =>
            obtain ⟨rfl, Q3⟩ := hcut
            obtain ⟨w3, hw3⟩ : ∃ w3, w3 = wc := ⟨_, rfl⟩
            rw [← hw3] at Q3 ⊢
            have q3 : Fr (· = g) w w3 := q2.tr (Nw.on Q3)
            have m3 := h1.fr Q3 (fun h => h)
            have b3 := b0.fr ((Q.tr Q2).tr Q3) (fun h => h)
            clear hw3 h1 hnum c20 k0 k1 k2 k3 k4 k5 k6 k7
            obtain ⟨bs, hbs⟩ : ∃ bs, (if sn = true then s.bytes else []) = bs := ⟨_, rfl⟩
            have hbl : bs.length ≤ 1000000000 := by rw [← hbs]; split; exact h8; exact Nat.zero_le _
            have HBS := Lib.hid hbs
            have s3 := h6.fr Q3 (fun _ _ h => h)
            cases sn with
            | true =>
              have e : s.bytes = bs := by rw [← hbs, if_pos rfl]
              obtain ⟨w4, hw4⟩ : ∃ w4, w4 = w3 := ⟨_, rfl⟩
              have m4 : Blk w4 g 79 (mvA s.line.isSome a Ao co s.since s.next s.works.isSome y bs Ab cb) := by rw [hw4, ← e]; exact m3
              have f34 : Fr (· = g) w3 w4 := by rw [hw4]; exact Fr.refl _ _
              have s4 : Sl w4 I Ab (bs.map B8) := by rw [hw4, ← e]; exact s3
              have f4 : Fr (· = g) w w4 := q3.tr f34
              have b4 := b3.fr f34 (by omega)
              have a4 := h5.fr ((Nw.on Q3 : Fr (· = g) w2 w3).tr f34) hnI
              have HB := Lib.hid e
              have F34 := Lib.hid f34
              clear m3 b3 s3 hbs f34 e
              go_upto_region 11 with (fail)
              rw [← hw4]
              clear hw4
              have d19 : w4.cell? ⟨g, 19, none⟩ = some (.bool s.works.isSome) := by simpa using m4.cell 19
              have d20 : w4.cell? ⟨g, 20, none⟩ = some (I64 y.num) := by simpa using m4.cell 20
              have d21 : w4.cell? ⟨g, 21, none⟩ = some (StrV y.lo) := by simpa using m4.cell 21
              have d22 : w4.cell? ⟨g, 22, none⟩ = some (StrV y.hi) := by simpa using m4.cell 22
              have d23 : w4.cell? ⟨g, 23, none⟩ = some (I64 y.src) := by simpa using m4.cell 23
              have d24 : w4.cell? ⟨g, 24, none⟩ = some (I64 y.dst) := by simpa using m4.cell 24
              have d25 : w4.cell? ⟨g, 25, none⟩ = some (I64 y.epoch) := by simpa using m4.cell 25
              have d26 : w4.cell? ⟨g, 26, none⟩ = some (I64 y.under) := by simpa using m4.cell 26
              have d27 : w4.cell? ⟨g, 27, none⟩ = some (U8V y.stage) := by simpa using m4.cell 27
              have hfz : ∀ k, w4.frozen? ⟨g, k, none⟩ = false := fun k => m4.frozen k
              have e0 : w4.cell? ⟨w.heap.size, 0, none⟩ = some (I64 x.num) := by simpa using b4.cell 0
              have e1 : w4.cell? ⟨w.heap.size, 1, none⟩ = some (StrV x.lo) := by simpa using b4.cell 1
              have e2 : w4.cell? ⟨w.heap.size, 2, none⟩ = some (StrV x.hi) := by simpa using b4.cell 2
              have e3 : w4.cell? ⟨w.heap.size, 3, none⟩ = some (I64 x.src) := by simpa using b4.cell 3
              have e4 : w4.cell? ⟨w.heap.size, 4, none⟩ = some (I64 x.dst) := by simpa using b4.cell 4
              have e5 : w4.cell? ⟨w.heap.size, 5, none⟩ = some (I64 x.epoch) := by simpa using b4.cell 5
              have e6 : w4.cell? ⟨w.heap.size, 6, none⟩ = some (I64 x.under) := by simpa using b4.cell 6
              have e7 : w4.cell? ⟨w.heap.size, 7, none⟩ = some (U8V x.stage) := by simpa using b4.cell 7
              obtain ⟨W5, hW5⟩ : ∃ W5, W5 = (((((((((w4.setCell ⟨g, 19, none⟩ (.bool true)).setCell ⟨g, 20, none⟩ (.int .i64 x.num)).setCell ⟨g, 21, none⟩ (.string ⟨x.lo.toArray⟩)).setCell ⟨g, 22, none⟩ (.string ⟨x.hi.toArray⟩)).setCell ⟨g, 23, none⟩ (.int .i64 x.src)).setCell ⟨g, 24, none⟩ (.int .i64 x.dst)).setCell ⟨g, 25, none⟩ (.int .i64 x.epoch)).setCell ⟨g, 26, none⟩ (.int .i64 x.under)).setCell ⟨g, 27, none⟩ (.int .u8 x.stage)).drew := ⟨_, rfl⟩
              have m5 : Blk W5 g 79 (mvA s.line.isSome a Ao co s.since s.next true x bs Ab cb) := by rw [hW5]; exact (Blk.setCells (m4.set_ 19 _) 20 (schA x).toList).drew
              have f45 : Fr (· = g) w4 W5 := by rw [hW5]; exact (((Fr.refl (· = g) w4).set1 19 _).setCells 20 (schA x).toList).drew
              have hm5 : IsMv W5 I g { s with works := some x, bytes := bs } := ⟨a, Ao, co, x, Ab, cb, m5, h2, fun z hz => by injection hz, fun h => (by cases h), a4.fr f45 hnI, s4.fr f45 hnI, h7, hbl, h9, fun k hk => Nat.lt_of_lt_of_le (h10 k hk) (Nat.le_trans (Q3.size) (Nat.le_trans F34.out.size f45.size))⟩
              have b5 := b4.fr f45 (by omega)
              have f5 : Fr (· = g) w W5 := f4.tr f45
              have HW5 := Lib.hid hW5
              clear hW5
              go_region
              rw [← HW5.out]
              clear d19 d20 d21 d22 d23 d24 d25 d26 d27 hfz e0 e1 e2 e3 e4 e5 e6 e7 m4 s4 a4 b4 m5 f45
              have hmm := @run_makeMap Tryz.prog
              have M0 : MapU Tryz.prog 32 (W5.alloc (.map #[] 0)) W5.heap.size 0 (fun _ => none) := MapU.made W5 rfl
              have p0 : Nw W5 (W5.alloc (.map #[] 0)) := (Fr.refl _ W5).alloc _
              obtain ⟨V1, r1, M1, u1⟩ := M0.put stage_keys Tryz.underlying84 (by unfold maxLen; omega) 1 (u8Wf (by omega)) (by simp) (.func (.func 28) #[] #[])
              have p1 := p0.trans u1 (fun q e => .inr (by omega))
              obtain ⟨V2, r2, M2, u2⟩ := M1.put stage_keys Tryz.underlying84 (by unfold maxLen; omega) 2 (u8Wf (by omega)) (by simp) (.func (.func 29) #[] #[])
              have p2 := p1.trans u2 (fun q e => .inr (by omega))
              obtain ⟨V3, r3, M3, u3⟩ := M2.put stage_keys Tryz.underlying84 (by unfold maxLen; omega) 3 (u8Wf (by omega)) (by simp) (.func (.func 30) #[] #[])
              have p3 := p2.trans u3 (fun q e => .inr (by omega))
              obtain ⟨V4, r4, M4, u4⟩ := M3.put stage_keys Tryz.underlying84 (by unfold maxLen; omega) 4 (u8Wf (by omega)) (by simp) (.func (.func 31) #[] #[])
              have p4 := p3.trans u4 (fun q e => .inr (by omega))
              obtain ⟨V5, r5, M5, u5⟩ := M4.put stage_keys Tryz.underlying84 (by unfold maxLen; omega) 5 (u8Wf (by omega)) (by simp) (.func (.func 32) #[] #[])
              have p5 := p4.trans u5 (fun q e => .inr (by omega))
              obtain ⟨V6, r6, M6, u6⟩ := M5.put stage_keys Tryz.underlying84 (by unfold maxLen; omega) 7 (u8Wf (by omega)) (by simp) (.func (.func 33) #[] #[])
              have p6 := p5.trans u6 (fun q e => .inr (by omega))
              obtain ⟨V7, r7, M7, u7⟩ := M6.put stage_keys Tryz.underlying84 (by unfold maxLen; omega) 8 (u8Wf (by omega)) (by simp) (.func (.func 34) #[] #[])
              have p7 := p6.trans u7 (fun q e => .inr (by omega))
              have hm6 := hm5.fr p7 (fun h => h) (fun _ _ h => h)
              have b6 := b5.fr p7 (fun h => h)
              have f6 : Fr (· = g) w V7 := f5.tr (Nw.on p7)
              have hz0 : (zeroValue 83).run Tryz.prog V7 = .ok .nilFunc V7 := by kernel_rfl
              have hlk := fun n hn => M7.look1 stage_keys Tryz.underlying84 hz0 n (u8Wf hn)
              have c7 : V7.cell? ⟨w.heap.size, 7, none⟩ = some (U8V x.stage) := by simpa using b6.cell 7
              have hr2 : r = firstM { s with works := some x, bytes := bs } x := by rw [HR2.out, HBS.out]
              have HR3 := Lib.hid hr2
              have HLK := Lib.hid hlk
              have hstg : x.stage = 1 ∨ x.stage = 2 ∨ x.stage = 3 ∨ x.stage = 4 ∨ x.stage = 5 ∨ x.stage = 7 ∨ x.stage = 8 := by
                have k1 := (schOk_iff.1 hsok.1).2.2.2.2.1
                have k2 := hsok.2
                unfold schOver at k2
                rw [Bool.or_eq_false_iff, decide_eq_false_iff_not, decide_eq_false_iff_not] at k2
                omega
              clear hr2 hlk M0 M1 M2 M3 M4 M5 M6 M7 u1 u2 u3 u4 u5 u6 u7 p0 p1 p2 p3 p4 p5 p6 p7 hm5 b5 f5 b6
              rcases hstg with hs1 | hs1 | hs1 | hs1 | hs1 | hs1 | hs1
              · rw [hs1] at c7
                have hk := HLK.out 1 (by omega)
                have hk2 : (Instr.lookup 84 (.map (some W5.heap.size)) (.int .u8 1) false).run Tryz.prog V7 = .ok (.func (.func 28) #[] #[]) V7 := hk
                have hc := freeze_any V7 I g { s with works := some x, bytes := bs } x hm6 rfl hn
                clear hk
                go_wp2_with fail
                refine hc.mono ?_
                rintro e w9 ⟨v, rfl, hv⟩
                go_wp2_with fail
                go_ret
                have er : r = askM { s with works := some x, bytes := bs } x.src (freezeO x) := by rw [HR3.out]; unfold firstM; rw [if_pos hs1]
                rw [er]
                exact ⟨_, rfl, hv.back f6⟩
              · rw [hs1] at c7
                have hk := HLK.out 2 (by omega)
                have hk2 : (Instr.lookup 84 (.map (some W5.heap.size)) (.int .u8 2) false).run Tryz.prog V7 = .ok (.func (.func 29) #[] #[]) V7 := hk
                have hc := absorb_any V7 I g { s with works := some x, bytes := bs } x hm6 rfl hn
                clear hk
                go_wp2_with fail
                refine hc.mono ?_
                rintro e w9 ⟨v, rfl, hv⟩
                go_wp2_with fail
                go_ret
                have er : r = if bs = [] then askM { s with works := some x, bytes := bs } x.src (freezeO x) else askM { s with works := some x, bytes := bs } x.dst (absorbO x bs) := by rw [HR3.out]; unfold firstM; rw [if_neg (by omega), if_pos hs1]
                rw [er]
                exact ⟨_, rfl, hv.back f6⟩
              · rw [hs1] at c7
                have hk := HLK.out 3 (by omega)
                have hk2 : (Instr.lookup 84 (.map (some W5.heap.size)) (.int .u8 3) false).run Tryz.prog V7 = .ok (.func (.func 30) #[] #[]) V7 := hk
                have hc := turn_any V7 I g { s with works := some x, bytes := bs } x hm6 rfl hn
                clear hk
                go_wp2_with fail
                refine hc.mono ?_
                rintro e w9 ⟨v, rfl, hv⟩
                go_wp2_with fail
                go_ret
                have er : r = askM { s with works := some x, bytes := bs } 0 (stepO x.num 4) := by rw [HR3.out]; unfold firstM; rw [if_neg (by omega), if_neg (by omega), if_pos hs1]
                rw [er]
                exact ⟨_, rfl, hv.back f6⟩
              · rw [hs1] at c7
                have hk := HLK.out 4 (by omega)
                have hk2 : (Instr.lookup 84 (.map (some W5.heap.size)) (.int .u8 4) false).run Tryz.prog V7 = .ok (.func (.func 31) #[] #[]) V7 := hk
                have hc := open_any V7 I g { s with works := some x, bytes := bs } x hm6 rfl hn
                clear hk
                go_wp2_with fail
                refine hc.mono ?_
                rintro e w9 ⟨v, rfl, hv⟩
                go_wp2_with fail
                go_ret
                have er : r = askM { s with works := some x, bytes := bs } x.dst (openO x) := by rw [HR3.out]; unfold firstM; rw [if_neg (by omega), if_neg (by omega), if_neg (by omega), if_pos hs1]
                rw [er]
                exact ⟨_, rfl, hv.back f6⟩
              · rw [hs1] at c7
                have hk := HLK.out 5 (by omega)
                have hk2 : (Instr.lookup 84 (.map (some W5.heap.size)) (.int .u8 5) false).run Tryz.prog V7 = .ok (.func (.func 32) #[] #[]) V7 := hk
                have hc := drop_any V7 I g { s with works := some x, bytes := bs } x hm6 rfl hn
                clear hk
                go_wp2_with fail
                refine hc.mono ?_
                rintro e w9 ⟨v, rfl, hv⟩
                go_wp2_with fail
                go_ret
                have er : r = askM { s with works := some x, bytes := bs } x.src (plainO 7 x.num) := by rw [HR3.out]; unfold firstM; rw [if_neg (by omega), if_neg (by omega), if_neg (by omega), if_neg (by omega), if_pos hs1]
                rw [er]
                exact ⟨_, rfl, hv.back f6⟩
              · rw [hs1] at c7
                have hk := HLK.out 7 (by omega)
                have hk2 : (Instr.lookup 84 (.map (some W5.heap.size)) (.int .u8 7) false).run Tryz.prog V7 = .ok (.func (.func 33) #[] #[]) V7 := hk
                have hc := thaw_any V7 I g { s with works := some x, bytes := bs } x hm6 rfl hn
                clear hk
                go_wp2_with fail
                refine hc.mono ?_
                rintro e w9 ⟨v, rfl, hv⟩
                go_wp2_with fail
                go_ret
                have er : r = askM { s with works := some x, bytes := bs } x.src (plainO 4 x.num) := by rw [HR3.out]; unfold firstM; rw [if_neg (by omega), if_neg (by omega), if_neg (by omega), if_neg (by omega), if_neg (by omega), if_pos hs1]
                rw [er]
                exact ⟨_, rfl, hv.back f6⟩
              · rw [hs1] at c7
                have hk := HLK.out 8 (by omega)
                have hk2 : (Instr.lookup 84 (.map (some W5.heap.size)) (.int .u8 8) false).run Tryz.prog V7 = .ok (.func (.func 34) #[] #[]) V7 := hk
                have hc := forget_any V7 I g { s with works := some x, bytes := bs } x hm6 rfl hn
                clear hk
                go_wp2_with fail
                refine hc.mono ?_
                rintro e w9 ⟨v, rfl, hv⟩
                go_wp2_with fail
                go_ret
                have er : r = askM { s with works := some x, bytes := bs } x.dst (plainO 8 x.num) := by rw [HR3.out]; unfold firstM; rw [if_neg (by omega), if_neg (by omega), if_neg (by omega), if_neg (by omega), if_neg (by omega), if_neg (by omega)]
                rw [er]
                exact ⟨_, rfl, hv.back f6⟩
            | false =>
              have e : bs = [] := by rw [← hbs, if_neg (by decide)]
              have c28 : w3.cell? ⟨g, 28, none⟩ = some (.slice Ab s.bytes.length cb) := by simpa using m3.cell 28
              have f28 := m3.frozen 28
              obtain ⟨w4, hw4⟩ : ∃ w4, w4 = w3.setCell ⟨g, 28, none⟩ (.slice none 0 0) := ⟨_, rfl⟩
              have m4 : Blk w4 g 79 (mvA s.line.isSome a Ao co s.since s.next s.works.isSome y bs none 0) := by rw [hw4, e]; exact m3.set_ 28 _
              have f34 : Fr (· = g) w3 w4 := by rw [hw4]; exact (Fr.refl (· = g) w3).set1 _ _
              have s4 : Sl w4 I none (bs.map B8) := by rw [e]; exact Sl.nil _ _ _
              have f4 : Fr (· = g) w w4 := q3.tr f34
              have b4 := b3.fr f34 (by omega)
              have a4 := h5.fr ((Nw.on Q3 : Fr (· = g) w2 w3).tr f34) hnI
              have HB := Lib.hid e
              have HW4 := Lib.hid hw4
              have F34 := Lib.hid f34
              clear m3 b3 s3 hbs f34 e hw4
              go_upto_region 11 with (fail)
              rw [← HW4.out]
              clear c28 f28
              have d19 : w4.cell? ⟨g, 19, none⟩ = some (.bool s.works.isSome) := by simpa using m4.cell 19
              have d20 : w4.cell? ⟨g, 20, none⟩ = some (I64 y.num) := by simpa using m4.cell 20
              have d21 : w4.cell? ⟨g, 21, none⟩ = some (StrV y.lo) := by simpa using m4.cell 21
              have d22 : w4.cell? ⟨g, 22, none⟩ = some (StrV y.hi) := by simpa using m4.cell 22
              have d23 : w4.cell? ⟨g, 23, none⟩ = some (I64 y.src) := by simpa using m4.cell 23
              have d24 : w4.cell? ⟨g, 24, none⟩ = some (I64 y.dst) := by simpa using m4.cell 24
              have d25 : w4.cell? ⟨g, 25, none⟩ = some (I64 y.epoch) := by simpa using m4.cell 25
              have d26 : w4.cell? ⟨g, 26, none⟩ = some (I64 y.under) := by simpa using m4.cell 26
              have d27 : w4.cell? ⟨g, 27, none⟩ = some (U8V y.stage) := by simpa using m4.cell 27
              have hfz : ∀ k, w4.frozen? ⟨g, k, none⟩ = false := fun k => m4.frozen k
              have e0 : w4.cell? ⟨w.heap.size, 0, none⟩ = some (I64 x.num) := by simpa using b4.cell 0
              have e1 : w4.cell? ⟨w.heap.size, 1, none⟩ = some (StrV x.lo) := by simpa using b4.cell 1
              have e2 : w4.cell? ⟨w.heap.size, 2, none⟩ = some (StrV x.hi) := by simpa using b4.cell 2
              have e3 : w4.cell? ⟨w.heap.size, 3, none⟩ = some (I64 x.src) := by simpa using b4.cell 3
              have e4 : w4.cell? ⟨w.heap.size, 4, none⟩ = some (I64 x.dst) := by simpa using b4.cell 4
              have e5 : w4.cell? ⟨w.heap.size, 5, none⟩ = some (I64 x.epoch) := by simpa using b4.cell 5
              have e6 : w4.cell? ⟨w.heap.size, 6, none⟩ = some (I64 x.under) := by simpa using b4.cell 6
              have e7 : w4.cell? ⟨w.heap.size, 7, none⟩ = some (U8V x.stage) := by simpa using b4.cell 7
              obtain ⟨W5, hW5⟩ : ∃ W5, W5 = (((((((((w4.setCell ⟨g, 19, none⟩ (.bool true)).setCell ⟨g, 20, none⟩ (.int .i64 x.num)).setCell ⟨g, 21, none⟩ (.string ⟨x.lo.toArray⟩)).setCell ⟨g, 22, none⟩ (.string ⟨x.hi.toArray⟩)).setCell ⟨g, 23, none⟩ (.int .i64 x.src)).setCell ⟨g, 24, none⟩ (.int .i64 x.dst)).setCell ⟨g, 25, none⟩ (.int .i64 x.epoch)).setCell ⟨g, 26, none⟩ (.int .i64 x.under)).setCell ⟨g, 27, none⟩ (.int .u8 x.stage)).drew := ⟨_, rfl⟩
              have m5 : Blk W5 g 79 (mvA s.line.isSome a Ao co s.since s.next true x bs none 0) := by rw [hW5]; exact (Blk.setCells (m4.set_ 19 _) 20 (schA x).toList).drew
              have f45 : Fr (· = g) w4 W5 := by rw [hW5]; exact (((Fr.refl (· = g) w4).set1 19 _).setCells 20 (schA x).toList).drew
              have hm5 : IsMv W5 I g { s with works := some x, bytes := bs } := ⟨a, Ao, co, x, none, 0, m5, h2, fun z hz => by injection hz, fun h => (by cases h), a4.fr f45 hnI, s4.fr f45 hnI, h7, hbl, h9, fun k hk => Nat.lt_of_lt_of_le (h10 k hk) (Nat.le_trans (Q3.size) (Nat.le_trans F34.out.size f45.size))⟩
              have b5 := b4.fr f45 (by omega)
              have f5 : Fr (· = g) w W5 := f4.tr f45
              have HW5 := Lib.hid hW5
              clear hW5
              go_region
              rw [← HW5.out]
              clear d19 d20 d21 d22 d23 d24 d25 d26 d27 hfz e0 e1 e2 e3 e4 e5 e6 e7 m4 s4 a4 b4 m5 f45
              have hmm := @run_makeMap Tryz.prog
              have M0 : MapU Tryz.prog 32 (W5.alloc (.map #[] 0)) W5.heap.size 0 (fun _ => none) := MapU.made W5 rfl
              have p0 : Nw W5 (W5.alloc (.map #[] 0)) := (Fr.refl _ W5).alloc _
              obtain ⟨V1, r1, M1, u1⟩ := M0.put stage_keys Tryz.underlying84 (by unfold maxLen; omega) 1 (u8Wf (by omega)) (by simp) (.func (.func 28) #[] #[])
              have p1 := p0.trans u1 (fun q e => .inr (by omega))
              obtain ⟨V2, r2, M2, u2⟩ := M1.put stage_keys Tryz.underlying84 (by unfold maxLen; omega) 2 (u8Wf (by omega)) (by simp) (.func (.func 29) #[] #[])
              have p2 := p1.trans u2 (fun q e => .inr (by omega))
              obtain ⟨V3, r3, M3, u3⟩ := M2.put stage_keys Tryz.underlying84 (by unfold maxLen; omega) 3 (u8Wf (by omega)) (by simp) (.func (.func 30) #[] #[])
              have p3 := p2.trans u3 (fun q e => .inr (by omega))
              obtain ⟨V4, r4, M4, u4⟩ := M3.put stage_keys Tryz.underlying84 (by unfold maxLen; omega) 4 (u8Wf (by omega)) (by simp) (.func (.func 31) #[] #[])
              have p4 := p3.trans u4 (fun q e => .inr (by omega))
              obtain ⟨V5, r5, M5, u5⟩ := M4.put stage_keys Tryz.underlying84 (by unfold maxLen; omega) 5 (u8Wf (by omega)) (by simp) (.func (.func 32) #[] #[])
              have p5 := p4.trans u5 (fun q e => .inr (by omega))
              obtain ⟨V6, r6, M6, u6⟩ := M5.put stage_keys Tryz.underlying84 (by unfold maxLen; omega) 7 (u8Wf (by omega)) (by simp) (.func (.func 33) #[] #[])
              have p6 := p5.trans u6 (fun q e => .inr (by omega))
              obtain ⟨V7, r7, M7, u7⟩ := M6.put stage_keys Tryz.underlying84 (by unfold maxLen; omega) 8 (u8Wf (by omega)) (by simp) (.func (.func 34) #[] #[])
              have p7 := p6.trans u7 (fun q e => .inr (by omega))
              have hm6 := hm5.fr p7 (fun h => h) (fun _ _ h => h)
              have b6 := b5.fr p7 (fun h => h)
              have f6 : Fr (· = g) w V7 := f5.tr (Nw.on p7)
              have hz0 : (zeroValue 83).run Tryz.prog V7 = .ok .nilFunc V7 := by kernel_rfl
              have hlk := fun n hn => M7.look1 stage_keys Tryz.underlying84 hz0 n (u8Wf hn)
              have c7 : V7.cell? ⟨w.heap.size, 7, none⟩ = some (U8V x.stage) := by simpa using b6.cell 7
              have hr2 : r = firstM { s with works := some x, bytes := bs } x := by rw [HR2.out, HBS.out]
              have HR3 := Lib.hid hr2
              have HLK := Lib.hid hlk
              have hstg : x.stage = 1 ∨ x.stage = 2 ∨ x.stage = 3 ∨ x.stage = 4 ∨ x.stage = 5 ∨ x.stage = 7 ∨ x.stage = 8 := by
                have k1 := (schOk_iff.1 hsok.1).2.2.2.2.1
                have k2 := hsok.2
                unfold schOver at k2
                rw [Bool.or_eq_false_iff, decide_eq_false_iff_not, decide_eq_false_iff_not] at k2
                omega
              clear hr2 hlk M0 M1 M2 M3 M4 M5 M6 M7 u1 u2 u3 u4 u5 u6 u7 p0 p1 p2 p3 p4 p5 p6 p7 hm5 b5 f5 b6
              rcases hstg with hs1 | hs1 | hs1 | hs1 | hs1 | hs1 | hs1
              · rw [hs1] at c7
                have hk := HLK.out 1 (by omega)
                have hk2 : (Instr.lookup 84 (.map (some W5.heap.size)) (.int .u8 1) false).run Tryz.prog V7 = .ok (.func (.func 28) #[] #[]) V7 := hk
                have hc := freeze_any V7 I g { s with works := some x, bytes := bs } x hm6 rfl hn
                clear hk
                go_wp2_with fail
                refine hc.mono ?_
                rintro e w9 ⟨v, rfl, hv⟩
                go_wp2_with fail
                go_ret
                have er : r = askM { s with works := some x, bytes := bs } x.src (freezeO x) := by rw [HR3.out]; unfold firstM; rw [if_pos hs1]
                rw [er]
                exact ⟨_, rfl, hv.back f6⟩
              · rw [hs1] at c7
                have hk := HLK.out 2 (by omega)
                have hk2 : (Instr.lookup 84 (.map (some W5.heap.size)) (.int .u8 2) false).run Tryz.prog V7 = .ok (.func (.func 29) #[] #[]) V7 := hk
                have hc := absorb_any V7 I g { s with works := some x, bytes := bs } x hm6 rfl hn
                clear hk
                go_wp2_with fail
                refine hc.mono ?_
                rintro e w9 ⟨v, rfl, hv⟩
                go_wp2_with fail
                go_ret
                have er : r = if bs = [] then askM { s with works := some x, bytes := bs } x.src (freezeO x) else askM { s with works := some x, bytes := bs } x.dst (absorbO x bs) := by rw [HR3.out]; unfold firstM; rw [if_neg (by omega), if_pos hs1]
                rw [er]
                exact ⟨_, rfl, hv.back f6⟩
              · rw [hs1] at c7
                have hk := HLK.out 3 (by omega)
                have hk2 : (Instr.lookup 84 (.map (some W5.heap.size)) (.int .u8 3) false).run Tryz.prog V7 = .ok (.func (.func 30) #[] #[]) V7 := hk
                have hc := turn_any V7 I g { s with works := some x, bytes := bs } x hm6 rfl hn
                clear hk
                go_wp2_with fail
                refine hc.mono ?_
                rintro e w9 ⟨v, rfl, hv⟩
                go_wp2_with fail
                go_ret
                have er : r = askM { s with works := some x, bytes := bs } 0 (stepO x.num 4) := by rw [HR3.out]; unfold firstM; rw [if_neg (by omega), if_neg (by omega), if_pos hs1]
                rw [er]
                exact ⟨_, rfl, hv.back f6⟩
              · rw [hs1] at c7
                have hk := HLK.out 4 (by omega)
                have hk2 : (Instr.lookup 84 (.map (some W5.heap.size)) (.int .u8 4) false).run Tryz.prog V7 = .ok (.func (.func 31) #[] #[]) V7 := hk
                have hc := open_any V7 I g { s with works := some x, bytes := bs } x hm6 rfl hn
                clear hk
                go_wp2_with fail
                refine hc.mono ?_
                rintro e w9 ⟨v, rfl, hv⟩
                go_wp2_with fail
                go_ret
                have er : r = askM { s with works := some x, bytes := bs } x.dst (openO x) := by rw [HR3.out]; unfold firstM; rw [if_neg (by omega), if_neg (by omega), if_neg (by omega), if_pos hs1]
                rw [er]
                exact ⟨_, rfl, hv.back f6⟩
              · rw [hs1] at c7
                have hk := HLK.out 5 (by omega)
                have hk2 : (Instr.lookup 84 (.map (some W5.heap.size)) (.int .u8 5) false).run Tryz.prog V7 = .ok (.func (.func 32) #[] #[]) V7 := hk
                have hc := drop_any V7 I g { s with works := some x, bytes := bs } x hm6 rfl hn
                clear hk
                go_wp2_with fail
                refine hc.mono ?_
                rintro e w9 ⟨v, rfl, hv⟩
                go_wp2_with fail
                go_ret
                have er : r = askM { s with works := some x, bytes := bs } x.src (plainO 7 x.num) := by rw [HR3.out]; unfold firstM; rw [if_neg (by omega), if_neg (by omega), if_neg (by omega), if_neg (by omega), if_pos hs1]
                rw [er]
                exact ⟨_, rfl, hv.back f6⟩
              · rw [hs1] at c7
                have hk := HLK.out 7 (by omega)
                have hk2 : (Instr.lookup 84 (.map (some W5.heap.size)) (.int .u8 7) false).run Tryz.prog V7 = .ok (.func (.func 33) #[] #[]) V7 := hk
                have hc := thaw_any V7 I g { s with works := some x, bytes := bs } x hm6 rfl hn
                clear hk
                go_wp2_with fail
                refine hc.mono ?_
                rintro e w9 ⟨v, rfl, hv⟩
                go_wp2_with fail
                go_ret
                have er : r = askM { s with works := some x, bytes := bs } x.src (plainO 4 x.num) := by rw [HR3.out]; unfold firstM; rw [if_neg (by omega), if_neg (by omega), if_neg (by omega), if_neg (by omega), if_neg (by omega), if_pos hs1]
                rw [er]
                exact ⟨_, rfl, hv.back f6⟩
              · rw [hs1] at c7
                have hk := HLK.out 8 (by omega)
                have hk2 : (Instr.lookup 84 (.map (some W5.heap.size)) (.int .u8 8) false).run Tryz.prog V7 = .ok (.func (.func 34) #[] #[]) V7 := hk
                have hc := forget_any V7 I g { s with works := some x, bytes := bs } x hm6 rfl hn
                clear hk
                go_wp2_with fail
                refine hc.mono ?_
                rintro e w9 ⟨v, rfl, hv⟩
                go_wp2_with fail
                go_ret
                have er : r = askM { s with works := some x, bytes := bs } x.dst (plainO 8 x.num) := by rw [HR3.out]; unfold firstM; rw [if_neg (by omega), if_neg (by omega), if_neg (by omega), if_neg (by omega), if_neg (by omega), if_neg (by omega)]
                rw [er]
                exact ⟨_, rfl, hv.back f6⟩
end Go.Proofs.YtfglibkffcogcaaGreat
