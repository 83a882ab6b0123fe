/- Movers: the document's mover ticks. -/
import Derived.Test.YtfglibkffcogcaaGreatMrB
namespace Go.Proofs.YtfglibkffcogcaaGreat
open Go Go.RowKit

theorem rm_size : (Tryz.prog.info? 65).map (·.size) = some 29 := by kernel_rfl
abbrev zRm (next : Int) : Array Value := rmA zSch false false [] none 0 false zAsk none 0 0 next
theorem zRm_one (next : Int) : (zRm next).all (·.oneCell') = true := by
  rw [List.all_toArray]
  simp only [List.all_cons, List.all_nil]
  rfl
set_option maxRecDepth 100000 in
set_option maxHeartbeats 8000000 in
theorem rtick_any (w : World) (I : Nat → Prop) (g : Nat) (s : Mv) (x : Sch) (under : Bool) (h : IsRMv w I g s) (hl : x.lo.length ≤ 1000000000000) (hh : x.hi.length ≤ 1000000000000)
    (hn : 0 ≤ s.next ∧ s.next ≤ 4611686018427387904) (hs : 0 ≤ s.since ∧ s.since ≤ 100) :
    Calls Tryz.prog 11 #[.pointer (some ⟨g, 0, none⟩), .agg (schA x), .bool under] w fun e w' => ∃ v, e = .returned v ∧ RTo w I g (tickM s x under) v w' := by
  obtain ⟨r, hr⟩ : ∃ r, tickM s x under = r := ⟨_, rfl⟩
  rw [hr]
  have HR := Lib.hid hr
  clear hr
  obtain ⟨W, hW⟩ : ∃ W, W = w.alloc (.cells (schA x) 34) := ⟨_, rfl⟩
  have q0 : Nw w W := by rw [hW]; exact (Fr.refl (fun _ => False) w).alloc _
  have b0 : Blk W w.heap.size 34 (schA x) := by rw [hW]; exact Blk.new w _ _
  have HW := Lib.hid hW
  clear hW
  have hgl : g < w.heap.size := by obtain ⟨_, _, _, _, _, _, _, h1, _⟩ := h; exact h1.lt
  have hcl : ∀ w', Nw W w' → w'.cell? ⟨w.heap.size, 0, none⟩ = some (I64 x.num) ∧ w'.cell? ⟨w.heap.size, 1, none⟩ = some (StrV x.lo) ∧ w'.cell? ⟨w.heap.size, 2, none⟩ = some (StrV x.hi) ∧ w'.cell? ⟨w.heap.size, 3, none⟩ = some (I64 x.src) ∧ w'.cell? ⟨w.heap.size, 4, none⟩ = some (I64 x.dst) ∧ w'.cell? ⟨w.heap.size, 5, none⟩ = some (I64 x.epoch) ∧ w'.cell? ⟨w.heap.size, 6, none⟩ = some (I64 x.under) ∧ w'.cell? ⟨w.heap.size, 7, none⟩ = some (U8V x.stage) := fun w' f => by
    have k := b0.fr f (fun h => h)
    exact ⟨by simpa using k.cell 0, by simpa using k.cell 1, by simpa using k.cell 2, by simpa using k.cell 3, by simpa using k.cell 4, by simpa using k.cell 5, by simpa using k.cell 6, by simpa using k.cell 7⟩
  obtain ⟨bad, hbad⟩ : ∃ bad, (!(under && (schOk x && !schOver x))) = bad := ⟨_, rfl⟩
  obtain ⟨ok, hok⟩ : ∃ z, schOk x = z := ⟨_, rfl⟩
  obtain ⟨ov, hov⟩ : ∃ z, schOver x = z := ⟨_, rfl⟩
  have hb2 : bad = !(under && (ok && !ov)) := by rw [← hbad, hok, hov]
  have cR : ∀ w1, Nw W w1 → ∀ g1, Blk w1 g1 34 (schA x) → Calls Tryz.prog 35 #[.slice (some ⟨g1, 0, none⟩) 1 1] w1 fun e w' => e = .returned (.bool ok) ∧ Nw W w' := fun w1 f g1 hb => (rright1_any w1 x hl hh g1 hb).mono fun e w' h => by rw [hok] at h; exact ⟨h.1, f.tr h.2⟩
  have cO : ∀ w1, Nw W w1 → Calls Tryz.prog 36 #[.agg (schA x)] w1 fun e w' => e = .returned (.bool ov) ∧ Nw W w' := fun w1 f => (rover_any w1 x).mono fun e w' h => by rw [hov] at h; exact ⟨h.1, f.tr h.2⟩
  have HBAD := Lib.hid hbad
  have HB2 := Lib.hid hb2
  clear hb2 hbad
  go_enter Tryz.func11, Tryz.ntmps11
  go_upto_region 1 with (fail)
  rw [← HW.out]
  obtain ⟨k0, k1, k2, k3, k4, k5, k6, k7⟩ := hcl W (Fr.refl _ _)
  go_cut [18] (fun v wx => v = .bool bad ∧ Nw W wx)
  case first =>
    cases under with
    | false =>
      go_wp2_with fail
      go_meet
      exact ⟨congrArg Value.bool (by rw [HB2.out]; rfl), Fr.refl _ _⟩
    | true =>
      have Q : Nw W (W.alloc (.cells (schA x) 34)) := (Fr.refl (fun _ => False) W).alloc _
      go_wp2_with fail
      refine (cR _ Q W.heap.size (Blk.new W _ _)).mono ?_
      rintro e w1 ⟨rfl, Q⟩
      obtain ⟨k0, k1, k2, k3, k4, k5, k6, k7⟩ := hcl w1 Q
      cases ok with
      | false =>
        go_wp2_with fail
        go_meet
        exact ⟨congrArg Value.bool (by rw [HB2.out]; rfl), by assumption⟩
      | true =>
        go_wp2_with fail
        refine (cO w1 Q).mono ?_
        rintro e w2 ⟨rfl, Q⟩
        go_wp2_with fail
        go_meet
        exact ⟨congrArg Value.bool (by rw [HB2.out]; cases ov <;> rfl), by assumption⟩
  case rest =>
    obtain ⟨rfl, Q⟩ := hcut
    obtain ⟨w1, hw1⟩ : ∃ w1, w1 = wc := ⟨_, rfl⟩
    rw [← hw1] at Q ⊢
    clear hw1 cR cO k0 k1 k2 k3 k4 k5 k6 k7
    have hm1 := h.fr (q0.tr Q) (fun h => h) (fun _ _ h => h)
    have q1 : Fr (· = g) w w1 := Nw.on (q0.tr Q)
    obtain ⟨y, Ab, cb, a, Ao, co, sn, h1, h2, h3, h5, h6, h7, h8, h9, h10⟩ := id hm1
    have hnI : ∀ k, I k → ¬ k = g := fun k hk e => h9 (e ▸ hk)
    cases bad with
    | true =>
      have e : tickM s x under = (idleM s, []) := by
        unfold tickM
        rw [if_pos]
        have := HBAD.out
        rw [Bool.not_eq_true'] at this
        exact this
      rw [HR.out] at e
      subst e
      have c28 : w1.cell? ⟨g, 28, none⟩ = some (I64 s.next) := by simpa using h1.cell 28
      have hone := zRm_one s.next
      have hth := Blk.there h1 0 29 (by show 0 + 29 ≤ 29; omega)
      obtain ⟨W2, hW2⟩ : ∃ W2, W2 = w1.setCells g 0 (zRm s.next).toList := ⟨_, rfl⟩
      have m2 : Blk W2 g 65 (zRm s.next) := by rw [hW2]; exact Blk.setCells h1 0 (zRm s.next).toList
      have f2 : Fr (· = g) w1 W2 := by rw [hW2]; exact (Fr.refl (· = g) w1).setCells _ _
      have HW2 := Lib.hid hW2
      clear hW2
      go_upto_region 2 with (fail)
      go_wp2_with (refine wpList_store_mid rfl 65 _ _ rfl g 0 (zRm s.next) rfl rfl hth rm_size hone ?_; rw [← HW2.out])
      go_ret
      exact ⟨_, rfl, .inl ⟨rfl, rfl⟩, ⟨I, ⟨zSch, none, 0, zAsk, none, 0, 0, m2, fun b hb => (by cases hb), fun z hz => (by cases hz), Sl.nil _ _ _, Sl.nil _ _ _, Nat.zero_le _, Nat.zero_le _, h9, fun k hk => Nat.lt_of_lt_of_le (h10 k hk) f2.size⟩, fun k hk => .inl hk⟩, q1.tr f2⟩
    | false =>
      have e : tickM s x under = if sameAt s x = true then againM s else firstM { s with works := some x, bytes := if sameNum s x = true then s.bytes else [] } x := by
        unfold tickM
        rw [if_neg]
        have := HBAD.out
        rw [Bool.not_eq_false'] at this
        rw [this]
        decide
      rw [HR.out] at e
      have HRE := Lib.hid e
      clear e
      have hsok : schOk x = true ∧ schOver x = false := by
        have := HBAD.out
        rw [Bool.not_eq_false', Bool.and_eq_true, Bool.and_eq_true, Bool.not_eq_true'] at this
        exact this.2
      have c8 : w1.cell? ⟨g, 8, none⟩ = some (.bool s.works.isSome) := by simpa using h1.cell 8
      have c0 : w1.cell? ⟨g, 0, none⟩ = some (I64 y.num) := by simpa using h1.cell 0
      have c7 : w1.cell? ⟨g, 7, none⟩ = some (U8V y.stage) := by simpa using h1.cell 7
      obtain ⟨k0, k1, k2, k3, k4, k5, k6, k7⟩ := hcl w1 Q
      obtain ⟨sa, hsa⟩ : ∃ z, sameAt s x = z := ⟨_, rfl⟩
      obtain ⟨sm, hsm⟩ : ∃ z, sameNum s x = z := ⟨_, rfl⟩
      have HSA := Lib.hid hsa
      have HSN := Lib.hid hsm
      clear hsa hsm
      go_upto_region 4 with (fail)
      go_cut [50] (fun v wx => v = .bool (!sa) ∧ Nw w1 wx)
      case first =>
        cases hw : s.works with
        | none =>
          have e3 : sa = false := by rw [← HSA.out]; unfold sameAt; rw [hw]
          rw [hw] at c8
          simp only [Option.isSome_none] at c8
          have E3 := Lib.hid e3
          clear h1 e3
          go_quiet (fail)
          go_wp2_with fail
          go_meet
          exact ⟨congrArg Value.bool (by rw [E3.out]; rfl), (Fr.refl (fun _ => False) w1).drewN _⟩
        | some z =>
          obtain rfl := h3 z hw
          have e : sameAt s x = decide (y.num = x.num ∧ y.stage = x.stage) := by unfold sameAt; rw [hw]
          rw [hw] at c8
          simp only [Option.isSome_some] at c8
          clear h1
          by_cases e1 : y.num = x.num
          · have d1 : (y.num != x.num) = false := by simp [e1]
            have e3 : sa = (y.stage == x.stage) := by rw [← HSA.out, e]; by_cases h : y.stage = x.stage <;> simp [e1, h]
            have E3 := Lib.hid e3
            clear e e1 e3
            go_quiet (fail)
            go_wp2_with fail
            go_meet
            exact ⟨congrArg Value.bool (by rw [E3.out]; rfl), (Fr.refl (fun _ => False) w1).drewN _⟩
          · have d1 : (y.num != x.num) = true := by simp [e1]
            have e3 : sa = false := by rw [← HSA.out, e]; simp [e1]
            have E3 := Lib.hid e3
            clear e e1 e3
            go_quiet (fail)
            go_wp2_with fail
            go_meet
            exact ⟨congrArg Value.bool (by rw [E3.out]; rfl), (Fr.refl (fun _ => False) w1).drewN _⟩
      case rest =>
        obtain ⟨rfl, Q2⟩ := hcut
        obtain ⟨w2, hw2⟩ : ∃ w2, w2 = wc := ⟨_, rfl⟩
        rw [← hw2] at Q2 ⊢
        have m2 := h1.fr Q2 (fun h => h)
        have a2 := h5.fr Q2 (fun _ _ h => h)
        have s2 := h6.fr Q2 (fun _ _ h => h)
        have b2 := b0.fr (Q.tr Q2) (fun h => h)
        have q2 : Fr (· = g) w w2 := q1.tr (Nw.on Q2)
        have hsz2 := Q2.size
        clear hw2 h1 c8 c0 c7 k0 k1 k2 k3 k4 k5 k6 k7
        cases sa with
        | true =>
          have e := HRE.out
          rw [if_pos HSA.out] at e
          have HRA := Lib.hid e
          clear e HRE
          have c11 : w2.cell? ⟨g, 11, none⟩ = some (.bool s.line.isSome) := by simpa using m2.cell 11
          cases hln : s.line with
          | none =>
            have e : r = (s, []) := by rw [HRA.out]; unfold againM; rw [hln]
            have E := Lib.hid e
            rw [hln] at c11
            simp only [Option.isSome_none] at c11
            have hm2 := hm1.fr Q2 (fun h => h) (fun _ _ h => h)
            clear e m2
            go_wp2_with fail
            go_ret
            rw [E.out]
            exact ⟨_, rfl, .inl ⟨rfl, rfl⟩, ⟨I, hm2, fun k hk => .inl hk⟩, q2⟩
          | some b =>
            obtain ⟨hab, hsn⟩ := h2 b hln
            subst hab
            subst hsn
            have e : r = if s.since + 1 < 5 then ({ s with since := s.since + 1 }, []) else ({ s with since := 0 }, [a]) := by rw [HRA.out]; unfold againM; rw [hln]
            have E := Lib.hid e
            rw [hln] at c11 m2
            simp only [Option.isSome_some] at c11 m2
            have c27 : w2.cell? ⟨g, 27, none⟩ = some (I64 s.since) := by simpa using m2.cell 27
            have f27 := m2.frozen 27
            have hwr : wrap64 (s.since + 1) = s.since + 1 := by unfold wrap64; omega
            obtain ⟨W3, hW3⟩ : ∃ W3, W3 = w2.setCell ⟨g, 27, none⟩ (.int .i64 (s.since + 1)) := ⟨_, rfl⟩
            have m3 : Blk W3 g 65 (rmA y s.works.isSome (!decide (s.bytes = [])) s.bytes Ab cb true a Ao co (s.since + 1) s.next) := by rw [hW3]; exact m2.set_ 27 _
            have g3 : Fr (· = g) w2 W3 := by rw [hW3]; exact (Fr.refl (· = g) w2).set1 _ _
            have d27 : W3.cell? ⟨g, 27, none⟩ = some (I64 (s.since + 1)) := by simpa using m3.cell 27
            have e27 := m3.frozen 27
            have HW3 := Lib.hid hW3
            clear hW3 e m2
            by_cases h5s : s.since + 1 < 5
            · go_upto_region 14 with (fail)
              rw [← HW3.out]
              go_wp2_with fail
              go_ret
              have e := E.out
              rw [if_pos (by omega)] at e
              rw [e]
              exact ⟨_, rfl, .inl ⟨rfl, rfl⟩, ⟨I, ⟨y, Ab, cb, a, Ao, co, s.since + 1, by rw [hln]; exact m3, fun c hc => ⟨(h2 c hc).1, rfl⟩, h3, a2.fr g3 hnI, s2.fr g3 hnI, h7, h8, h9, fun k hk => Nat.lt_of_lt_of_le (h10 k hk) (Nat.le_trans hsz2 g3.size)⟩, fun k hk => .inl hk⟩, q2.tr g3⟩
            · obtain ⟨W4, hW4⟩ : ∃ W4, W4 = W3.setCell ⟨g, 27, none⟩ (.int .i64 0) := ⟨_, rfl⟩
              have m4 : Blk W4 g 65 (rmA y s.works.isSome (!decide (s.bytes = [])) s.bytes Ab cb true a Ao co 0 s.next) := by rw [hW4]; exact m3.set_ 27 _
              have g4 : Fr (· = g) w2 W4 := by rw [hW4]; exact g3.set1 _ _
              have HW4 := Lib.hid hW4
              clear hW4
              have hca : ∀ p u, ((askA (I64 a.ord.kind) a Ao co).toList)[p]? = some u → W4.cell? ⟨g, 12 + p, none⟩ = some u := Blk.cells_in m4 12 15
              go_upto_region 14 with (fail)
              rw [← HW3.out]
              go_upto_region 17 with (fail)
              rw [← HW4.out]
              go_wp2_with (refine wl_load_cells rfl 63 _ rfl g 12 rfl (askA (I64 a.ord.kind) a Ao co).toList _ hca Tryz.underlying63 rfl rask_size ?_)
              go_ret
              have e := E.out
              rw [if_neg (by omega)] at e
              rw [e]
              have q5 : Nw W4 (W4.alloc (.cells (askA (I64 a.ord.kind) a Ao co) 63)) := (Fr.refl (fun _ => False) W4).alloc _
              have a4 := (a2.fr g4 hnI).fr q5 (fun _ _ h => h)
              have s4 := (s2.fr g4 hnI).fr q5 (fun _ _ h => h)
              exact ⟨_, rfl, .inr ⟨a, W4.heap.size, Ao, co, I, rfl, rfl, Blk.new W4 _ _, a4, h7, (q2.tr g4).size, fun k hk => .inl hk⟩, ⟨I, ⟨y, Ab, cb, a, Ao, co, 0, by rw [hln]; exact m4.fr q5 (fun h => h), fun c hc => ⟨(h2 c hc).1, rfl⟩, h3, a4, s4, h7, h8, h9, fun k hk => Nat.lt_of_lt_of_le (h10 k hk) (Nat.le_trans hsz2 (Nat.le_trans g4.size q5.size))⟩, fun k hk => .inl hk⟩, (q2.tr g4).tr (Nw.on q5)⟩
        | false =>
          have e := HRE.out
          rw [if_neg (by rw [HSA.out]; decide), HSN.out] at e
          have HR2 := Lib.hid e
          clear e HRE
          have c8 : w2.cell? ⟨g, 8, none⟩ = some (.bool s.works.isSome) := by simpa using m2.cell 8
          have c0 : w2.cell? ⟨g, 0, none⟩ = some (I64 y.num) := by simpa using m2.cell 0
          have k0 : w2.cell? ⟨w.heap.size, 0, none⟩ = some (I64 x.num) := by simpa using b2.cell 0
          go_upto_region 5 with (fail)
          go_cut [65] (fun v wx => v = .bool (!sm) ∧ Nw w2 wx)
          case first =>
            have M2 := Lib.hid m2
            have B2 := Lib.hid b2
            clear m2 b2
            cases hw : s.works with
            | none =>
              have e3 : sm = false := by rw [← HSN.out]; unfold sameNum; rw [hw]
              rw [hw] at c8
              simp only [Option.isSome_none] at c8
              have E3 := Lib.hid e3
              clear e3
              go_quiet (fail)
              go_wp2_with fail
              go_meet
              exact ⟨congrArg Value.bool (by rw [E3.out]; rfl), (Fr.refl (fun _ => False) w2).drewN _⟩
            | some z =>
              obtain rfl := h3 z hw
              have e3 : sm = (y.num == x.num) := by rw [← HSN.out]; unfold sameNum; rw [hw]; by_cases h : y.num = x.num <;> simp [h]
              rw [hw] at c8
              simp only [Option.isSome_some] at c8
              have E3 := Lib.hid e3
              clear e3
              go_quiet (fail)
              go_wp2_with fail
              go_meet
              exact ⟨congrArg Value.bool (by rw [E3.out]; rfl), (Fr.refl (fun _ => False) w2).drewN _⟩
          case rest =>
            obtain ⟨rfl, Q3⟩ := hcut
            obtain ⟨w3, hw3⟩ : ∃ w3, w3 = wc := ⟨_, rfl⟩
            rw [← hw3] at Q3 ⊢
            have m3 := m2.fr Q3 (fun h => h)
            have a3 := a2.fr Q3 (fun _ _ h => h)
            have s3 := s2.fr Q3 (fun _ _ h => h)
            have b3 := b2.fr Q3 (fun h => h)
            have q3 : Fr (· = g) w w3 := q2.tr (Nw.on Q3)
            have hsz3 := Q3.size
            clear hw3 m2 c8 c0 k0 a2 s2 b2
            obtain ⟨bs, hbs⟩ : ∃ bs, (if sm = true then s.bytes else []) = bs := ⟨_, rfl⟩
            have hbl : bs.length ≤ 1000000000 := by rw [← hbs]; split; exact h8; exact Nat.zero_le _
            rw [hbs] at HR2
            go_upto_if 65 with (fail)
            go_cut [] (fun wx => ∃ Ab' cb', Blk wx g 65 (rmA y s.works.isSome (!decide (bs = [])) bs Ab' cb' s.line.isSome a Ao co sn s.next) ∧ Sl wx I Ab' (bs.map B8) ∧ Fr (· = g) w3 wx)
            case first =>
              cases sm with
              | true =>
                have e : s.bytes = bs := by rw [← hbs, if_pos rfl]
                rw [e] at m3 s3
                clear hbs e
                have M3 := Lib.hid m3
                clear m3
                go_wp2_with fail
                go_meet
                exact ⟨Ab, cb, M3.out, s3, Fr.refl _ _⟩
              | false =>
                have e : bs = [] := by rw [← hbs, if_neg (by decide)]
                have c9 : w3.cell? ⟨g, 9, none⟩ = some (.bool (!decide (s.bytes = []))) := by simpa using m3.cell 9
                have c10 : w3.cell? ⟨g, 10, none⟩ = some (.slice Ab s.bytes.length cb) := by simpa using m3.cell 10
                have hfz : ∀ k, w3.frozen? ⟨g, k, none⟩ = false := fun k => m3.frozen k
                have M3 := Lib.hid m3
                have E := Lib.hid e
                clear m3 hbs e
                go_wp2_with fail
                go_meet
                rw [E.out]
                exact ⟨none, 0, (M3.out.set_ 9 _).set_ 10 _, Sl.nil _ _ _, ((Fr.refl (· = g) w3).set1 _ _).set1 _ _⟩
            case rest =>
              obtain ⟨Ab', cb', m4, s4, f34⟩ := hcut
              obtain ⟨w4, hw4⟩ : ∃ w4, w4 = wc := ⟨_, rfl⟩
              rw [← hw4] at m4 s4 f34 ⊢
              have f4 : Fr (· = g) w w4 := q3.tr f34
              have b4 := b3.fr f34 (by omega)
              have a4 := a3.fr f34 hnI
              have hsz4 := f34.size
              clear hw4 m3 b3 s3 a3 hbs
              have c8 : w4.cell? ⟨g, 8, none⟩ = some (.bool s.works.isSome) := by simpa using m4.cell 8
              have f8 := m4.frozen 8
              obtain ⟨W5, hW5⟩ : ∃ W5, W5 = w4.setCell ⟨g, 8, none⟩ (.bool true) := ⟨_, rfl⟩
              have m5 : Blk W5 g 65 (rmA y true (!decide (bs = [])) bs Ab' cb' s.line.isSome a Ao co sn s.next) := by rw [hW5]; exact m4.set_ 8 _
              have f45 : Fr (· = g) w4 W5 := by rw [hW5]; exact (Fr.refl (· = g) w4).set1 _ _
              have b5 := b4.fr f45 (by omega)
              have hcx : ∀ p u, ((schA x).toList)[p]? = some u → W5.cell? ⟨w.heap.size, 0 + p, none⟩ = some u := Blk.cells_in b5 0 8
              have hth := Blk.there m5 0 8 (by show 0 + 8 ≤ 29; omega)
              have hone := sch_one x
              obtain ⟨W6, hW6⟩ : ∃ W6, W6 = W5.setCells g 0 (schA x).toList := ⟨_, rfl⟩
              have m6 : Blk W6 g 65 (rmA x true (!decide (bs = [])) bs Ab' cb' s.line.isSome a Ao co sn s.next) := by rw [hW6]; exact Blk.setCells m5 0 (schA x).toList
              have f46 : Fr (· = g) w4 W6 := by rw [hW6]; exact f45.setCells _ _
              have hm6 : IsRMv W6 I g { s with works := some x, bytes := bs } := ⟨x, Ab', cb', a, Ao, co, sn, m6, h2, fun z hz => by injection hz, a4.fr f46 hnI, s4.fr f46 hnI, h7, hbl, h9, fun k hk => Nat.lt_of_lt_of_le (h10 k hk) (Nat.le_trans hsz2 (Nat.le_trans hsz3 (Nat.le_trans hsz4 f46.size)))⟩
              have hstg : x.stage = 1 ∨ x.stage = 2 ∨ x.stage = 3 ∨ x.stage = 4 ∨ x.stage = 5 ∨ x.stage = 7 ∨ x.stage = 8 := by
                have k1 := (schOk_iff.1 hsok.1).2.2.2.2.1
                have k2 := hsok.2
                unfold schOver at k2
                rw [Bool.or_eq_false_iff, decide_eq_false_iff_not, decide_eq_false_iff_not] at k2
                omega
              have hc := rfirst_any W6 I g { s with works := some x, bytes := bs } x hm6 rfl hn hstg
              have HW5 := Lib.hid hW5
              have HW6 := Lib.hid hW6
              clear hW5 hW6 m4 m5 m6 hm6
              go_upto_region 9 with (fail)
              rw [← HW5.out]
              go_upto_region 10 with (first | (refine wl_load_cells rfl 34 _ rfl w.heap.size 0 rfl (schA x).toList _ hcx Tryz.underlying34 rfl sch_size ?_) | (refine wpList_store_mid rfl 34 _ _ rfl g 0 (schA x) rfl rfl hth sch_size hone ?_))
              rw [← HW6.out]
              go_wp2_with fail
              refine hc.mono ?_
              rintro e w9 ⟨v, rfl, hv⟩
              go_wp2_with fail
              go_ret
              rw [HR2.out]
              exact ⟨_, rfl, hv.back (f4.tr f46)⟩
end Go.Proofs.YtfglibkffcogcaaGreat
