/- RulingReads: the walk. -/
import Derived.Test.YtgmcjfjdjnoljaaRuN
import Derived.Test.YtgmcjfjdjnoljaaRuP
import Derived.Deep.RegionHeld3
namespace Go.Proofs.Ytgmcjfjdjnoljaa
open Go Go.RowKit

theorem ex_one : decV [] ((1, 1), true, 5, []) = (((1, 1), true, 5, []), 0, [((1, 1), true, 5, [])]) := by
  rw [decV_new (by decide) (by rfl) (by decide)]; rfl
theorem ex_two : decV [((1, 1), true, 5, [])] ((1, 1), false, 6, []) = (((1, 1), true, 5, []), 0, [((1, 1), true, 5, [])]) := by
  rw [decV_old (v := ((1, 1), true, 5, [])) (by decide) (by rfl)]
theorem ex_sz (m : Bool) (t : Int) : VerSz ((1, 1), m, t, []) := ⟨by simp, fun r hr => by cases hr⟩
theorem ex_szs : VersSz [((1, 1), true, 5, [])] := fun v hv => by rw [List.mem_singleton.1 hv]; exact ex_sz _ _
theorem ex_wf : NmWf (1, 1) := ⟨WalkArith.wf_i64 (by omega), WalkArith.wf_i64 (by omega)⟩
set_option maxRecDepth 100000 in
set_option maxHeartbeats 4000000 in
theorem awake19 (w : World) : Calls Try.prog 7 #[] w fun e w' => e = .returned (.bool true) ∧ Nw w w' := by
  go_enter Try.func7, Try.ntmps7
  go_wp2_with fail
  refine (bkNew_any _).mono ?_
  rintro e w1 ⟨g, FB, rfl, hb1, q1, hFB⟩
  have hbl := hb1.lt
  have q2 : Nw w1 (w1.alloc (.cells #[.int .i64 1, .int .i64 1] 35)) := (Fr.refl _ w1).alloc _
  have hN := Blk.new w1 35 #[.int .i64 1, .int .i64 1]
  have d1 := bkDecide_any _ FB (fun _ => False) g [] (hb1.fr q2 (fun _ _ h => h)) ((1, 1), true, 5, []) none 0 (Sl.nil _ _ _) (fun _ h => h.elim) (Nat.le_refl _) (Nat.zero_le _) (ex_sz _ _) (fun v hv => by cases hv) ex_wf (by simp)
  rw [ex_one] at d1
  go_wp2_with fail
  refine d1.mono ?_
  rintro e w2 ⟨A2, c2, F2, rfl, _, _, _, hb2, f2, n2⟩
  have hN2 := hN.fr f2 (fun hf => by have := hbl _ hf; omega)
  have hT2 := Blk.new w2 38 #[.int .i64 1, .int .i64 1, .bool true, .int .i64 5, .slice A2 0 c2]
  obtain ⟨w3, hw3⟩ : ∃ w3, w3 = w2.alloc (.cells #[.int .i64 1, .int .i64 1, .bool true, .int .i64 5, .slice A2 0 c2] 38) := ⟨_, rfl⟩
  have q23 : Nw w2 w3 := by rw [hw3]; exact (Fr.refl (fun _ => False) w2).alloc _
  rw [← hw3] at hT2
  have HW3 := Lib.hid hw3
  have hN3 := hN2.fr q23 (fun h => h)
  have k0 : w3.cell? ⟨w1.heap.size, 0, none⟩ = some (.int .i64 1) := by simpa using hN3.cell 0
  have k1 : w3.cell? ⟨w1.heap.size, 1, none⟩ = some (.int .i64 1) := by simpa using hN3.cell 1
  have d2 := bkDecide_any w3 F2 (fun _ => False) g _ (hb2.fr q23 (fun _ _ h => h)) ((1, 1), false, 6, []) none 0 (Sl.nil _ _ _) (fun _ h => h.elim) (Nat.le_refl _) (Nat.zero_le _) (ex_sz _ _) ex_szs ex_wf (by simp)
  simp only [ex_two] at d2
  clear hw3
  have hb2l := hb2.lt
  rw [HW3.out] at k0 k1 d2
  go_wp2_with fail
  refine d2.mono ?_
  rintro e w4 ⟨A4, c4, F4, rfl, _, _, _, hb4, f4, n4⟩
  rw [← HW3.out] at f4 n4
  have hX4 := hT2.fr f4 (fun hf => by have := hb2l _ hf; omega)
  have hY2 := Blk.new w4 38 #[.int .i64 1, .int .i64 1, .bool true, .int .i64 5, .slice A4 0 c4]
  obtain ⟨w5, hw5⟩ : ∃ w5, w5 = w4.alloc (.cells #[.int .i64 1, .int .i64 1, .bool true, .int .i64 5, .slice A4 0 c4] 38) := ⟨_, rfl⟩
  have q45 : Nw w4 w5 := by rw [hw5]; exact (Fr.refl (fun _ => False) w4).alloc _
  rw [← hw5] at hY2
  have hX5 := hX4.fr q45 (fun h => h)
  have hb5 := hb4.fr q45 (fun _ _ h => h)
  have x2 : w5.cell? ⟨w2.heap.size, 2, none⟩ = some (.bool true) := by simpa using hX5.cell 2
  have x3 : w5.cell? ⟨w2.heap.size, 3, none⟩ = some (.int .i64 5) := by simpa using hX5.cell 3
  have y2 : w5.cell? ⟨w4.heap.size, 2, none⟩ = some (.bool true) := by simpa using hY2.cell 2
  have y3 : w5.cell? ⟨w4.heap.size, 3, none⟩ = some (.int .i64 5) := by simpa using hY2.cell 3
  clear k0 k1
  rw [hw5] at x2 x3 y2 y3 hb5 q45
  clear hw5
  go_wp2_with (go_at_call 20; refine (bkMany_any _ _ _ _ hb5).mono ?_; rintro e w' ⟨rfl, rfl⟩)
  go_ret
  have hw1 := q1.size
  have hw2 := q2.size
  refine ⟨rfl, ?_⟩
  have a1 : Fr (fun k => w.heap.size ≤ k) w w2 := (Nw.on (q1.tr q2)).trans f2 fun k hk => .inr (hFB k hk)
  have hF2 : ∀ k, F2 k → w.heap.size ≤ k := fun k hk => (n2 k hk).elim (hFB k) (fun h => by omega)
  have a2 : Fr (fun k => w.heap.size ≤ k) w _ := ((a1.tr (Nw.on q23)).trans f4 fun k hk => .inr (hF2 k hk)).tr (Nw.on q45)
  exact a2.mono fun k hk => .inr hk

set_option maxRecDepth 100000 in
set_option maxHeartbeats 4000000 in
theorem reads19_walk (w : World) (A : Option Addr) (c : Nat) (bs : List UInt8) (hs : Sl w (· < w.heap.size) A (bs.map B8)) (hc1 : bs.length ≤ c) (hc2 : c ≤ maxLen) :
    Calls Try.prog 4 #[.slice A bs.length c] w fun e w' => e = .returned (.bool true) ∧ Nw w w' := by
  obtain ⟨n, hn⟩ : ∃ n, n = bs.length := ⟨_, rfl⟩
  by_cases h5 : n ≤ 5000
  · have h5i : ¬ (5000 : Int) < (n : Int) := by omega
    have h5d : decide ((5000 : Int) < (n : Int)) = false := decide_eq_false h5i
    have hnr := newReader_any w _ A c bs hs (by omega)
    rw [← hn] at hnr hc1 ⊢
    have HNL := Lib.hid hn
    clear hn
    go_enter Try.func4, Try.ntmps4
    go_wp2_with fail
    refine hnr.mono ?_
    rintro e w1 ⟨gr, F, rfl, hr1, q1, hgr, hF⟩
    have q2 : Nw w1 (w1.alloc (.cells #[.slice A n c, .bool false] 73)) := (Fr.refl _ w1).alloc _
    have hr2 := hr1.fr q2 (fun h => h) (fun _ _ h => h)
    have hm2 : IsRR (w1.alloc (.cells #[.slice A n c, .bool false] 73)) (· < w.heap.size) w1.heap.size (some bs) := by
      refine ⟨A, c, ?_, by rw [← HNL.out]; exact hc1, hc2, (hs.fr q1 (fun _ _ h => h)).fr q2 (fun _ _ h => h), by have := q1.size; omega, fun k hk => by have := q1.size; simp; omega⟩
      rw [← HNL.out]
      exact Blk.new w1 73 #[.slice A n c, .bool false]
    have hsz : rdLeft (some bs) ≤ 1000000000000 := by show bs.length ≤ _; rw [← HNL.out]; omega
    have hrd := bkRead_any _ F gr _ hr2 hsz
    have hrr := fun w3 h => rbRead_any w3 (· < w.heap.size) w1.heap.size _ h hsz
    have hok : ∀ l t, rdBook (some bs) = some (l, t) → t ≠ none ∧ BookOk l ∧ l.length ≤ 1073741824 := by
      intro l t h
      unfold rdBook at h
      split at h
      · cases h
      · rename_i l' t' hb
        split at h
        · cases h
        · rename_i ht
          injection h with h; injection h with h1 h2
          subst h1; subst h2
          have := bkN_ok hb
          have h3 := rdNum_most 1073741824 (some bs) (by omega)
          exact ⟨ht, this.1, by omega⟩
    generalize rdBook (some bs) = res at hrd hrr hok
    go_wp2_with fail
    refine hrd.mono ?_
    rintro e w3 ⟨f3, hres⟩
    have hgw : gr < w1.heap.size := hr1.lt
    have hm3 := hm2.fr f3 (by omega) (fun k hk e => by omega)
    cases res with
    | none =>
      obtain rfl := hres
      go_wp2_with fail
      refine (hrr _ hm3).mono ?_
      rintro e w4 ⟨f4, rfl⟩
      have n4 : Nw w w4 := ((q1.tr q2).trans f3 fun k hk => .inr (by omega)).trans f4 fun k hk => .inr (by have := q1.size; omega)
      go_wp2_with fail
      refine wp_region_later (by kernel_rfl) (by kernel_rfl) ?_
      repeat (go_big_quiet_step ((go_at_call 7; exact Later.call (awake19 _))))
      refine wpQuiet_later fun w5 q5 => ?_
      go_wp2_with fail
      go_ret
      exact ⟨rfl, n4.tr q5⟩
    | some p =>
      obtain ⟨l, t⟩ := p
      obtain ⟨g, FB, rfl, hb3, hr3, hFB⟩ := hres
      obtain ⟨ht, hbo, hll⟩ := hok l t rfl
      obtain ⟨bs2, rfl⟩ : ∃ b, t = some b := by
        cases t with
        | none => exact (ht rfl).elim
        | some b => exact ⟨b, rfl⟩
      have hz := bookOk_sz hbo
      clear hok ht
      go_wp2_with fail
      refine (hrr _ hm3).mono ?_
      rintro e w4 ⟨f4, gR, FR, rfl, hR, hm4, hFR⟩
      have n4 : Nw w w4 := ((q1.tr q2).trans f3 fun k hk => .inr (by omega)).trans f4 fun k hk => .inr (by have := q1.size; omega)
      have hb4 := hb3.fr f4 (fun k hk e => by have := hFB k hk; simp at this; omega)
      have hr4 := hr3.fr f4 (by omega) (fun k hk e => by have := hr1.out.2 k hk; omega)
      clear hrr hm3 hb3 hr3 hm2 hr2
      obtain ⟨AR, capR, csR, IR, hbR, hoR, hvR, _⟩ := hR
      obtain ⟨AL, capL, hbL, _⟩ := hm4
      have z0 : w4.drew.cell? ⟨gR, 0, none⟩ = some (.slice AR l.length capR) := by simpa using hbR.cell 0
      have z1 : w4.drew.cell? ⟨w1.heap.size, 0, none⟩ = some (.slice AL bs2.length capL) := by simpa using hbL.cell 0
      have zk : ∀ w', Nw w4.drew w' → w'.cell? ⟨gR, 0, none⟩ = some (.slice AR l.length capR) ∧ w'.cell? ⟨w1.heap.size, 0, none⟩ = some (.slice AL bs2.length capL) := fun w' q =>
        ⟨(q.cell hbR.lt (fun h => h)).trans z0, (q.cell hbL.lt (fun h => h)).trans z1⟩
      have cAll := bkAll_any w4.drew FB (fun _ => False) g l (hb4.fr (Fr.refl (fun _ => False) w4).drew (fun _ _ h => h)) none 0 [] (Sl.nil _ _ _) (by simp) hz (by omega)
      have hall : allV [] l = l := by unfold allV; simp
      rw [hall] at cAll
      have cSame : ∀ (w6 : World) (v : Value), OwnVs w4.drew 38 w6 l v → Nw w4.drew w6 → Calls Try.prog 29 #[v, .slice AR l.length capR] w6 fun e w7 => e = .returned (.bool true) ∧ Nw w6 w7 := by
        rintro w6 v ⟨A6, c6, cs6, I6, rfl, o6, v6, _, _⟩ q
        refine (allSame_any w6 _ _ I6 IR l l A6 AR c6 capR cs6 csR o6.sl v6 (hoR.sl.fr (S := fun _ => False) (Fr.trans (Fr.refl _ w4).drew q fun _ h => .inl h) (fun _ _ h => h)) (hvR.fr (S := fun _ => False) (Fr.trans (Fr.refl _ w4).drew q fun _ h => .inl h) (fun _ _ h => h)) hz (by omega)).mono ?_
        rintro e w7 ⟨rfl, q7⟩
        exact ⟨retB (sameVs_iff.2 rfl), q7⟩
      have cLeft : ∀ (w7 : World), Nw w4.drew w7 → Calls Try.prog 35 #[.pointer (some ⟨gr, 0, none⟩)] w7 fun e w' => e = .returned (.int .i64 (bs2.length : Nat)) ∧ w7 = w' := fun w7 q =>
        rdleft_any w7 F gr _ ((hr4.fr (Fr.refl (fun _ => False) w4).drew (fun h => h) (fun _ _ h => h)).fr q (fun h => h) (fun _ _ h => h))
      have n4d : Nw w w4.drew := n4.drew
      have hll2 : ((bs2.length : Int) == (bs2.length : Int)) = true := by simp
      go_wp2_with fail
      (go_region_held3 (fun w' => w'.cell? ⟨gR, 0, none⟩ = some (.slice AR l.length capR) ∧ w'.cell? ⟨w1.heap.size, 0, none⟩ = some (.slice AL bs2.length capL)) (first | go_keep | ((exact k6)) | ((exact k7)) | ((exact k8)))
        ((first | (go_at_call 7; refine (awake19 _).mono ?_; rintro e w8 ⟨rfl, q8⟩; have k8 := zk w8 (q67.tr q8)) | (go_at_call 35; refine (cLeft _ q67).mono ?_; rintro e w' ⟨rfl, rfl⟩) | (go_at_call 29; refine (cSame _ _ hv6 q6).mono ?_; rintro e w7 ⟨rfl, q7⟩; have q67 := q6.tr q7; have k7 := zk w7 q67) | (go_at_call 30; refine cAll.mono ?_; rintro e w6 ⟨v, rfl, hv6, q6⟩; have k6 := zk w6 q6))))
      go_wp2_with fail
      go_ret
      exact ⟨rfl, n4d.tr (q67.tr q8)⟩
  · have h5i : (5000 : Int) < (n : Int) := by omega
    rw [← hn]
    clear hs hc1 hn
    go_enter Try.func4, Try.ntmps4
    go_wp2_with (go_at_call 7; refine (awake19 _).mono ?_; rintro e w1 ⟨rfl, q1⟩)
    go_ret
    exact ⟨rfl, q1⟩
end Go.Proofs.Ytgmcjfjdjnoljaa
