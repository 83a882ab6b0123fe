/- Movers: the program's mover: what it asks. -/
import Derived.Test.YtfglibkffcogcaaGreatMoB
namespace Go.Proofs.YtfglibkffcogcaaGreat
open Go Go.RowKit

theorem MvTo.drew {w w' : World} {I : Nat → Prop} {g : Nat} {r : Mv × List AskT} {v : Value} (h : MvTo w.drew I g r v w') : MvTo w I g r v w' := ⟨h.1, h.2.1, (Fr.refl (· = g) w).drew.tr h.2.2⟩
theorem of_plain (w : World) (I : Nat → Prop) (g : Nat) (s : Mv) (h : IsMv w I g s) (group : Int) (o : Ord) (ho : o.bytes = []) (hn : 0 ≤ s.next ∧ s.next ≤ 4611686018427387904) :
    Calls Tryz.prog 53 #[.pointer (some ⟨g, 0, none⟩), I64 group, .agg (ordA (U8V o.kind) o none 0)] w fun e w' => ∃ v, e = .returned v ∧ MvTo w I g (askM s group o) v w' := by
  refine (of_any w I (fun _ => False) g s h group o none 0 (by rw [ho]; exact Sl.nil _ _ _) (fun h => h) (by rw [ho]; decide) hn).mono ?_
  rintro e w' ⟨v, h1, ⟨h2, ⟨I', h3, h4⟩, h5⟩, _⟩
  exact ⟨v, h1, h2, ⟨I', h3, fun k hk => (h4 k hk).imp (fun h => h.elim id (fun h => h.elim)) id⟩, h5⟩
set_option maxRecDepth 100000 in
theorem freeze_any (w : World) (I : Nat → Prop) (g : Nat) (s : Mv) (x : Sch) (h : IsMv w I g s) (hx : s.works = some x) (hn : 0 ≤ s.next ∧ s.next ≤ 4611686018427387904) :
    Calls Tryz.prog 28 #[.pointer (some ⟨g, 0, none⟩)] w fun e w' => ∃ v, e = .returned v ∧ MvTo w I g (askM s x.src (freezeO x)) v w' := by
  obtain ⟨a, Ao, co, x', Ab, cb, h1, h2, h3, h4, h5, h6, h7, h8, h9, h10⟩ := id h
  have hxe := (h3 x hx).symm
  subst hxe
  have a20 : w.drew.cell? ⟨g, 20, none⟩ = some (.int .i64 x.num) := by simpa using (h1.drew).cell 20
  have a21 : w.drew.cell? ⟨g, 21, none⟩ = some (.string ⟨x.lo.toArray⟩) := by simpa using (h1.drew).cell 21
  have a22 : w.drew.cell? ⟨g, 22, none⟩ = some (.string ⟨x.hi.toArray⟩) := by simpa using (h1.drew).cell 22
  have a23 : w.drew.cell? ⟨g, 23, none⟩ = some (.int .i64 x.src) := by simpa using (h1.drew).cell 23
  have a25 : w.drew.cell? ⟨g, 25, none⟩ = some (.int .i64 x.epoch) := by simpa using (h1.drew).cell 25
  have hof : Calls Tryz.prog 53 #[.pointer (some ⟨g, 0, none⟩), .int .i64 (x.src), .agg #[.int .u8 (3), .int .i64 0, .int .i64 0, .int .i64 (x.epoch), .slice none 0 0, .bool false, .slice none 0 0, .int .i64 (x.num), .int .i64 (0), .int .i64 0, .string ⟨(x.lo).toArray⟩, .string ⟨(x.hi).toArray⟩, .slice none 0 0]] w.drew fun e w' => ∃ v, e = .returned v ∧ MvTo w.drew I g (askM s (x.src) ⟨3, x.epoch, x.num, 0, x.lo, x.hi, []⟩) v w' := of_plain w.drew I g s (h.fr (Fr.refl (fun _ => False) w).drew (fun h => h) (fun _ _ h => h)) _ _ rfl hn
  go_enter Tryz.func28, Tryz.ntmps28
  go_upto_region 1 with (fail)
  refine wp_region_tail 24 (by kernel_rfl) (by kernel_rfl) ?_
  simp only [List.take_succ_cons, List.take_zero, List.drop_succ_cons, List.drop_zero]
  repeat still_step
  refine wpStill_nil ?_
  go_wp2_with fail
  refine hof.mono ?_
  rintro e w1 ⟨v, rfl, hv⟩
  go_wp2_with fail
  go_ret
  exact ⟨_, rfl, hv.drew⟩
set_option maxRecDepth 100000 in
theorem open_any (w : World) (I : Nat → Prop) (g : Nat) (s : Mv) (x : Sch) (h : IsMv w I g s) (hx : s.works = some x) (hn : 0 ≤ s.next ∧ s.next ≤ 4611686018427387904) :
    Calls Tryz.prog 31 #[.pointer (some ⟨g, 0, none⟩)] w fun e w' => ∃ v, e = .returned v ∧ MvTo w I g (askM s x.dst (openO x)) v w' := by
  obtain ⟨a, Ao, co, x', Ab, cb, h1, h2, h3, h4, h5, h6, h7, h8, h9, h10⟩ := id h
  have hxe := (h3 x hx).symm
  subst hxe
  have a20 : w.drew.cell? ⟨g, 20, none⟩ = some (.int .i64 x.num) := by simpa using (h1.drew).cell 20
  have a24 : w.drew.cell? ⟨g, 24, none⟩ = some (.int .i64 x.dst) := by simpa using (h1.drew).cell 24
  have a26 : w.drew.cell? ⟨g, 26, none⟩ = some (.int .i64 x.under) := by simpa using (h1.drew).cell 26
  have hof : Calls Tryz.prog 53 #[.pointer (some ⟨g, 0, none⟩), .int .i64 (x.dst), .agg #[.int .u8 (6), .int .i64 0, .int .i64 0, .int .i64 (x.under), .slice none 0 0, .bool false, .slice none 0 0, .int .i64 (x.num), .int .i64 (0), .int .i64 0, .string ⟨#[]⟩, .string ⟨#[]⟩, .slice none 0 0]] w.drew fun e w' => ∃ v, e = .returned v ∧ MvTo w.drew I g (askM s (x.dst) ⟨6, x.under, x.num, 0, [], [], []⟩) v w' := of_plain w.drew I g s (h.fr (Fr.refl (fun _ => False) w).drew (fun h => h) (fun _ _ h => h)) _ _ rfl hn
  go_enter Tryz.func31, Tryz.ntmps31
  go_upto_region 1 with (fail)
  refine wp_region_tail 19 (by kernel_rfl) (by kernel_rfl) ?_
  simp only [List.take_succ_cons, List.take_zero, List.drop_succ_cons, List.drop_zero]
  repeat still_step
  refine wpStill_nil ?_
  go_wp2_with fail
  refine hof.mono ?_
  rintro e w1 ⟨v, rfl, hv⟩
  go_wp2_with fail
  go_ret
  exact ⟨_, rfl, hv.drew⟩
set_option maxRecDepth 100000 in
theorem step_any (w : World) (I : Nat → Prop) (g : Nat) (s : Mv) (x : Sch) (h : IsMv w I g s) (hx : s.works = some x) (hn : 0 ≤ s.next ∧ s.next ≤ 4611686018427387904) (st : Int) (hst : 0 ≤ st ∧ st ≤ 255) :
    Calls Tryz.prog 55 #[.pointer (some ⟨g, 0, none⟩), .int .u8 st] w fun e w' => ∃ v, e = .returned v ∧ MvTo w I g (askM s 0 (stepO x.num st)) v w' := by
  obtain ⟨a, Ao, co, x', Ab, cb, h1, h2, h3, h4, h5, h6, h7, h8, h9, h10⟩ := id h
  have hxe := (h3 x hx).symm
  subst hxe
  have a20 : w.drew.cell? ⟨g, 20, none⟩ = some (.int .i64 x.num) := by simpa using (h1.drew).cell 20
  have hof : Calls Tryz.prog 53 #[.pointer (some ⟨g, 0, none⟩), .int .i64 (0), .agg #[.int .u8 (12), .int .i64 0, .int .i64 0, .int .i64 (0), .slice none 0 0, .bool false, .slice none 0 0, .int .i64 (x.num), .int .i64 (st), .int .i64 0, .string ⟨#[]⟩, .string ⟨#[]⟩, .slice none 0 0]] w.drew fun e w' => ∃ v, e = .returned v ∧ MvTo w.drew I g (askM s (0) ⟨12, 0, x.num, st, [], [], []⟩) v w' := of_plain w.drew I g s (h.fr (Fr.refl (fun _ => False) w).drew (fun h => h) (fun _ _ h => h)) _ _ rfl hn
  have hwr : IntKind.i64.wrap st = st := IntWalk.i64_in _ (by omega)
  go_enter Tryz.func55, Tryz.ntmps55
  go_upto_region 1 with (fail)
  refine wp_region_tail 11 (by kernel_rfl) (by kernel_rfl) ?_
  simp only [List.take_succ_cons, List.take_zero, List.drop_succ_cons, List.drop_zero]
  repeat still_step
  refine wpStill_nil ?_
  go_wp2_with fail
  refine hof.mono ?_
  rintro e w1 ⟨v, rfl, hv⟩
  go_wp2_with fail
  go_ret
  exact ⟨_, rfl, hv.drew⟩
set_option maxRecDepth 100000 in
theorem plain_any (w : World) (I : Nat → Prop) (g : Nat) (s : Mv) (x : Sch) (h : IsMv w I g s) (hx : s.works = some x) (hn : 0 ≤ s.next ∧ s.next ≤ 4611686018427387904) (kd gr : Int) :
    Calls Tryz.prog 56 #[.pointer (some ⟨g, 0, none⟩), .int .u8 kd, .int .i64 gr] w fun e w' => ∃ v, e = .returned v ∧ MvTo w I g (askM s gr (plainO kd x.num)) v w' := by
  obtain ⟨a, Ao, co, x', Ab, cb, h1, h2, h3, h4, h5, h6, h7, h8, h9, h10⟩ := id h
  have hxe := (h3 x hx).symm
  subst hxe
  have a20 : w.drew.cell? ⟨g, 20, none⟩ = some (.int .i64 x.num) := by simpa using (h1.drew).cell 20
  have hof : Calls Tryz.prog 53 #[.pointer (some ⟨g, 0, none⟩), .int .i64 (gr), .agg #[.int .u8 (kd), .int .i64 0, .int .i64 0, .int .i64 (0), .slice none 0 0, .bool false, .slice none 0 0, .int .i64 (x.num), .int .i64 (0), .int .i64 0, .string ⟨#[]⟩, .string ⟨#[]⟩, .slice none 0 0]] w.drew fun e w' => ∃ v, e = .returned v ∧ MvTo w.drew I g (askM s (gr) ⟨kd, 0, x.num, 0, [], [], []⟩) v w' := of_plain w.drew I g s (h.fr (Fr.refl (fun _ => False) w).drew (fun h => h) (fun _ _ h => h)) _ _ rfl hn
  go_enter Tryz.func56, Tryz.ntmps56
  go_upto_region 1 with (fail)
  refine wp_region_tail 11 (by kernel_rfl) (by kernel_rfl) ?_
  simp only [List.take_succ_cons, List.take_zero, List.drop_succ_cons, List.drop_zero]
  repeat still_step
  refine wpStill_nil ?_
  go_wp2_with fail
  refine hof.mono ?_
  rintro e w1 ⟨v, rfl, hv⟩
  go_wp2_with fail
  go_ret
  exact ⟨_, rfl, hv.drew⟩
set_option maxRecDepth 100000 in
theorem turn_any (w : World) (I : Nat → Prop) (g : Nat) (s : Mv) (x : Sch) (h : IsMv w I g s) (hx : s.works = some x) (hn : 0 ≤ s.next ∧ s.next ≤ 4611686018427387904) :
    Calls Tryz.prog 30 #[.pointer (some ⟨g, 0, none⟩)] w fun e w' => ∃ v, e = .returned v ∧ MvTo w I g (askM s 0 (stepO x.num 4)) v w' := by
  have hof := step_any w I g s x h hx hn 4 (by omega)
  go_enter Tryz.func30, Tryz.ntmps30
  go_wp2_with fail
  refine hof.mono ?_
  rintro e w1 ⟨v, rfl, hv⟩
  go_wp2_with fail
  go_ret
  exact ⟨_, rfl, hv⟩
set_option maxRecDepth 100000 in
theorem drop_any (w : World) (I : Nat → Prop) (g : Nat) (s : Mv) (x : Sch) (h : IsMv w I g s) (hx : s.works = some x) (hn : 0 ≤ s.next ∧ s.next ≤ 4611686018427387904) :
    Calls Tryz.prog 32 #[.pointer (some ⟨g, 0, none⟩)] w fun e w' => ∃ v, e = .returned v ∧ MvTo w I g (askM s x.src (plainO 7 x.num)) v w' := by
  have hof := plain_any w I g s x h hx hn 7 x.src
  obtain ⟨a, Ao, co, x', Ab, cb, h1, h2, h3, h4, h5, h6, h7, h8, h9, h10⟩ := id h
  have hxe := (h3 x hx).symm
  subst hxe
  have a23 : w.cell? ⟨g, 23, none⟩ = some (.int .i64 x.src) := by simpa using (h1).cell 23
  go_enter Tryz.func32, Tryz.ntmps32
  go_wp2_with fail
  refine hof.mono ?_
  rintro e w1 ⟨v, rfl, hv⟩
  go_wp2_with fail
  go_ret
  exact ⟨_, rfl, hv⟩
set_option maxRecDepth 100000 in
theorem thaw_any (w : World) (I : Nat → Prop) (g : Nat) (s : Mv) (x : Sch) (h : IsMv w I g s) (hx : s.works = some x) (hn : 0 ≤ s.next ∧ s.next ≤ 4611686018427387904) :
    Calls Tryz.prog 33 #[.pointer (some ⟨g, 0, none⟩)] w fun e w' => ∃ v, e = .returned v ∧ MvTo w I g (askM s x.src (plainO 4 x.num)) v w' := by
  have hof := plain_any w I g s x h hx hn 4 x.src
  obtain ⟨a, Ao, co, x', Ab, cb, h1, h2, h3, h4, h5, h6, h7, h8, h9, h10⟩ := id h
  have hxe := (h3 x hx).symm
  subst hxe
  have a23 : w.cell? ⟨g, 23, none⟩ = some (.int .i64 x.src) := by simpa using (h1).cell 23
  go_enter Tryz.func33, Tryz.ntmps33
  go_wp2_with fail
  refine hof.mono ?_
  rintro e w1 ⟨v, rfl, hv⟩
  go_wp2_with fail
  go_ret
  exact ⟨_, rfl, hv⟩
set_option maxRecDepth 100000 in
theorem forget_any (w : World) (I : Nat → Prop) (g : Nat) (s : Mv) (x : Sch) (h : IsMv w I g s) (hx : s.works = some x) (hn : 0 ≤ s.next ∧ s.next ≤ 4611686018427387904) :
    Calls Tryz.prog 34 #[.pointer (some ⟨g, 0, none⟩)] w fun e w' => ∃ v, e = .returned v ∧ MvTo w I g (askM s x.dst (plainO 8 x.num)) v w' := by
  have hof := plain_any w I g s x h hx hn 8 x.dst
  obtain ⟨a, Ao, co, x', Ab, cb, h1, h2, h3, h4, h5, h6, h7, h8, h9, h10⟩ := id h
  have hxe := (h3 x hx).symm
  subst hxe
  have a24 : w.cell? ⟨g, 24, none⟩ = some (.int .i64 x.dst) := by simpa using (h1).cell 24
  go_enter Tryz.func34, Tryz.ntmps34
  go_wp2_with fail
  refine hof.mono ?_
  rintro e w1 ⟨v, rfl, hv⟩
  go_wp2_with fail
  go_ret
  exact ⟨_, rfl, hv⟩
set_option maxRecDepth 100000 in
set_option maxHeartbeats 2000000 in
theorem absorb_any (w : World) (I : Nat → Prop) (g : Nat) (s : Mv) (x : Sch) (h : IsMv w I g s) (hx : s.works = some x) (hn : 0 ≤ s.next ∧ s.next ≤ 4611686018427387904) :
    Calls Tryz.prog 29 #[.pointer (some ⟨g, 0, none⟩)] w fun e w' => ∃ v, e = .returned v ∧ MvTo w I g (if s.bytes = [] then askM s x.src (freezeO x) else askM s x.dst (absorbO x s.bytes)) v w' := by
  have hfz := freeze_any w I g s x h hx hn
  obtain ⟨a, Ao, co, x', Ab, cb, h1, h2, h3, h4, h5, h6, h7, h8, h9, h10⟩ := id h
  have hxe := (h3 x hx).symm
  subst hxe
  have a28 : w.cell? ⟨g, 28, none⟩ = some (.slice Ab s.bytes.length cb) := by simpa using h1.cell 28
  by_cases hb : s.bytes = []
  · rw [if_pos hb]
    have hb0 : s.bytes.length = 0 := by rw [hb]; rfl
    go_enter Tryz.func29, Tryz.ntmps29
    go_wp2_with fail
    refine hfz.mono ?_
    rintro e w1 ⟨v, rfl, hv⟩
    go_wp2_with fail
    go_ret
    exact ⟨_, rfl, hv⟩
  · rw [if_neg hb]
    clear hfz
    obtain ⟨nb, hnb⟩ : ∃ nb, nb = s.bytes.length := ⟨_, rfl⟩
    have hnz : nb ≠ 0 := by rw [hnb]; exact fun e => hb (List.eq_nil_of_length_eq_zero e)
    have hnz2 : ¬ ((nb : Int) = 0) := by omega
    rw [← hnb] at a28
    have HNB := Lib.hid hnb
    have hS : ∀ w', Nw w w' → w'.cell? ⟨g, 20, none⟩ = some (.int .i64 x.num) ∧ w'.cell? ⟨g, 21, none⟩ = some (.string ⟨x.lo.toArray⟩) ∧ w'.cell? ⟨g, 22, none⟩ = some (.string ⟨x.hi.toArray⟩) ∧ w'.cell? ⟨g, 24, none⟩ = some (.int .i64 x.dst) ∧ w'.cell? ⟨g, 28, none⟩ = some (.slice Ab nb cb) := fun w' f => by
      have k := h1.fr f (fun h => h)
      have k28 : w'.cell? ⟨g, 28, none⟩ = some (.slice Ab s.bytes.length cb) := by simpa using k.cell 28
      rw [← hnb] at k28
      exact ⟨by simpa using k.cell 20, by simpa using k.cell 21, by simpa using k.cell 22, by simpa using k.cell 24, k28⟩
    have hcl := clone_u8 w.drew I Ab cb s.bytes h6 (by omega)
    rw [← hnb] at hcl
    have Q0 : Nw w w.drew := (Fr.refl (fun _ => False) w).drew
    have hof : ∀ w1 A1 c1, Nw w w1 → Own w1 5 1 A1 nb c1 (s.bytes.map B8) → (∀ k, inA A1 k → w.heap.size ≤ k) → Calls Tryz.prog 53 #[.pointer (some ⟨g, 0, none⟩), .int .i64 x.dst, .agg #[.int .u8 (5), .int .i64 0, .int .i64 0, .int .i64 (0), .slice none 0 0, .bool false, .slice none 0 0, .int .i64 (x.num), .int .i64 (0), .int .i64 0, .string ⟨(x.lo).toArray⟩, .string ⟨(x.hi).toArray⟩, .slice A1 nb c1]] w1 fun e w' => ∃ v, e = .returned v ∧ MvTo w I g (askM s x.dst (absorbO x s.bytes)) v w' ∧ ∀ j, w'.cell? ⟨g, j + 18, none⟩ = w1.cell? ⟨g, j + 18, none⟩ := fun w1 A1 c1 q ho hA => by
      have hg1 := h1.lt
      have k := of_any w1 I (inA A1) g s (h.fr q (fun h => h) (fun _ _ h => h)) x.dst (absorbO x s.bytes) A1 c1 ho.sl (fun hk => by have := hA g hk; omega) h8 hn
      have e : (absorbO x s.bytes).bytes.length = nb := by show s.bytes.length = nb; rw [hnb]
      simp only [ordA, e] at k
      refine k.mono ?_
      rintro e w' ⟨v, h1, ⟨h2, ⟨I', h3, h4⟩, h5⟩, h6⟩
      exact ⟨v, h1, ⟨h2.back q.size, ⟨I', h3, fun k hk => (h4 k hk).elim (fun h => h.elim .inl (fun h => .inr (hA k h))) (fun h => .inr (Nat.le_trans q.size h))⟩, (Nw.on q).tr h5⟩, h6⟩
    clear hb hnb h5 h6
    go_enter Tryz.func29, Tryz.ntmps29
    go_upto_region 3 with (fail)
    go_region_held3 (fun w' => w'.cell? ⟨g, 20, none⟩ = some (.int .i64 x.num) ∧ w'.cell? ⟨g, 21, none⟩ = some (.string ⟨x.lo.toArray⟩) ∧ w'.cell? ⟨g, 22, none⟩ = some (.string ⟨x.hi.toArray⟩) ∧ w'.cell? ⟨g, 24, none⟩ = some (.int .i64 x.dst) ∧ w'.cell? ⟨g, 28, none⟩ = some (.slice Ab nb cb)) (first | (exact hS _ Q0) | (exact s1) | (exact s2) | fail)
      ((first | (go_at_call 53; refine (hof w1 A1 c1 Q1 o1 n1).mono ?_; rintro e w2 ⟨v, rfl, hv, hk⟩; have s2 : _ ∧ _ ∧ _ ∧ _ ∧ _ := ⟨(hk 2).trans s1.1, (hk 3).trans s1.2.1, (hk 4).trans s1.2.2.1, (hk 6).trans s1.2.2.2.1, (hk 10).trans s1.2.2.2.2⟩) | (go_at_call 54; refine hcl.mono ?_; rintro e w1 ⟨A1, c1, rfl, o1, q1, n1⟩; have Q1 := Q0.tr q1; have s1 := hS w1 Q1)))
    all_goals
      go_wp2_with fail
      go_ret
      exact ⟨_, rfl, hv⟩
end Go.Proofs.YtfglibkffcogcaaGreat
