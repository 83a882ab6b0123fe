/- Movers: the document's mover: what it asks first. -/
import Derived.Test.YtfglibkffcogcaaGreatMrA
namespace Go.Proofs.YtfglibkffcogcaaGreat
open Go Go.RowKit

theorem RTo.drew {w w' : World} {I : Nat → Prop} {g : Nat} {r : Mv × List AskT} {v : Value} (h : RTo w.drew I g r v w') : RTo w I g r v w' := h.back (Fr.refl (· = g) w).drew
theorem rask_plain (w : World) (I : Nat → Prop) (g : Nat) (s : Mv) (h : IsRMv w I g s) (group : Int) (o : Ord) (ho : o.bytes = []) (hn : 0 ≤ s.next ∧ s.next ≤ 4611686018427387904) :
    Calls Tryz.prog 60 #[.pointer (some ⟨g, 0, none⟩), I64 group, .agg (ordA (I64 o.kind) o none 0)] w fun e w' => ∃ v, e = .returned v ∧ RTo w I g (askM s group o) v w' := by
  refine (rask_any w I (fun _ => False) g s h group o none 0 (by rw [ho]; exact Sl.nil _ _ _) (fun h => h) (by rw [ho]; decide) hn).mono ?_
  rintro e w' ⟨v, h1, ⟨h2, ⟨I', h3, h4⟩, h5⟩, _⟩
  exact ⟨v, h1, h2.back (Nat.le_refl _) (fun k hk => .inl (hk.elim id (fun h => h.elim))), ⟨I', h3, fun k hk => (h4 k hk).imp (fun h => h.elim id (fun h => h.elim)) id⟩, h5⟩
set_option maxRecDepth 100000 in
theorem rstep_any (w : World) (I : Nat → Prop) (g : Nat) (s : Mv) (x : Sch) (h : IsRMv w I g s) (hx : s.works = some x) (hn : 0 ≤ s.next ∧ s.next ≤ 4611686018427387904) (st : Int) (hst : 0 ≤ st ∧ st ≤ 255) :
    Calls Tryz.prog 44 #[.pointer (some ⟨g, 0, none⟩), .int .u8 st] w fun e w' => ∃ v, e = .returned v ∧ RTo w I g (askM s 0 (stepO x.num st)) v w' := by
  obtain ⟨x', Ab, cb, a, Ao, co, sn, h1, h2, h3, h5, h6, h7, h8, h9, h10⟩ := id h
  have hxe := (h3 x hx).symm
  subst hxe
  have a0 : w.cell? ⟨g, 0, none⟩ = some (.int .i64 x.num) := by simpa using (h1).cell 0
  have hof : Calls Tryz.prog 60 #[.pointer (some ⟨g, 0, none⟩), .int .i64 (0), .agg #[.int .i64 (12), .int .i64 0, .int .i64 0, .int .i64 (0), .slice none 0 0, .bool false, .slice none 0 0, .int .i64 (x.num), .int .i64 (st), .int .i64 0, .string ⟨#[]⟩, .string ⟨#[]⟩, .slice none 0 0]] w fun e w' => ∃ v, e = .returned v ∧ RTo w I g (askM s (0) ⟨12, 0, x.num, st, [], [], []⟩) v w' := rask_plain w I g s (h.fr (Fr.refl (fun _ => False) w) (fun h => h) (fun _ _ h => h)) _ _ rfl hn
  have hwr : IntKind.i64.wrap st = st := IntWalk.i64_in _ (by omega)
  go_enter Tryz.func44, Tryz.ntmps44
  go_wp2_with fail
  refine hof.mono ?_
  rintro e w1 ⟨v, rfl, hv⟩
  go_wp2_with fail
  go_ret
  exact ⟨_, rfl, hv⟩
set_option maxRecDepth 100000 in
theorem rfreeze_any (w : World) (I : Nat → Prop) (g : Nat) (s : Mv) (x : Sch) (h : IsRMv w I g s) (hx : s.works = some x) (hn : 0 ≤ s.next ∧ s.next ≤ 4611686018427387904) :
    Calls Tryz.prog 58 #[.pointer (some ⟨g, 0, none⟩)] w fun e w' => ∃ v, e = .returned v ∧ RTo w I g (askM s x.src (freezeO x)) v w' := by
  obtain ⟨x', Ab, cb, a, Ao, co, sn, h1, h2, h3, h5, h6, h7, h8, h9, h10⟩ := id h
  have hxe := (h3 x hx).symm
  subst hxe
  have a0 : w.drew.cell? ⟨g, 0, none⟩ = some (.int .i64 x.num) := by simpa using (h1.drew).cell 0
  have a1 : w.drew.cell? ⟨g, 1, none⟩ = some (.string ⟨x.lo.toArray⟩) := by simpa using (h1.drew).cell 1
  have a2 : w.drew.cell? ⟨g, 2, none⟩ = some (.string ⟨x.hi.toArray⟩) := by simpa using (h1.drew).cell 2
  have a3 : w.drew.cell? ⟨g, 3, none⟩ = some (.int .i64 x.src) := by simpa using (h1.drew).cell 3
  have a5 : w.drew.cell? ⟨g, 5, none⟩ = some (.int .i64 x.epoch) := by simpa using (h1.drew).cell 5
  have hof : Calls Tryz.prog 60 #[.pointer (some ⟨g, 0, none⟩), .int .i64 (x.src), .agg #[.int .i64 (3), .int .i64 0, .int .i64 0, .int .i64 (x.epoch), .slice none 0 0, .bool false, .slice none 0 0, .int .i64 (x.num), .int .i64 (0), .int .i64 0, .string ⟨(x.lo).toArray⟩, .string ⟨(x.hi).toArray⟩, .slice none 0 0]] w.drew fun e w' => ∃ v, e = .returned v ∧ RTo w.drew I g (askM s (x.src) ⟨3, x.epoch, x.num, 0, x.lo, x.hi, []⟩) v w' := rask_plain w.drew I g s (h.fr (Fr.refl (fun _ => False) w).drew (fun h => h) (fun _ _ h => h)) _ _ rfl hn
  go_enter Tryz.func58, Tryz.ntmps58
  go_upto_region 1 with (fail)
  refine wp_region_tail 22 (by kernel_rfl) (by kernel_rfl) ?_
  simp only [List.take_succ_cons, List.take_zero, List.drop_succ_cons, List.drop_zero]
  repeat still_step
  refine wpStill_nil ?_
  go_wp2_with fail
  refine hof.mono ?_
  rintro e w1 ⟨v, rfl, hv⟩
  go_wp2_with fail
  go_ret
  exact ⟨_, rfl, hv.drew⟩
set_option maxRecDepth 100000 in
set_option maxHeartbeats 2000000 in
theorem rabsorb_any (w : World) (I : Nat → Prop) (g : Nat) (s : Mv) (x : Sch) (h : IsRMv w I g s) (hx : s.works = some x) (hn : 0 ≤ s.next ∧ s.next ≤ 4611686018427387904) :
    Calls Tryz.prog 59 #[.pointer (some ⟨g, 0, none⟩)] w fun e w' => ∃ v, e = .returned v ∧ RTo w I g (askM s x.dst (absorbO x s.bytes)) v w' := by
  obtain ⟨x', Ab, cb, a, Ao, co, sn, h1, h2, h3, h5, h6, h7, h8, h9, h10⟩ := id h
  have hxe := (h3 x hx).symm
  subst hxe
  obtain ⟨nb, hnb⟩ : ∃ nb, nb = s.bytes.length := ⟨_, rfl⟩
  have hS : ∀ w', Nw w w' → w'.cell? ⟨g, 0, none⟩ = some (.int .i64 x.num) ∧ w'.cell? ⟨g, 1, none⟩ = some (.string ⟨x.lo.toArray⟩) ∧ w'.cell? ⟨g, 2, none⟩ = some (.string ⟨x.hi.toArray⟩) ∧ w'.cell? ⟨g, 4, none⟩ = some (.int .i64 x.dst) ∧ w'.cell? ⟨g, 10, none⟩ = some (.slice Ab nb cb) := fun w' f => by
    have k := h1.fr f (fun h => h)
    have k10 : w'.cell? ⟨g, 10, none⟩ = some (.slice Ab s.bytes.length cb) := by simpa using k.cell 10
    rw [← hnb] at k10
    exact ⟨by simpa using k.cell 0, by simpa using k.cell 1, by simpa using k.cell 2, by simpa using k.cell 4, k10⟩
  have hcl := copy_u8 w.drew I Ab cb s.bytes h6 (by omega)
  rw [← hnb] at hcl
  have Q0 : Nw w w.drew := (Fr.refl (fun _ => False) w).drew
  have hof : ∀ w1 A1 c1, Nw w w1 → Own w1 5 1 A1 nb c1 (s.bytes.map B8) → (∀ k, inA A1 k → w.heap.size ≤ k) → Calls Tryz.prog 60 #[.pointer (some ⟨g, 0, none⟩), .int .i64 x.dst, .agg #[.int .i64 (5), .int .i64 0, .int .i64 0, .int .i64 (0), .slice none 0 0, .bool false, .slice none 0 0, .int .i64 (x.num), .int .i64 (0), .int .i64 0, .string ⟨(x.lo).toArray⟩, .string ⟨(x.hi).toArray⟩, .slice A1 nb c1]] w1 fun e w' => ∃ v, e = .returned v ∧ RTo w I g (askM s x.dst (absorbO x s.bytes)) v w' ∧ ∀ j, j < 11 → w'.cell? ⟨g, j, none⟩ = w1.cell? ⟨g, j, none⟩ := fun w1 A1 c1 q ho hA => by
    have hg1 := h1.lt
    have k := rask_any w1 I (inA A1) g s (h.fr q (fun h => h) (fun _ _ h => h)) x.dst (absorbO x s.bytes) A1 c1 ho.sl (fun hk => by have := hA g hk; omega) h8 hn
    have e : (absorbO x s.bytes).bytes.length = nb := by show s.bytes.length = nb; rw [hnb]
    simp only [ordA, e] at k
    refine k.mono ?_
    rintro e w' ⟨v, h1, h2, h6⟩
    exact ⟨v, h1, h2.back2 (Nw.on q) (fun k hk => hk.elim .inl (fun h => .inr (hA k h))), h6⟩
  clear hnb h5 h6
  go_enter Tryz.func59, Tryz.ntmps59
  go_upto_region 1 with (fail)
  go_region_held3 (fun w' => w'.cell? ⟨g, 0, none⟩ = some (.int .i64 x.num) ∧ w'.cell? ⟨g, 1, none⟩ = some (.string ⟨x.lo.toArray⟩) ∧ w'.cell? ⟨g, 2, none⟩ = some (.string ⟨x.hi.toArray⟩) ∧ w'.cell? ⟨g, 4, none⟩ = some (.int .i64 x.dst) ∧ w'.cell? ⟨g, 10, none⟩ = some (.slice Ab nb cb)) (first | (exact hS _ Q0) | (exact s1) | (exact s2) | fail)
    ((first | (go_at_call 60; refine (hof w1 A1 c1 Q1 o1 n1).mono ?_; rintro e w2 ⟨v, rfl, hv, hk⟩; have s2 : _ ∧ _ ∧ _ ∧ _ ∧ _ := ⟨(hk 0 (by omega)).trans s1.1, (hk 1 (by omega)).trans s1.2.1, (hk 2 (by omega)).trans s1.2.2.1, (hk 4 (by omega)).trans s1.2.2.2.1, (hk 10 (by omega)).trans s1.2.2.2.2⟩) | (go_at_call 62; refine hcl.mono ?_; rintro e w1 ⟨A1, c1, rfl, o1, q1, n1⟩; have Q1 := Q0.tr q1; have s1 := hS w1 Q1)))
  all_goals
    go_wp2_with fail
    go_ret
    exact ⟨_, rfl, hv⟩
set_option maxRecDepth 100000 in
set_option maxHeartbeats 4000000 in
theorem rfirst_any (w : World) (I : Nat → Prop) (g : Nat) (s : Mv) (x : Sch) (h : IsRMv w I g s) (hx : s.works = some x) (hn : 0 ≤ s.next ∧ s.next ≤ 4611686018427387904) (hst : x.stage = 1 ∨ x.stage = 2 ∨ x.stage = 3 ∨ x.stage = 4 ∨ x.stage = 5 ∨ x.stage = 7 ∨ x.stage = 8) :
    Calls Tryz.prog 37 #[.pointer (some ⟨g, 0, none⟩)] w fun e w' => ∃ v, e = .returned v ∧ RTo w I g (firstM s x) v w' := by
  obtain ⟨r, hr⟩ : ∃ r, firstM s x = r := ⟨_, rfl⟩
  rw [hr]
  have HR := Lib.hid hr
  clear hr
  have cF := rfreeze_any w I g s x h hx hn
  have cA := rabsorb_any w I g s x h hx hn
  have cS := rstep_any w I g s x h hx hn 4 (by omega)
  obtain ⟨x', Ab, cb, a, Ao, co, sn, h1, h2, h3, h5, h6, h7, h8, h9, h10⟩ := id h
  have hxe := (h3 x hx).symm
  subst hxe
  have a0 : w.cell? ⟨g, 0, none⟩ = some (.int .i64 x.num) := by simpa using (h1).cell 0
  have a3 : w.cell? ⟨g, 3, none⟩ = some (.int .i64 x.src) := by simpa using (h1).cell 3
  have a4 : w.cell? ⟨g, 4, none⟩ = some (.int .i64 x.dst) := by simpa using (h1).cell 4
  have a6 : w.cell? ⟨g, 6, none⟩ = some (.int .i64 x.under) := by simpa using (h1).cell 6
  have b0 : w.drew.cell? ⟨g, 0, none⟩ = some (.int .i64 x.num) := by simpa using (h1.drew).cell 0
  have b3 : w.drew.cell? ⟨g, 3, none⟩ = some (.int .i64 x.src) := by simpa using (h1.drew).cell 3
  have b4 : w.drew.cell? ⟨g, 4, none⟩ = some (.int .i64 x.dst) := by simpa using (h1.drew).cell 4
  have b6 : w.drew.cell? ⟨g, 6, none⟩ = some (.int .i64 x.under) := by simpa using (h1.drew).cell 6
  have a7 : w.cell? ⟨g, 7, none⟩ = some (.int .u8 x.stage) := by simpa using h1.cell 7
  have a9 : w.cell? ⟨g, 9, none⟩ = some (.bool (!decide (s.bytes = []))) := by simpa using h1.cell 9
  have cO : Calls Tryz.prog 60 #[.pointer (some ⟨g, 0, none⟩), .int .i64 (x.dst), .agg #[.int .i64 (6), .int .i64 0, .int .i64 0, .int .i64 (x.under), .slice none 0 0, .bool false, .slice none 0 0, .int .i64 (x.num), .int .i64 (0), .int .i64 0, .string ⟨#[]⟩, .string ⟨#[]⟩, .slice none 0 0]] w.drew fun e w' => ∃ v, e = .returned v ∧ RTo w.drew I g (askM s (x.dst) ⟨6, x.under, x.num, 0, [], [], []⟩) v w' := rask_plain w.drew I g s (h.fr (Fr.refl (fun _ => False) w).drew (fun h => h) (fun _ _ h => h)) _ _ rfl hn
  have c7 : Calls Tryz.prog 60 #[.pointer (some ⟨g, 0, none⟩), .int .i64 (x.src), .agg #[.int .i64 (7), .int .i64 0, .int .i64 0, .int .i64 (0), .slice none 0 0, .bool false, .slice none 0 0, .int .i64 (x.num), .int .i64 (0), .int .i64 0, .string ⟨#[]⟩, .string ⟨#[]⟩, .slice none 0 0]] w fun e w' => ∃ v, e = .returned v ∧ RTo w I g (askM s (x.src) ⟨7, 0, x.num, 0, [], [], []⟩) v w' := rask_plain w I g s (h.fr (Fr.refl (fun _ => False) w) (fun h => h) (fun _ _ h => h)) _ _ rfl hn
  have c4 : Calls Tryz.prog 60 #[.pointer (some ⟨g, 0, none⟩), .int .i64 (x.src), .agg #[.int .i64 (4), .int .i64 0, .int .i64 0, .int .i64 (0), .slice none 0 0, .bool false, .slice none 0 0, .int .i64 (x.num), .int .i64 (0), .int .i64 0, .string ⟨#[]⟩, .string ⟨#[]⟩, .slice none 0 0]] w fun e w' => ∃ v, e = .returned v ∧ RTo w I g (askM s (x.src) ⟨4, 0, x.num, 0, [], [], []⟩) v w' := rask_plain w I g s (h.fr (Fr.refl (fun _ => False) w) (fun h => h) (fun _ _ h => h)) _ _ rfl hn
  have c8 : Calls Tryz.prog 60 #[.pointer (some ⟨g, 0, none⟩), .int .i64 (x.dst), .agg #[.int .i64 (8), .int .i64 0, .int .i64 0, .int .i64 (0), .slice none 0 0, .bool false, .slice none 0 0, .int .i64 (x.num), .int .i64 (0), .int .i64 0, .string ⟨#[]⟩, .string ⟨#[]⟩, .slice none 0 0]] w fun e w' => ∃ v, e = .returned v ∧ RTo w I g (askM s (x.dst) ⟨8, 0, x.num, 0, [], [], []⟩) v w' := rask_plain w I g s (h.fr (Fr.refl (fun _ => False) w) (fun h => h) (fun _ _ h => h)) _ _ rfl hn
  have hx0 := hx
  clear h1 h2 h3 h5 h6 h7 h8 h9 h10 hx
  rcases hst with hs | hs | hs | hs | hs | hs | hs
  · have er : r = askM s x.src (freezeO x) := by rw [← HR.out]; unfold firstM; rw [if_pos hs]
    have ER := Lib.hid er
    clear er
    rw [hs] at a7
    go_enter Tryz.func37, Tryz.ntmps37
    go_wp2_with fail
    refine cF.mono ?_
    rintro e w1 ⟨v, rfl, hv⟩
    go_wp2_with fail
    go_ret
    rw [ER.out]
    exact ⟨_, rfl, hv⟩
  · by_cases hb : s.bytes = []
    · have d : (!decide (s.bytes = [])) = false := by simp [hb]
      rw [d] at a9
      have er : r = askM s x.src (freezeO x) := by rw [← HR.out]; unfold firstM; rw [if_neg (by omega), if_pos hs, if_pos hb]
      have ER := Lib.hid er
      clear er
      rw [hs] at a7
      go_enter Tryz.func37, Tryz.ntmps37
      go_wp2_with fail
      refine cF.mono ?_
      rintro e w1 ⟨v, rfl, hv⟩
      go_wp2_with fail
      go_ret
      rw [ER.out]
      exact ⟨_, rfl, hv⟩
    · have d : (!decide (s.bytes = [])) = true := by simp [hb]
      rw [d] at a9
      have er : r = askM s x.dst (absorbO x s.bytes) := by rw [← HR.out]; unfold firstM; rw [if_neg (by omega), if_pos hs, if_neg hb]
      have ER := Lib.hid er
      clear er
      rw [hs] at a7
      go_enter Tryz.func37, Tryz.ntmps37
      go_wp2_with fail
      refine cA.mono ?_
      rintro e w1 ⟨v, rfl, hv⟩
      go_wp2_with fail
      go_ret
      rw [ER.out]
      exact ⟨_, rfl, hv⟩
  · have er : r = askM s 0 (stepO x.num 4) := by rw [← HR.out]; unfold firstM; rw [if_neg (by omega), if_neg (by omega), if_pos hs]
    have ER := Lib.hid er
    clear er
    rw [hs] at a7
    go_enter Tryz.func37, Tryz.ntmps37
    go_wp2_with fail
    refine cS.mono ?_
    rintro e w1 ⟨v, rfl, hv⟩
    go_wp2_with fail
    go_ret
    rw [ER.out]
    exact ⟨_, rfl, hv⟩
  · have er : r = askM s x.dst (openO x) := by rw [← HR.out]; unfold firstM; rw [if_neg (by omega), if_neg (by omega), if_neg (by omega), if_pos hs]
    have ER := Lib.hid er
    clear er
    rw [hs] at a7
    go_enter Tryz.func37, Tryz.ntmps37
    go_upto_region 12 with (fail)
    refine wp_region_tail 13 (by kernel_rfl) (by kernel_rfl) ?_
    simp only [List.take_succ_cons, List.take_zero, List.drop_succ_cons, List.drop_zero]
    repeat still_step
    refine wpStill_nil ?_
    go_wp2_with fail
    refine cO.mono ?_
    rintro e w1 ⟨v, rfl, hv⟩
    go_wp2_with fail
    go_ret
    rw [ER.out]
    exact ⟨_, rfl, hv.drew⟩
  · have er : r = askM s x.src (plainO 7 x.num) := by rw [← HR.out]; unfold firstM; rw [if_neg (by omega), if_neg (by omega), if_neg (by omega), if_neg (by omega), if_pos hs]
    have ER := Lib.hid er
    clear er
    rw [hs] at a7
    go_enter Tryz.func37, Tryz.ntmps37
    go_wp2_with fail
    refine c7.mono ?_
    rintro e w1 ⟨v, rfl, hv⟩
    go_wp2_with fail
    go_ret
    rw [ER.out]
    exact ⟨_, rfl, hv⟩
  · have er : r = askM s x.src (plainO 4 x.num) := by rw [← HR.out]; unfold firstM; rw [if_neg (by omega), if_neg (by omega), if_neg (by omega), if_neg (by omega), if_neg (by omega), if_pos hs]
    have ER := Lib.hid er
    clear er
    rw [hs] at a7
    go_enter Tryz.func37, Tryz.ntmps37
    go_wp2_with fail
    refine c4.mono ?_
    rintro e w1 ⟨v, rfl, hv⟩
    go_wp2_with fail
    go_ret
    rw [ER.out]
    exact ⟨_, rfl, hv⟩
  · have er : r = askM s x.dst (plainO 8 x.num) := by rw [← HR.out]; unfold firstM; rw [if_neg (by omega), if_neg (by omega), if_neg (by omega), if_neg (by omega), if_neg (by omega), if_neg (by omega)]
    have ER := Lib.hid er
    clear er
    rw [hs] at a7
    go_enter Tryz.func37, Tryz.ntmps37
    go_wp2_with fail
    refine c8.mono ?_
    rintro e w1 ⟨v, rfl, hv⟩
    go_wp2_with fail
    go_ret
    rw [ER.out]
    exact ⟨_, rfl, hv⟩
end Go.Proofs.YtfglibkffcogcaaGreat
