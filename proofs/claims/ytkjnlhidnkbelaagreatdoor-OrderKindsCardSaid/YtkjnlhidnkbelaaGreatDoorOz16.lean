/- Lemmas of the walks: OwA. (Laid together by shake.py.) -/
import Derived.Test.YtkjnlhidnkbelaaGreatDoorOz04
import Derived.Test.YtkjnlhidnkbelaaGreatDoorOz06
set_option linter.unusedVariables false
set_option linter.unusedSimpArgs false
namespace Go.Proofs.YtkjnlhidnkbelaaGreatDoor
open Go Go.RowKit
set_option linter.unusedVariables false
set_option linter.unusedSimpArgs false
def RdgSm (l : List Rdg) : Prop := ∀ r ∈ l, r.1.length ≤ 1000 ∧ r.2.2.length ≤ 1000
def ActSm (l : List ActT) : Prop := ∀ a ∈ l, (0 ≤ a.kind ∧ a.kind ≤ 255) ∧ a.key.length ≤ 1000 ∧ a.val.length ≤ 1000 ∧ (-1073741824 ≤ a.num ∧ a.num ≤ 1073741824)
theorem rowB_most (s : List UInt8) : (rowB s).length ≤ 9 + s.length := by
  have := enc_len s.length
  unfold rowB
  simp only [List.length_append]
  omega
theorem rdgs_most (l : List Rdg) (h : RdgSm l) : (rdgsB l).length ≤ 3000 * l.length := by
  induction l with
  | nil => simp [rdgsB]
  | cons r l ih =>
    have h1 := h r (by simp)
    have h2 := ih (fun x hx => h x (by simp [hx]))
    have e : rdgsB (r :: l) = rdgB r ++ rdgsB l := rfl
    have e1 := rowB_most r.1
    have e2 := rowB_most r.2.2
    have e3 : (rdgB r).length = (rowB r.1).length + (1 + (rowB r.2.2).length) := by simp [rdgB, flagB]; omega
    rw [e, List.length_append, List.length_cons]
    omega
theorem acts_most (l : List ActT) (h : ActSm l) : (actsB l).length ≤ 3000 * l.length := by
  induction l with
  | nil => simp [actsB]
  | cons r l ih =>
    have h1 := h r (by simp)
    have h2 := ih (fun x hx => h x (by simp [hx]))
    have e : actsB (r :: l) = actB r ++ actsB l := rfl
    have e1 := rowB_most r.key
    have e2 := rowB_most r.val
    have e4 := enc_len r.kind.toNat
    have e5 := enc_len r.num.natAbs
    have e3 : (actB r).length = (enc r.kind.toNat).length + ((rowB r.key).length + ((rowB r.val).length + (1 + (enc r.num.natAbs).length))) := by simp [actB, flagB]; omega
    rw [e, List.length_append, List.length_cons]
    omega
theorem rdgsB_snoc (l : List Rdg) (k : Nat) (h : k < l.length) : rdgsB (l.take (k + 1)) = rdgsB (l.take k) ++ rdgB l[k] := by
  unfold rdgsB
  rw [List.take_succ_eq_append_getElem h, List.map_append, List.flatten_append]
  simp
theorem actsB_snoc (l : List ActT) (k : Nat) (h : k < l.length) : actsB (l.take (k + 1)) = actsB (l.take k) ++ actB l[k] := by
  unfold actsB
  rw [List.take_succ_eq_append_getElem h, List.map_append, List.flatten_append]
  simp
/-- Some were written. -/
def SwRel (w : World) (F : Nat → Prop) (g : Nat) (f : Nat → List UInt8) (n : Nat) (i : Value) (wr : World) : Prop :=
  ∃ k : Nat, k ≤ n ∧ i = .int .i64 k ∧ WrTo w F g (W8 (f k)) wr
theorem WrTo.after {w w1 w2 : World} {F F1 : Nat → Prop} {g : Nat} {s2 : Wr} (hf : Fr F w w1) (hn : ∀ k, F1 k → F k ∨ w.heap.size ≤ k) (h : WrTo w1 F1 g s2 w2) : WrTo w F g s2 w2 := by
  obtain ⟨F2, h1, h2, h3⟩ := h
  have hs := hf.size
  exact ⟨F2, h1, hf.trans h2 hn, fun k hk => (h3 k hk).elim (hn k) (fun h => .inr (by omega))⟩
theorem nat_right (n : Nat) (h : n ≤ 1073741824) : Right (n : Int) := ⟨by omega, by unfold topN; omega⟩
theorem int_right (n : Int) (h0 : 0 ≤ n) (h : n ≤ 1073741824) : Right n := ⟨h0, by unfold topN; omega⟩
set_option maxRecDepth 100000 in
set_option maxHeartbeats 4000000 in
theorem oreads_any (w : World) (F F2 : Nat → Prop) (g : Nat) (bs : List UInt8) (h : IsWr w F g (W8 bs)) (A : Option Addr) (c : Nat) (l : List Rdg) (hs : Sl w F2 A (rdgsCells l)) (hap : Apart w F2 F) (hz : RdgSm l) (hl : l.length ≤ 6) (hsz : bs.length ≤ 1000000) :
    Calls Tryz.prog 41 #[.agg #[.pointer (some ⟨g, 0, none⟩)], .slice A l.length c] w fun e w' => e = .returned (.tuple #[]) ∧ WrTo w F g (W8 (bs ++ (enc l.length ++ rdgsB l))) w' := by
  obtain ⟨W0, hW0⟩ : ∃ W0, W0 = w.alloc (.cells #[.pointer (some ⟨g, 0, none⟩)] 81) := ⟨_, rfl⟩
  have q0 : Nw w W0 := by rw [hW0]; exact (Fr.refl (fun _ => False) w).alloc _
  have x0 : Blk W0 w.heap.size 81 #[.pointer (some ⟨g, 0, none⟩)] := by rw [hW0]; exact Blk.new w _ _
  have hF0 : ¬ F w.heap.size := fun hF => by have := h.bound _ hF; omega
  have c0 : W0.cell? ⟨w.heap.size, 0, none⟩ = some (.pointer (some ⟨g, 0, none⟩)) := by simpa using x0.cell 0
  have h0 := h.fr q0 (fun _ _ h => h)
  obtain ⟨n, hn⟩ : ∃ n, l.length = n := ⟨_, rfl⟩
  rw [hn] at hl ⊢
  obtain ⟨W1, hW1⟩ : ∃ W1, W1 = W0.alloc (.cells #[I64 n] 3) := ⟨_, rfl⟩
  have q1 : Nw W0 W1 := by rw [hW1]; exact (Fr.refl (fun _ => False) W0).alloc _
  have b1 : Blk W1 W0.heap.size 3 #[I64 n] := by rw [hW1]; exact Blk.new W0 _ _
  have h1 := h0.fr q1 (fun _ _ h => h)
  have hF1 : ¬ F W0.heap.size := fun hF => by have := h0.bound _ hF; omega
  have x1 := x0.fr q1 (fun h => h)
  have hcon := wk_nums W1 F g bs h1 W0.heap.size 1 [(n : Int)] #[I64 n] b1 hF1 rfl rfl (by omega) (by intro x hx; rw [List.mem_singleton.1 hx]; exact nat_right _ (by omega)) (by omega)
  have HW0 := Lib.hid hW0
  have HW1 := Lib.hid hW1
  have HN := Lib.hid hn
  have hz0 : W0.heap.size = w.heap.size + 1 := by rw [hW0]; simp
  rw [hz0] at hcon
  clear hW0 hW1 hn
  go_enter Tryz.func41, Tryz.ntmps41
  go_upto_region 1 with (fail)
  rw [← HW0.out]
  go_upto_region 2 with (go_at_call 38; rw [← HW1.out]; refine hcon.mono ?_; rintro e w2 ⟨rfl, ht⟩)
  obtain ⟨FB, hB, fB, nB⟩ := ht
  have hFB : ¬ FB w.heap.size := fun hF => (nB _ hF).elim hF0 (fun h => by have := x1.lt; omega)
  have x2 := x1.fr fB hF0
  have HQ := Lib.hid (q0.tr q1)
  have hs2 := (hs.fr (q0.tr q1) (fun _ _ h => h)).fr fB (fun k hk => (hap k hk).2)
  have hap2 : ∀ k, F2 k → ¬ FB k := fun k hk hF => (nB k hF).elim (hap k hk).2 (fun h2 => by have := (hap k hk).1; have := (q0.tr q1).size; omega)
  have hB : IsWr w2 FB g (W8 (bs ++ encAll [(n : Int)] ++ [])) := by simpa using hB
  clear hcon hs c0
  go_wp2_with fail
  go_loopw [14] (fun i wx => SwRel w2 FB g (fun k => bs ++ encAll [(n : Int)] ++ rdgsB (l.take k)) n i wx) (fun i _ => n - (intOf i).toNat)
  case atStart => exact ⟨0, Nat.zero_le _, rfl, FB, by simpa [rdgsB] using hB, Fr.refl _ _, fun k hk => .inl hk⟩
  case round =>
    obtain ⟨k, hk, rfl, FC, hC, fC, nC⟩ := hrel
    have hC : IsWr wr FC g (W8 (bs ++ encAll [(n : Int)] ++ rdgsB (l.take k))) := hC
    have x3 := x2.fr fC hFB
    have hFC : ¬ FC w.heap.size := fun hF => (nC _ hF).elim hFB (fun h => by have := x2.lt; omega)
    by_cases hlt : k < n
    · have hkl : k < l.length := by rw [HN.out]; exact hlt
      obtain ⟨b, of, rfl, _, r0, r1, r2⟩ := (hs2.fr fC hap2).rdg hkl
      have hzk := hz _ (List.getElem_mem hkl)
      have hmost := rdgs_most (l.take k) (fun x hx => hz x (List.mem_of_mem_take hx))
      have hmost2 : (rdgsB (l.take k)).length ≤ 3000 * 6 := Nat.le_trans hmost (Nat.mul_le_mul_left _ (by rw [List.length_take]; omega))
      have hen := encAll_le [(n : Int)]
      have hsn := rdgsB_snoc l k hkl
      obtain ⟨r, hr⟩ : ∃ r, l[k] = r := ⟨_, rfl⟩
      rw [hr] at hsn hzk r0 r1 r2
      have HS := Lib.hid hsn
      obtain ⟨bs0, hbs0⟩ : ∃ bs0, bs ++ encAll [(n : Int)] ++ rdgsB (l.take k) = bs0 := ⟨_, rfl⟩
      have hb0 : bs0.length ≤ 2000000 := by rw [← hbs0]; simp only [List.length_append, List.length_cons, List.length_nil] at hen ⊢; omega
      rw [hbs0] at hC
      have HB := Lib.hid hbs0
      clear hmost hmost2 hen hsn hr hbs0
      obtain ⟨W3, hW3⟩ : ∃ W3, W3 = wr.alloc (.cells #[StrV r.1, .bool r.2.1, StrV r.2.2] 93) := ⟨_, rfl⟩
      have q3 : Nw wr W3 := by rw [hW3]; exact (Fr.refl (fun _ => False) wr).alloc _
      have y3 : Blk W3 wr.heap.size 93 #[StrV r.1, .bool r.2.1, StrV r.2.2] := by rw [hW3]; exact Blk.new wr _ _
      have hC3 := hC.fr q3 (fun _ _ h => h)
      have hFy : ¬ FC wr.heap.size := fun hF => by have := hC.bound _ hF; omega
      have x4 := x3.fr q3 (fun h => h)
      have hS : ∀ w1, Fr FC W3 w1 → w1.cell? ⟨wr.heap.size, 0, none⟩ = some (StrV r.1) ∧ w1.cell? ⟨wr.heap.size, 1, none⟩ = some (.bool r.2.1) ∧ w1.cell? ⟨wr.heap.size, 2, none⟩ = some (StrV r.2.2) ∧ w1.cell? ⟨w.heap.size, 0, none⟩ = some (.pointer (some ⟨g, 0, none⟩)) := fun w1 f => by
        have a := y3.fr f hFy
        have b := x4.fr f hFC
        exact ⟨by simpa using a.cell 0, by simpa using a.cell 1, by simpa using a.cell 2, by simpa using b.cell 0⟩
      have hst := WrC.start (cl := [⟨4, 5, 9, #[StrV r.1], rowB r.1⟩, ⟨8, 9, 4, #[.bool r.2.1], flagB r.2.1⟩, ⟨12, 13, 9, #[StrV r.2.2], rowB r.2.2⟩]) hC3 (fun _ => (0, none))
      have HW3 := Lib.hid hW3
      clear hW3 y3 x4
      go_upto_region 5 with (fail)
      rw [← HW3.out]
      refine wp_region_eff2 _ _ (by kernel_rfl) (by kernel_rfl) hst ?_
      clear hst
      apply wpEff2_cons
      focus
        intro B L wz hL hD hC
        refine .inl ⟨by rfl, ?_⟩
        obtain ⟨y0, y1, y2, yg⟩ := hS wz hC.fr
        unfold effAt
        go_simp
        exact ⟨rfl, hC.keep _ (by rfl)⟩
      simp only [Act.put, List.setIfInBounds_toArray, List.set_cons_zero, List.set_cons_succ]
      apply wpEff2_cons
      focus
        intro B L wz hL hD hC
        refine .inl ⟨by rfl, ?_⟩
        obtain ⟨y0, y1, y2, yg⟩ := hS wz hC.fr
        unfold effAt
        go_simp
        exact ⟨rfl, hC.keep _ (by rfl)⟩
      simp only [Act.put, List.setIfInBounds_toArray, List.set_cons_zero, List.set_cons_succ]
      apply wpEff2_cons
      focus
        intro B L wz hL hD hC
        refine .inl ⟨by rfl, ?_⟩
        obtain ⟨y0, y1, y2, yg⟩ := hS wz hC.fr
        unfold effAt
        go_simp
        exact ⟨rfl, hC.keep _ (by rfl)⟩
      simp only [Act.put, List.setIfInBounds_toArray, List.set_cons_zero, List.set_cons_succ]
      apply wpEff2_cons
      focus
        intro B L wz hL hD hC
        refine .inl ⟨by rfl, ?_⟩
        obtain ⟨y0, y1, y2, yg⟩ := hS wz hC.fr
        unfold effAt
        go_simp
        exact ⟨rfl, hC.keep _ (by rfl)⟩
      simp only [Act.put, List.setIfInBounds_toArray, List.set_cons_zero, List.set_cons_succ]
      refine wpEff2_free (fun b => .slice (some ⟨b.1, 0, none⟩) 1 1) ?_ ?_
      focus
        intro B L wz hL hD hC
        refine .inl ⟨by rfl, ?_⟩
        unfold effAt2
        go_simp
        exact ⟨(wz.heap.size, none), rfl, hC.make 4 9 #[StrV r.1] (by intro d hd hk; simp only [List.mem_cons, List.not_mem_nil, or_false] at hd; rcases hd with rfl | rfl | rfl <;> first | exact ⟨rfl, rfl⟩ | exact absurd hk (by simp)) (by rfl)⟩
      simp only [Act.put, List.setIfInBounds_toArray, List.set_cons_zero, List.set_cons_succ]
      apply wpEff2_cons
      focus
        intro B L wz hL hD hC
        obtain ⟨F', h1, h2, h3, h4, h5⟩ := hC.call 0 _ rfl hL (hD 4 (by kernel_rfl)) (.inl rfl) (by rfl) (by rfl)
        have hfr := hC.fr
        refine .inl ⟨by rfl, ?_⟩
        unfold effAt
        go_simp
        refine (wk_texts wz F' g _ h1 (B 4).1 1 [r.1] #[StrV r.1] h2 h3 rfl rfl (by omega) (by simp; omega) (by simp [callsB]; omega)).mono ?_
        rintro e w9 ⟨rfl, ht⟩
        exact ⟨rfl, h5 _ (by simpa using ht)⟩
      simp only [Act.put, List.setIfInBounds_toArray, List.set_cons_zero, List.set_cons_succ]
      apply wpEff2_cons
      focus
        intro B L wz hL hD hC
        refine .inl ⟨by rfl, ?_⟩
        obtain ⟨y0, y1, y2, yg⟩ := hS wz hC.fr
        unfold effAt
        go_simp
        exact ⟨rfl, hC.keep _ (by rfl)⟩
      simp only [Act.put, List.setIfInBounds_toArray, List.set_cons_zero, List.set_cons_succ]
      apply wpEff2_cons
      focus
        intro B L wz hL hD hC
        refine .inl ⟨by rfl, ?_⟩
        obtain ⟨y0, y1, y2, yg⟩ := hS wz hC.fr
        unfold effAt
        go_simp
        exact ⟨rfl, hC.keep _ (by rfl)⟩
      simp only [Act.put, List.setIfInBounds_toArray, List.set_cons_zero, List.set_cons_succ]
      refine wpEff2_free (fun b => .slice (some ⟨b.1, 0, none⟩) 1 1) ?_ ?_
      focus
        intro B L wz hL hD hC
        refine .inl ⟨by rfl, ?_⟩
        unfold effAt2
        go_simp
        exact ⟨(wz.heap.size, none), rfl, hC.make 8 4 #[.bool r.2.1] (by intro d hd hk; simp only [List.mem_cons, List.not_mem_nil, or_false] at hd; rcases hd with rfl | rfl | rfl <;> first | exact ⟨rfl, rfl⟩ | exact absurd hk (by simp)) (by rfl)⟩
      simp only [Act.put, List.setIfInBounds_toArray, List.set_cons_zero, List.set_cons_succ]
      apply wpEff2_cons
      focus
        intro B L wz hL hD hC
        obtain ⟨F', h1, h2, h3, h4, h5⟩ := hC.call 1 _ rfl hL (hD 8 (by kernel_rfl)) (.inr ⟨0, _, rfl, rfl, hD 5 (by kernel_rfl)⟩) (by rfl) (by rfl)
        have hfr := hC.fr
        refine .inl ⟨by rfl, ?_⟩
        unfold effAt
        go_simp
        refine (wk_flags wz F' g _ h1 (B 8).1 1 [r.2.1] #[.bool r.2.1] h2 h3 rfl rfl (by omega) (by simp [callsB]; have := rowB_most r.1; omega)).mono ?_
        rintro e w9 ⟨rfl, ht⟩
        exact ⟨rfl, h5 _ (by simpa using ht)⟩
      simp only [Act.put, List.setIfInBounds_toArray, List.set_cons_zero, List.set_cons_succ]
      apply wpEff2_cons
      focus
        intro B L wz hL hD hC
        refine .inl ⟨by rfl, ?_⟩
        obtain ⟨y0, y1, y2, yg⟩ := hS wz hC.fr
        unfold effAt
        go_simp
        exact ⟨rfl, hC.keep _ (by rfl)⟩
      simp only [Act.put, List.setIfInBounds_toArray, List.set_cons_zero, List.set_cons_succ]
      apply wpEff2_cons
      focus
        intro B L wz hL hD hC
        refine .inl ⟨by rfl, ?_⟩
        obtain ⟨y0, y1, y2, yg⟩ := hS wz hC.fr
        unfold effAt
        go_simp
        exact ⟨rfl, hC.keep _ (by rfl)⟩
      simp only [Act.put, List.setIfInBounds_toArray, List.set_cons_zero, List.set_cons_succ]
      refine wpEff2_free (fun b => .slice (some ⟨b.1, 0, none⟩) 1 1) ?_ ?_
      focus
        intro B L wz hL hD hC
        refine .inl ⟨by rfl, ?_⟩
        unfold effAt2
        go_simp
        exact ⟨(wz.heap.size, none), rfl, hC.make 12 9 #[StrV r.2.2] (by intro d hd hk; simp only [List.mem_cons, List.not_mem_nil, or_false] at hd; rcases hd with rfl | rfl | rfl <;> first | exact ⟨rfl, rfl⟩ | exact absurd hk (by simp)) (by rfl)⟩
      simp only [Act.put, List.setIfInBounds_toArray, List.set_cons_zero, List.set_cons_succ]
      apply wpEff2_cons
      focus
        intro B L wz hL hD hC
        obtain ⟨F', h1, h2, h3, h4, h5⟩ := hC.call 2 _ rfl hL (hD 12 (by kernel_rfl)) (.inr ⟨1, _, rfl, rfl, hD 9 (by kernel_rfl)⟩) (by rfl) (by rfl)
        have hfr := hC.fr
        refine .inl ⟨by rfl, ?_⟩
        unfold effAt
        go_simp
        refine (wk_texts wz F' g _ h1 (B 12).1 1 [r.2.2] #[StrV r.2.2] h2 h3 rfl rfl (by omega) (by simp; omega) (by simp [callsB, flagB]; have := rowB_most r.1; omega)).mono ?_
        rintro e w9 ⟨rfl, ht⟩
        exact ⟨rfl, h5 _ (by simpa using ht)⟩
      simp only [Act.put, List.setIfInBounds_toArray, List.set_cons_zero, List.set_cons_succ]
      refine wpEff2_nil fun B wz hC5 => ?_
      have hd := hC5.done (by intro d hd; simp only [List.mem_cons, List.not_mem_nil, or_false] at hd; rcases hd with rfl | rfl | rfl <;> rfl)
      go_wp2_with fail
      go_roundw
      case rel =>
        refine ⟨k + 1, by omega, rfl, ?_⟩
        have e : bs ++ encAll [(n : Int)] ++ rdgsB (l.take (k + 1)) = bs0 ++ callsB [⟨4, 5, 9, #[StrV r.1], rowB r.1⟩, ⟨8, 9, 4, #[.bool r.2.1], flagB r.2.1⟩, ⟨12, 13, 9, #[StrV r.2.2], rowB r.2.2⟩] := by
          rw [HS.out, ← HB.out]
          exact by simp [callsB, rdgB]
        simp only [e]
        exact WrTo.after fC nC (WrTo.after (q3.mono (fun _ h => h.elim)) (fun k hk => .inl hk) hd)
      case measure => simp [intOf]; omega
    · go_wp2_with fail
      go_end0
      have hkn : k = l.length := by have := HN.out; omega
      rw [hkn, List.take_length] at hC
      refine ⟨rfl, FC, ?_, (HQ.out.mono (fun _ h => h.elim)).trans (fB.trans fC nB) (fun k hk => .inl hk), fun k hk => ?_⟩
      · have e : bs ++ (enc n ++ rdgsB l) = bs ++ encAll [(n : Int)] ++ rdgsB l := by simp [encAll]
        rw [e]
        exact hC
      · have h1 := HQ.out.size
        have h2 := fB.size
        exact (nC k hk).elim (fun h => (nB k h).elim .inl (fun h => .inr (by omega))) (fun h => .inr (by omega))
set_option maxRecDepth 100000 in
set_option maxHeartbeats 4000000 in
theorem oacts_any (w : World) (F F2 : Nat → Prop) (g : Nat) (bs : List UInt8) (h : IsWr w F g (W8 bs)) (A : Option Addr) (c : Nat) (l : List ActT) (hs : Sl w F2 A (actsCells l)) (hap : Apart w F2 F) (hz : ActSm l) (hl : l.length ≤ 6) (hsz : bs.length ≤ 1000000) :
    Calls Tryz.prog 39 #[.agg #[.pointer (some ⟨g, 0, none⟩)], .slice A l.length c] w fun e w' => e = .returned (.tuple #[]) ∧ WrTo w F g (W8 (bs ++ (enc l.length ++ actsB l))) w' := by
  obtain ⟨W0, hW0⟩ : ∃ W0, W0 = w.alloc (.cells #[.pointer (some ⟨g, 0, none⟩)] 81) := ⟨_, rfl⟩
  have q0 : Nw w W0 := by rw [hW0]; exact (Fr.refl (fun _ => False) w).alloc _
  have x0 : Blk W0 w.heap.size 81 #[.pointer (some ⟨g, 0, none⟩)] := by rw [hW0]; exact Blk.new w _ _
  have hF0 : ¬ F w.heap.size := fun hF => by have := h.bound _ hF; omega
  have c0 : W0.cell? ⟨w.heap.size, 0, none⟩ = some (.pointer (some ⟨g, 0, none⟩)) := by simpa using x0.cell 0
  have h0 := h.fr q0 (fun _ _ h => h)
  obtain ⟨n, hn⟩ : ∃ n, l.length = n := ⟨_, rfl⟩
  rw [hn] at hl ⊢
  obtain ⟨W1, hW1⟩ : ∃ W1, W1 = W0.alloc (.cells #[I64 n] 3) := ⟨_, rfl⟩
  have q1 : Nw W0 W1 := by rw [hW1]; exact (Fr.refl (fun _ => False) W0).alloc _
  have b1 : Blk W1 W0.heap.size 3 #[I64 n] := by rw [hW1]; exact Blk.new W0 _ _
  have h1 := h0.fr q1 (fun _ _ h => h)
  have hF1 : ¬ F W0.heap.size := fun hF => by have := h0.bound _ hF; omega
  have x1 := x0.fr q1 (fun h => h)
  have hcon := wk_nums W1 F g bs h1 W0.heap.size 1 [(n : Int)] #[I64 n] b1 hF1 rfl rfl (by omega) (by intro x hx; rw [List.mem_singleton.1 hx]; exact nat_right _ (by omega)) (by omega)
  have HW0 := Lib.hid hW0
  have HW1 := Lib.hid hW1
  have HN := Lib.hid hn
  have hz0 : W0.heap.size = w.heap.size + 1 := by rw [hW0]; simp
  rw [hz0] at hcon
  clear hW0 hW1 hn
  go_enter Tryz.func39, Tryz.ntmps39
  go_upto_region 1 with (fail)
  rw [← HW0.out]
  go_upto_region 2 with (go_at_call 38; rw [← HW1.out]; refine hcon.mono ?_; rintro e w2 ⟨rfl, ht⟩)
  obtain ⟨FB, hB, fB, nB⟩ := ht
  have hFB : ¬ FB w.heap.size := fun hF => (nB _ hF).elim hF0 (fun h => by have := x1.lt; omega)
  have x2 := x1.fr fB hF0
  have HQ := Lib.hid (q0.tr q1)
  have hs2 := (hs.fr (q0.tr q1) (fun _ _ h => h)).fr fB (fun k hk => (hap k hk).2)
  have hap2 : ∀ k, F2 k → ¬ FB k := fun k hk hF => (nB k hF).elim (hap k hk).2 (fun h2 => by have := (hap k hk).1; have := (q0.tr q1).size; omega)
  have hB : IsWr w2 FB g (W8 (bs ++ encAll [(n : Int)] ++ [])) := by simpa using hB
  clear hcon hs c0
  go_wp2_with fail
  go_loopw [14] (fun i wx => SwRel w2 FB g (fun k => bs ++ encAll [(n : Int)] ++ actsB (l.take k)) n i wx) (fun i _ => n - (intOf i).toNat)
  case atStart => exact ⟨0, Nat.zero_le _, rfl, FB, by simpa [actsB] using hB, Fr.refl _ _, fun k hk => .inl hk⟩
  case round =>
    obtain ⟨k, hk, rfl, FC, hC, fC, nC⟩ := hrel
    have hC : IsWr wr FC g (W8 (bs ++ encAll [(n : Int)] ++ actsB (l.take k))) := hC
    have x3 := x2.fr fC hFB
    have hFC : ¬ FC w.heap.size := fun hF => (nC _ hF).elim hFB (fun h => by have := x2.lt; omega)
    by_cases hlt : k < n
    · have hkl : k < l.length := by rw [HN.out]; exact hlt
      obtain ⟨b, of, rfl, _, r0, r1, r2, r3⟩ := (hs2.fr fC hap2).act hkl
      have hzk := hz _ (List.getElem_mem hkl)
      have hmost := acts_most (l.take k) (fun x hx => hz x (List.mem_of_mem_take hx))
      have hmost2 : (actsB (l.take k)).length ≤ 3000 * 6 := Nat.le_trans hmost (Nat.mul_le_mul_left _ (by rw [List.length_take]; omega))
      have hen := encAll_le [(n : Int)]
      have hsn := actsB_snoc l k hkl
      obtain ⟨r, hr⟩ : ∃ r, l[k] = r := ⟨_, rfl⟩
      rw [hr] at hsn hzk r0 r1 r2 r3
      have HS := Lib.hid hsn
      obtain ⟨bs0, hbs0⟩ : ∃ bs0, bs ++ encAll [(n : Int)] ++ actsB (l.take k) = bs0 := ⟨_, rfl⟩
      have hb0 : bs0.length ≤ 2000000 := by rw [← hbs0]; simp only [List.length_append, List.length_cons, List.length_nil] at hen ⊢; omega
      rw [hbs0] at hC
      have HB := Lib.hid hbs0
      clear hmost hmost2 hen hsn hr hbs0
      obtain ⟨W3, hW3⟩ : ∃ W3, W3 = wr.alloc (.cells #[.int .u8 r.kind, StrV r.key, StrV r.val, I64 r.num] 91) := ⟨_, rfl⟩
      have q3 : Nw wr W3 := by rw [hW3]; exact (Fr.refl (fun _ => False) wr).alloc _
      have y3 : Blk W3 wr.heap.size 91 #[.int .u8 r.kind, StrV r.key, StrV r.val, I64 r.num] := by rw [hW3]; exact Blk.new wr _ _
      have hC3 := hC.fr q3 (fun _ _ h => h)
      have hFy : ¬ FC wr.heap.size := fun hF => by have := hC.bound _ hF; omega
      have x4 := x3.fr q3 (fun h => h)
      have hS : ∀ w1, Fr FC W3 w1 → w1.cell? ⟨wr.heap.size, 0, none⟩ = some (.int .u8 r.kind) ∧ w1.cell? ⟨wr.heap.size, 1, none⟩ = some (StrV r.key) ∧ w1.cell? ⟨wr.heap.size, 2, none⟩ = some (StrV r.val) ∧ w1.cell? ⟨wr.heap.size, 3, none⟩ = some (I64 r.num) ∧ w1.cell? ⟨w.heap.size, 0, none⟩ = some (.pointer (some ⟨g, 0, none⟩)) := fun w1 f => by
        have a := y3.fr f hFy
        have b := x4.fr f hFC
        exact ⟨by simpa using a.cell 0, by simpa using a.cell 1, by simpa using a.cell 2, by simpa using a.cell 3, by simpa using b.cell 0⟩
      have hst := WrC.start (cl := [⟨5, 6, 3, #[I64 r.kind], encAll [r.kind]⟩, ⟨11, 12, 9, #[StrV r.key, StrV r.val], rowB r.key ++ rowB r.val⟩, ⟨16, 17, 4, #[.bool (decide (r.num < 0))], flagB (decide (r.num < 0))⟩, ⟨24, 25, 3, #[I64 (if r.num < -r.num then -r.num else r.num)], encAll [if r.num < -r.num then -r.num else r.num]⟩]) hC3 (fun _ => (0, none))
      have hcv : IntKind.i64.wrap r.kind = r.kind := IntWalk.i64_in _ (by omega)
      have hng : IntKind.i64.wrap (-r.num) = -r.num := IntWalk.i64_in _ (by omega)
      have hmx : 0 ≤ (if r.num < -r.num then -r.num else r.num) ∧ (if r.num < -r.num then -r.num else r.num) ≤ 1073741824 := by split <;> omega
      have HW3 := Lib.hid hW3
      clear hW3 y3 x4
      go_upto_region 5 with (fail)
      rw [← HW3.out]
      refine wp_region_eff2 _ _ (by kernel_rfl) (by kernel_rfl) hst ?_
      clear hst
      apply wpEff2_cons
      focus
        intro B L wz hL hD hC
        refine .inl ⟨by rfl, ?_⟩
        obtain ⟨y0, y1, y2, y3, yg⟩ := hS wz hC.fr
        unfold effAt
        go_simp
        exact ⟨rfl, hC.keep _ (by rfl)⟩
      simp only [Act.put, List.setIfInBounds_toArray, List.set_cons_zero, List.set_cons_succ]
      apply wpEff2_cons
      focus
        intro B L wz hL hD hC
        refine .inl ⟨by rfl, ?_⟩
        obtain ⟨y0, y1, y2, y3, yg⟩ := hS wz hC.fr
        unfold effAt
        go_simp
        exact ⟨rfl, hC.keep _ (by rfl)⟩
      simp only [Act.put, List.setIfInBounds_toArray, List.set_cons_zero, List.set_cons_succ]
      apply wpEff2_cons
      focus
        intro B L wz hL hD hC
        refine .inl ⟨by rfl, ?_⟩
        obtain ⟨y0, y1, y2, y3, yg⟩ := hS wz hC.fr
        unfold effAt
        go_simp
        exact ⟨rfl, hC.keep _ (by rfl)⟩
      simp only [Act.put, List.setIfInBounds_toArray, List.set_cons_zero, List.set_cons_succ]
      apply wpEff2_cons
      focus
        intro B L wz hL hD hC
        refine .inl ⟨by rfl, ?_⟩
        obtain ⟨y0, y1, y2, y3, yg⟩ := hS wz hC.fr
        unfold effAt
        go_simp
        exact ⟨rfl, hC.keep _ (by rfl)⟩
      simp only [Act.put, List.setIfInBounds_toArray, List.set_cons_zero, List.set_cons_succ]
      apply wpEff2_cons
      focus
        intro B L wz hL hD hC
        refine .inl ⟨by rfl, ?_⟩
        obtain ⟨y0, y1, y2, y3, yg⟩ := hS wz hC.fr
        unfold effAt
        go_simp
        exact ⟨rfl, hC.keep _ (by rfl)⟩
      simp only [Act.put, List.setIfInBounds_toArray, List.set_cons_zero, List.set_cons_succ]
      refine wpEff2_free (fun b => .slice (some ⟨b.1, 0, none⟩) 1 1) ?_ ?_
      focus
        intro B L wz hL hD hC
        refine .inl ⟨by rfl, ?_⟩
        unfold effAt2
        go_simp
        exact ⟨(wz.heap.size, none), rfl, hC.make 5 3 #[I64 r.kind] (by intro d hd hk; simp only [List.mem_cons, List.not_mem_nil, or_false] at hd; rcases hd with rfl | rfl | rfl | rfl <;> first | exact ⟨rfl, rfl⟩ | exact absurd hk (by simp)) (by rfl)⟩
      simp only [Act.put, List.setIfInBounds_toArray, List.set_cons_zero, List.set_cons_succ]
      apply wpEff2_cons
      focus
        intro B L wz hL hD hC
        obtain ⟨F', h1, h2, h3, h4, h5⟩ := hC.call 0 _ rfl hL (hD 5 (by kernel_rfl)) (.inl rfl) (by rfl) (by rfl)
        have hfr := hC.fr
        refine .inl ⟨by rfl, ?_⟩
        unfold effAt
        go_simp
        refine (wk_nums wz F' g _ h1 (B 5).1 1 [r.kind] #[I64 r.kind] h2 h3 rfl rfl (by omega) (by intro x hx; rw [List.mem_singleton.1 hx]; exact int_right _ (by omega) (by omega)) (by simp [callsB]; omega)).mono ?_
        rintro e w9 ⟨rfl, ht⟩
        exact ⟨rfl, h5 _ (ht)⟩
      simp only [Act.put, List.setIfInBounds_toArray, List.set_cons_zero, List.set_cons_succ]
      apply wpEff2_cons
      focus
        intro B L wz hL hD hC
        refine .inl ⟨by rfl, ?_⟩
        obtain ⟨y0, y1, y2, y3, yg⟩ := hS wz hC.fr
        unfold effAt
        go_simp
        exact ⟨rfl, hC.keep _ (by rfl)⟩
      simp only [Act.put, List.setIfInBounds_toArray, List.set_cons_zero, List.set_cons_succ]
      apply wpEff2_cons
      focus
        intro B L wz hL hD hC
        refine .inl ⟨by rfl, ?_⟩
        obtain ⟨y0, y1, y2, y3, yg⟩ := hS wz hC.fr
        unfold effAt
        go_simp
        exact ⟨rfl, hC.keep _ (by rfl)⟩
      simp only [Act.put, List.setIfInBounds_toArray, List.set_cons_zero, List.set_cons_succ]
      apply wpEff2_cons
      focus
        intro B L wz hL hD hC
        refine .inl ⟨by rfl, ?_⟩
        obtain ⟨y0, y1, y2, y3, yg⟩ := hS wz hC.fr
        unfold effAt
        go_simp
        exact ⟨rfl, hC.keep _ (by rfl)⟩
      simp only [Act.put, List.setIfInBounds_toArray, List.set_cons_zero, List.set_cons_succ]
      apply wpEff2_cons
      focus
        intro B L wz hL hD hC
        refine .inl ⟨by rfl, ?_⟩
        obtain ⟨y0, y1, y2, y3, yg⟩ := hS wz hC.fr
        unfold effAt
        go_simp
        exact ⟨rfl, hC.keep _ (by rfl)⟩
      simp only [Act.put, List.setIfInBounds_toArray, List.set_cons_zero, List.set_cons_succ]
      refine wpEff2_free (fun b => .slice (some ⟨b.1, 0, none⟩) 2 2) ?_ ?_
      focus
        intro B L wz hL hD hC
        refine .inl ⟨by rfl, ?_⟩
        unfold effAt2
        go_simp
        exact ⟨(wz.heap.size, none), rfl, hC.make 11 9 #[StrV r.key, StrV r.val] (by intro d hd hk; simp only [List.mem_cons, List.not_mem_nil, or_false] at hd; rcases hd with rfl | rfl | rfl | rfl <;> first | exact ⟨rfl, rfl⟩ | exact absurd hk (by simp)) (by rfl)⟩
      simp only [Act.put, List.setIfInBounds_toArray, List.set_cons_zero, List.set_cons_succ]
      apply wpEff2_cons
      focus
        intro B L wz hL hD hC
        obtain ⟨F', h1, h2, h3, h4, h5⟩ := hC.call 1 _ rfl hL (hD 11 (by kernel_rfl)) (.inr ⟨0, _, rfl, rfl, hD 6 (by kernel_rfl)⟩) (by rfl) (by rfl)
        have hfr := hC.fr
        refine .inl ⟨by rfl, ?_⟩
        unfold effAt
        go_simp
        refine (wk_texts wz F' g _ h1 (B 11).1 2 [r.key, r.val] #[StrV r.key, StrV r.val] h2 h3 rfl rfl (by omega) (by simp; omega) (by simp [callsB]; have := encAll_le [r.kind]; simp at this; omega)).mono ?_
        rintro e w9 ⟨rfl, ht⟩
        exact ⟨rfl, h5 _ (by simpa using ht)⟩
      simp only [Act.put, List.setIfInBounds_toArray, List.set_cons_zero, List.set_cons_succ]
      apply wpEff2_cons
      focus
        intro B L wz hL hD hC
        refine .inl ⟨by rfl, ?_⟩
        obtain ⟨y0, y1, y2, y3, yg⟩ := hS wz hC.fr
        unfold effAt
        go_simp
        exact ⟨rfl, hC.keep _ (by rfl)⟩
      simp only [Act.put, List.setIfInBounds_toArray, List.set_cons_zero, List.set_cons_succ]
      apply wpEff2_cons
      focus
        intro B L wz hL hD hC
        refine .inl ⟨by rfl, ?_⟩
        obtain ⟨y0, y1, y2, y3, yg⟩ := hS wz hC.fr
        unfold effAt
        go_simp
        exact ⟨rfl, hC.keep _ (by rfl)⟩
      simp only [Act.put, List.setIfInBounds_toArray, List.set_cons_zero, List.set_cons_succ]
      apply wpEff2_cons
      focus
        intro B L wz hL hD hC
        refine .inl ⟨by rfl, ?_⟩
        obtain ⟨y0, y1, y2, y3, yg⟩ := hS wz hC.fr
        unfold effAt
        go_simp
        exact ⟨rfl, hC.keep _ (by rfl)⟩
      simp only [Act.put, List.setIfInBounds_toArray, List.set_cons_zero, List.set_cons_succ]
      refine wpEff2_free (fun b => .slice (some ⟨b.1, 0, none⟩) 1 1) ?_ ?_
      focus
        intro B L wz hL hD hC
        refine .inl ⟨by rfl, ?_⟩
        unfold effAt2
        go_simp
        exact ⟨(wz.heap.size, none), rfl, hC.make 16 4 #[.bool (decide (r.num < 0))] (by intro d hd hk; simp only [List.mem_cons, List.not_mem_nil, or_false] at hd; rcases hd with rfl | rfl | rfl | rfl <;> first | exact ⟨rfl, rfl⟩ | exact absurd hk (by simp)) (by rfl)⟩
      simp only [Act.put, List.setIfInBounds_toArray, List.set_cons_zero, List.set_cons_succ]
      apply wpEff2_cons
      focus
        intro B L wz hL hD hC
        obtain ⟨F', h1, h2, h3, h4, h5⟩ := hC.call 2 _ rfl hL (hD 16 (by kernel_rfl)) (.inr ⟨1, _, rfl, rfl, hD 12 (by kernel_rfl)⟩) (by rfl) (by rfl)
        have hfr := hC.fr
        refine .inl ⟨by rfl, ?_⟩
        unfold effAt
        go_simp
        refine (wk_flags wz F' g _ h1 (B 16).1 1 [decide (r.num < 0)] #[.bool (decide (r.num < 0))] h2 h3 rfl rfl (by omega) (by simp [callsB]; have := encAll_le [r.kind]; have := rowB_most r.key; have := rowB_most r.val; simp at *; omega)).mono ?_
        rintro e w9 ⟨rfl, ht⟩
        exact ⟨rfl, h5 _ (by simpa using ht)⟩
      simp only [Act.put, List.setIfInBounds_toArray, List.set_cons_zero, List.set_cons_succ]
      apply wpEff2_cons
      focus
        intro B L wz hL hD hC
        refine .inl ⟨by rfl, ?_⟩
        obtain ⟨y0, y1, y2, y3, yg⟩ := hS wz hC.fr
        unfold effAt
        go_simp
        exact ⟨rfl, hC.keep _ (by rfl)⟩
      simp only [Act.put, List.setIfInBounds_toArray, List.set_cons_zero, List.set_cons_succ]
      apply wpEff2_cons
      focus
        intro B L wz hL hD hC
        refine .inl ⟨by rfl, ?_⟩
        obtain ⟨y0, y1, y2, y3, yg⟩ := hS wz hC.fr
        unfold effAt
        go_simp
        exact ⟨rfl, hC.keep _ (by rfl)⟩
      simp only [Act.put, List.setIfInBounds_toArray, List.set_cons_zero, List.set_cons_succ]
      apply wpEff2_cons
      focus
        intro B L wz hL hD hC
        refine .inl ⟨by rfl, ?_⟩
        obtain ⟨y0, y1, y2, y3, yg⟩ := hS wz hC.fr
        unfold effAt
        go_simp
        exact ⟨rfl, hC.keep _ (by rfl)⟩
      simp only [Act.put, List.setIfInBounds_toArray, List.set_cons_zero, List.set_cons_succ]
      apply wpEff2_cons
      focus
        intro B L wz hL hD hC
        refine .inl ⟨by rfl, ?_⟩
        obtain ⟨y0, y1, y2, y3, yg⟩ := hS wz hC.fr
        unfold effAt
        go_simp
        exact ⟨rfl, hC.keep _ (by rfl)⟩
      simp only [Act.put, List.setIfInBounds_toArray, List.set_cons_zero, List.set_cons_succ]
      apply wpEff2_cons
      focus
        intro B L wz hL hD hC
        refine .inl ⟨by rfl, ?_⟩
        obtain ⟨y0, y1, y2, y3, yg⟩ := hS wz hC.fr
        unfold effAt
        go_simp
        exact ⟨rfl, hC.keep _ (by rfl)⟩
      simp only [Act.put, List.setIfInBounds_toArray, List.set_cons_zero, List.set_cons_succ]
      apply wpEff2_cons
      focus
        intro B L wz hL hD hC
        refine .inl ⟨by rfl, ?_⟩
        obtain ⟨y0, y1, y2, y3, yg⟩ := hS wz hC.fr
        unfold effAt
        go_simp
        exact ⟨rfl, hC.keep _ (by rfl)⟩
      simp only [Act.put, List.setIfInBounds_toArray, List.set_cons_zero, List.set_cons_succ]
      refine wpEff2_free (fun b => .slice (some ⟨b.1, 0, none⟩) 1 1) ?_ ?_
      focus
        intro B L wz hL hD hC
        refine .inl ⟨by rfl, ?_⟩
        unfold effAt2
        go_simp
        exact ⟨(wz.heap.size, none), rfl, hC.make 24 3 #[I64 (if r.num < -r.num then -r.num else r.num)] (by intro d hd hk; simp only [List.mem_cons, List.not_mem_nil, or_false] at hd; rcases hd with rfl | rfl | rfl | rfl <;> first | exact ⟨rfl, rfl⟩ | exact absurd hk (by simp)) (by rfl)⟩
      simp only [Act.put, List.setIfInBounds_toArray, List.set_cons_zero, List.set_cons_succ]
      apply wpEff2_cons
      focus
        intro B L wz hL hD hC
        obtain ⟨F', h1, h2, h3, h4, h5⟩ := hC.call 3 _ rfl hL (hD 24 (by kernel_rfl)) (.inr ⟨2, _, rfl, rfl, hD 17 (by kernel_rfl)⟩) (by rfl) (by rfl)
        have hfr := hC.fr
        refine .inl ⟨by rfl, ?_⟩
        unfold effAt
        go_simp
        refine (wk_nums wz F' g _ h1 (B 24).1 1 [if r.num < -r.num then -r.num else r.num] #[I64 (if r.num < -r.num then -r.num else r.num)] h2 h3 rfl rfl (by omega) (by intro x hx; rw [List.mem_singleton.1 hx]; exact int_right _ hmx.1 hmx.2) (by simp [callsB, flagB]; have := encAll_le [r.kind]; have := rowB_most r.key; have := rowB_most r.val; simp at *; omega)).mono ?_
        rintro e w9 ⟨rfl, ht⟩
        exact ⟨rfl, h5 _ (ht)⟩
      simp only [Act.put, List.setIfInBounds_toArray, List.set_cons_zero, List.set_cons_succ]
      refine wpEff2_nil fun B wz hC5 => ?_
      have hd := hC5.done (by intro d hd; simp only [List.mem_cons, List.not_mem_nil, or_false] at hd; rcases hd with rfl | rfl | rfl | rfl <;> rfl)
      go_wp2_with fail
      go_roundw
      case rel =>
        refine ⟨k + 1, by omega, rfl, ?_⟩
        have e : bs ++ encAll [(n : Int)] ++ actsB (l.take (k + 1)) = bs0 ++ callsB [⟨5, 6, 3, #[I64 r.kind], encAll [r.kind]⟩, ⟨11, 12, 9, #[StrV r.key, StrV r.val], rowB r.key ++ rowB r.val⟩, ⟨16, 17, 4, #[.bool (decide (r.num < 0))], flagB (decide (r.num < 0))⟩, ⟨24, 25, 3, #[I64 (if r.num < -r.num then -r.num else r.num)], encAll [if r.num < -r.num then -r.num else r.num]⟩] := by
          rw [HS.out, ← HB.out]
          exact by have e : (if r.num < -r.num then -r.num else r.num) = ((r.num.natAbs : Nat) : Int) := (by split <;> omega); simp [callsB, actB, encAll, e]
        simp only [e]
        exact WrTo.after fC nC (WrTo.after (q3.mono (fun _ h => h.elim)) (fun k hk => .inl hk) hd)
      case measure => simp [intOf]; omega
    · go_wp2_with fail
      go_end0
      have hkn : k = l.length := by have := HN.out; omega
      rw [hkn, List.take_length] at hC
      refine ⟨rfl, FC, ?_, (HQ.out.mono (fun _ h => h.elim)).trans (fB.trans fC nB) (fun k hk => .inl hk), fun k hk => ?_⟩
      · have e : bs ++ (enc n ++ actsB l) = bs ++ encAll [(n : Int)] ++ actsB l := by simp [encAll]
        rw [e]
        exact hC
      · have h1 := HQ.out.size
        have h2 := fB.size
        exact (nC k hk).elim (fun h => (nB k h).elim .inl (fun h => .inr (by omega))) (fun h => .inr (by omega))
end Go.Proofs.YtkjnlhidnkbelaaGreatDoor
