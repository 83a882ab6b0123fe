/- Movers: the program's mover is answered. -/
import Derived.Test.YtfglibkffcogcaaGreatMoF
namespace Go.Proofs.YtfglibkffcogcaaGreat
open Go Go.RowKit

theorem IsMv.bytes_ {w w1 : World} {I : Nat → Prop} {g : Nat} {s : Mv} (h : IsMv w I g s) (q : Nw w w1) {A : Option Addr} {bs : List UInt8} {c : Nat} (ho : Own w1 5 1 A bs.length c (bs.map B8)) (hA : ∀ k, inA A k → w.heap.size ≤ k) (hl : bs.length ≤ 1000000000) :
    (∃ u, w1.cell? ⟨g, 28, none⟩ = some u) ∧ w1.frozen? ⟨g, 28, none⟩ = false ∧ IsMv (w1.setCell ⟨g, 28, none⟩ (.slice A bs.length c)) (fun k => I k ∨ (inA A k ∧ k < w1.heap.size)) g { s with bytes := bs } := by
  obtain ⟨a, Ao, co, y, Ab, cb, h1, h2, h3, h4, h5, h6, h7, h8, h9, h10⟩ := h
  have hg := h1.lt
  have m1 := h1.fr q (fun h => h)
  have f : Fr (· = g) w1 (w1.setCell ⟨g, 28, none⟩ (.slice A bs.length c)) := (Fr.refl (· = g) w1).set1 _ _
  have hnI : ∀ k, I k → ¬ k = g := fun k hk e => h9 (e ▸ hk)
  have hnA : ∀ k, inA A k → ¬ k = g := fun k hk e => by have := hA k hk; omega
  have c28 : w1.cell? ⟨g, 28, none⟩ = some (.slice Ab s.bytes.length cb) := by simpa using m1.cell 28
  refine ⟨⟨_, c28⟩, m1.frozen 28, a, Ao, co, y, A, c, m1.set_ 28 _, h2, h3, h4, ?_, ?_, h7, hl, ?_, fun k hk => ?_⟩
  · exact ((h5.fr q (fun _ _ h => h)).fr f hnI).mono fun k hk _ => .inl hk
  · exact (ho.sl.fr f hnA).mono fun k hk hlt => .inr ⟨hk, by have := ho.lt k hk; exact this⟩
  · rintro (h | h)
    · exact h9 h
    · exact hnA g h.1 rfl
  · rcases hk with h | h
    · exact Nat.lt_of_lt_of_le (h10 k h) (Nat.le_trans q.size f.size)
    · exact Nat.lt_of_lt_of_le h.2 f.size
set_option maxRecDepth 100000 in
set_option maxHeartbeats 4000000 in
theorem frozen_any (w : World) (I J : Nat → Prop) (g : Nat) (s : Mv) (x : Sch) (h : IsMv w I g s) (hx : s.works = some x) (hn : 0 ≤ s.next ∧ s.next ≤ 4611686018427387904) (a : AnT) (A : Option Addr) (c : Nat) (hs : Sl w J A (a.bytes.map B8)) (hl : a.bytes.length ≤ 1000000000) :
    Calls Tryz.prog 39 #[.pointer (some ⟨g, 0, none⟩), .agg (anA a A c)] w fun e w' => ∃ v, e = .returned v ∧ MvTo w I g (frozenM s x a.err a.bytes) v w' := by
  obtain ⟨r, hr⟩ : ∃ r, frozenM s x a.err a.bytes = r := ⟨_, rfl⟩
  rw [hr]
  obtain ⟨W, hW⟩ : ∃ W, W = w.alloc (.cells (anA a A c) 41) := ⟨_, rfl⟩
  have q0 : Nw w W := by rw [hW]; exact (Fr.refl (fun _ => False) w).alloc _
  have b0 : Blk W w.heap.size 41 (anA a A c) := by rw [hW]; exact Blk.new w _ _
  have c0 : W.cell? ⟨w.heap.size, 0, none⟩ = some (I64 a.err) := by simpa using b0.cell 0
  have hm := h.fr q0 (fun h => h) (fun _ _ h => h)
  have HW := Lib.hid hW
  have h7 := step_any W I g s x hm hx hn 7 (by omega)
  have hgl : g < w.heap.size := by obtain ⟨_, _, _, _, _, _, h1, _⟩ := h; exact h1.lt
  have c8 : W.cell? ⟨w.heap.size, 8, none⟩ = some (.slice A a.bytes.length c) := by simpa using b0.cell 8
  have hcl := clone_u8 W J A c a.bytes (hs.fr q0 (fun _ _ h => h)) (by omega)
  have HR := Lib.hid hr
  clear hW hr
  unfold frozenM at HR
  by_cases he : a.err = 0
  · have d : (a.err != 0) = false := by simp [he]
    by_cases hb : 65536 < a.bytes.length
    · have e : r = askM s 0 (stepO x.num 7) := by rw [← HR.out, if_pos (.inr hb)]
      have E := Lib.hid e
      clear e he HR
      go_enter Tryz.func39, Tryz.ntmps39
      go_upto_region 1 with (fail)
      rw [← HW.out]
      go_wp2_with fail
      refine h7.mono ?_
      rintro e w1 ⟨v, rfl, hv⟩
      go_wp2_with fail
      go_ret
      rw [E.out]
      exact ⟨_, rfl, hv.back (Nw.on q0)⟩
    · by_cases h0 : a.bytes = []
      · have e : r = ({ s with since := 0 }, []) := by rw [← HR.out, if_neg (fun h => h.elim (fun h => h he) hb), if_pos h0]
        have E := Lib.hid e
        have hlen : a.bytes.length = 0 := by rw [h0]; rfl
        obtain ⟨n, c16, f16, hm2⟩ := hm.since
        clear e he HR h0
        go_enter Tryz.func39, Tryz.ntmps39
        go_upto_region 1 with (fail)
        rw [← HW.out]
        go_wp2_with fail
        go_ret
        rw [E.out]
        exact ⟨_, rfl, .inl ⟨rfl, rfl⟩, ⟨I, hm2, fun k hk => .inl hk⟩, (Nw.on q0 : Fr (· = g) w W).set1 _ _⟩
      · obtain ⟨nb, hnb⟩ : ∃ nb, a.bytes.length = nb := ⟨_, rfl⟩
        have hnz : nb ≠ 0 := by rw [← hnb]; exact fun e => h0 (List.eq_nil_of_length_eq_zero e)
        have hnz2 : ¬ ((nb : Int) = 0) := by omega
        have hnz3 : ((nb : Int) == 0) = false := by simp; omega
        have hb2 : ¬ (65536 : Int) < (nb : Int) := by rw [hnb] at hb; omega
        rw [hnb] at c8 hcl
        have e : r = if x.stage = 1 then askM { s with bytes := a.bytes } 0 (stepO x.num 2) else askM { s with bytes := a.bytes } x.dst (absorbO x a.bytes) := by
          rw [← HR.out, if_neg (fun h => h.elim (fun h => h he) hb), if_neg h0]
        have HRE := Lib.hid e
        have HB0 := Lib.hid h0
        have HNB := Lib.hid hnb
        clear e he HR h0 hb h7
        go_enter Tryz.func39, Tryz.ntmps39
        go_upto_region 1 with (fail)
        rw [← HW.out]
        go_wp2_with fail
        refine hcl.mono ?_
        rintro e w1 ⟨A1, c1, rfl, ho, q1, hA⟩
        rw [← HNB.out] at ho
        obtain ⟨⟨u, c28⟩, f28, hm2⟩ := hm.bytes_ q1 ho hA hl
        rw [HNB.out] at hm2
        obtain ⟨W2, hW2⟩ : ∃ W2, W2 = w1.setCell ⟨g, 28, none⟩ (.slice A1 nb c1) := ⟨_, rfl⟩
        rw [← hW2] at hm2
        have f2 : Fr (· = g) w W2 := by rw [hW2]; exact ((Nw.on q0 : Fr (· = g) w W).tr (Nw.on q1)).set1 _ _
        have hIJ : ∀ k, (I k ∨ (inA A1 k ∧ k < w1.heap.size)) → I k ∨ w.heap.size ≤ k := fun k hk => hk.imp id (fun h => Nat.le_trans q0.size (hA k h.1))
        have hn2 : 0 ≤ ({ s with bytes := a.bytes } : Mv).next ∧ ({ s with bytes := a.bytes } : Mv).next ≤ 4611686018427387904 := hn
        have h2 := step_any W2 _ g { s with bytes := a.bytes } x hm2 hx hn2 2 (by omega)
        have hab := absorb_any W2 _ g { s with bytes := a.bytes } x hm2 hx hn2
        have c27 : W2.cell? ⟨g, 27, none⟩ = some (U8V x.stage) := by
          obtain ⟨_, _, _, y, _, _, k1, _, k3, _⟩ := hm2
          obtain rfl := (k3 x hx).symm
          simpa using k1.cell 27
        have HW2 := Lib.hid hW2
        clear hW2 hm2
        go_upto_region 7 with (fail)
        rw [← HW2.out]
        by_cases hs1 : x.stage = 1
        · have E := Lib.hid (HRE.out.trans (if_pos hs1))
          have ds : (x.stage == 1) = true := by simp [hs1]
          go_wp2_with fail
          refine h2.mono ?_
          rintro e w3 ⟨v, rfl, hv⟩
          go_wp2_with fail
          go_ret
          rw [E.out]
          exact ⟨_, rfl, hv.back2 f2 hIJ⟩
        · have E := Lib.hid (HRE.out.trans (if_neg hs1))
          have ds : (x.stage == 1) = false := by simp [hs1]
          rw [if_neg HB0.out] at hab
          go_wp2_with fail
          refine hab.mono ?_
          rintro e w3 ⟨v, rfl, hv⟩
          go_wp2_with fail
          go_ret
          rw [E.out]
          exact ⟨_, rfl, hv.back2 f2 hIJ⟩
  · have d : (a.err != 0) = true := by simp [he]
    have e : r = askM s 0 (stepO x.num 7) := by rw [← HR.out, if_pos (.inl he)]
    have E := Lib.hid e
    clear e HR
    go_enter Tryz.func39, Tryz.ntmps39
    go_upto_region 1 with (fail)
    rw [← HW.out]
    go_wp2_with fail
    refine h7.mono ?_
    rintro e w1 ⟨v, rfl, hv⟩
    go_wp2_with fail
    go_ret
    rw [E.out]
    exact ⟨_, rfl, hv.back (Nw.on q0)⟩
end Go.Proofs.YtfglibkffcogcaaGreat
