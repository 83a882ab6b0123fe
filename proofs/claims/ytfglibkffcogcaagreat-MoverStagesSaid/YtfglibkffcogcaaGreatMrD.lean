/- Movers: the document's mover is answered; both are made. -/
import Derived.Test.YtfglibkffcogcaaGreatMrC
namespace Go.Proofs.YtfglibkffcogcaaGreat
open Go Go.RowKit

theorem ran_size : (Tryz.prog.info? 52).map (·.size) = some 9 := by kernel_rfl
theorem IsRMv.since_ {w : World} {I : Nat → Prop} {g : Nat} {s : Mv} (h : IsRMv w I g s) : ∃ n, w.cell? ⟨g, 27, none⟩ = some (I64 n) ∧ w.frozen? ⟨g, 27, none⟩ = false ∧ IsRMv (w.setCell ⟨g, 27, none⟩ (.int .i64 0)) I g { s with since := 0 } := by
  obtain ⟨x, Ab, cb, a, Ao, co, sn, h1, h2, h3, h5, h6, h7, h8, h9, h10⟩ := h
  have f : Fr (· = g) w (w.setCell ⟨g, 27, none⟩ (.int .i64 0)) := (Fr.refl (· = g) w).set1 _ _
  have hnI : ∀ k, I k → ¬ k = g := fun k hk e => h9 (e ▸ hk)
  exact ⟨sn, by simpa using h1.cell 27, h1.frozen 27, x, Ab, cb, a, Ao, co, 0, h1.set_ 27 _, fun b hb => ⟨(h2 b hb).1, rfl⟩, h3, h5.fr f hnI, h6.fr f hnI, h7, h8, h9, fun k hk => Nat.lt_of_lt_of_le (h10 k hk) f.size⟩
theorem IsRMv.off_ {w : World} {I : Nat → Prop} {g : Nat} {s : Mv} (h : IsRMv w I g s) : ∃ u, w.cell? ⟨g, 11, none⟩ = some (.bool u) ∧ w.frozen? ⟨g, 11, none⟩ = false ∧ IsRMv (w.setCell ⟨g, 11, none⟩ (.bool false)) I g { s with line := none, since := 0 } := by
  obtain ⟨x, Ab, cb, a, Ao, co, sn, h1, h2, h3, h5, h6, h7, h8, h9, h10⟩ := h
  have f : Fr (· = g) w (w.setCell ⟨g, 11, none⟩ (.bool false)) := (Fr.refl (· = g) w).set1 _ _
  have hnI : ∀ k, I k → ¬ k = g := fun k hk e => h9 (e ▸ hk)
  exact ⟨_, by simpa using h1.cell 11, h1.frozen 11, x, Ab, cb, a, Ao, co, sn, h1.set_ 11 _, fun b hb => (by cases hb), h3, h5.fr f hnI, h6.fr f hnI, h7, h8, h9, fun k hk => Nat.lt_of_lt_of_le (h10 k hk) f.size⟩
theorem IsRMv.linec {w : World} {I : Nat → Prop} {g : Nat} {s : Mv} {b : AskT} (h : IsRMv w I g s) (hb : s.line = some b) : w.cell? ⟨g, 11, none⟩ = some (.bool true) ∧ w.cell? ⟨g, 12, none⟩ = some (I64 b.tag) ∧ w.cell? ⟨g, 14, none⟩ = some (I64 b.ord.kind) ∧ w.cell? ⟨g, 22, none⟩ = some (I64 b.ord.stage) := by
  obtain ⟨x, Ab, cb, a, Ao, co, sn, h1, h2, _⟩ := h
  obtain rfl := ((h2 b hb).1).symm
  rw [hb] at h1
  exact ⟨by simpa using h1.cell 11, by simpa using h1.cell 12, by simpa using h1.cell 14, by simpa using h1.cell 22⟩
set_option maxRecDepth 100000 in
set_option maxHeartbeats 4000000 in
theorem rfrozen_any (w : World) (I J : Nat → Prop) (g : Nat) (s : Mv) (x : Sch) (h : IsRMv w I g s) (hx : s.works = some x) (hn : 0 ≤ s.next ∧ s.next ≤ 4611686018427387904) (a : AnT) (A : Option Addr) (c : Nat) (hs : Sl w J A (a.bytes.map B8)) (hJ : ¬ J g) (hl : a.bytes.length ≤ 1000000000) :
    Calls Tryz.prog 43 #[.pointer (some ⟨g, 0, none⟩), .agg (anA a A c)] w fun e w' => ∃ v, e = .returned v ∧ RTo w I g (frozenM s x a.err a.bytes) v w' := by
  obtain ⟨r, hr⟩ : ∃ r, frozenM s x a.err a.bytes = r := ⟨_, rfl⟩
  rw [hr]
  obtain ⟨W, hW⟩ : ∃ W, W = w.alloc (.cells (anA a A c) 52) := ⟨_, rfl⟩
  have q0 : Nw w W := by rw [hW]; exact (Fr.refl (fun _ => False) w).alloc _
  have b0 : Blk W w.heap.size 52 (anA a A c) := by rw [hW]; exact Blk.new w _ _
  have c0 : W.cell? ⟨w.heap.size, 0, none⟩ = some (I64 a.err) := by simpa using b0.cell 0
  have hm := h.fr q0 (fun h => h) (fun _ _ h => h)
  have HW := Lib.hid hW
  clear hW
  have h7 := rstep_any W I g s x hm hx hn 7 (by omega)
  have c8 : W.cell? ⟨w.heap.size, 8, none⟩ = some (.slice A a.bytes.length c) := by simpa using b0.cell 8
  have HR := Lib.hid hr
  clear hr
  unfold frozenM at HR
  by_cases he : a.err = 0
  · have d : (a.err != 0) = false := by simp [he]
    by_cases hb : 65536 < a.bytes.length
    · have e : r = askM s 0 (stepO x.num 7) := by rw [← HR.out, if_pos (.inr hb)]
      have E := Lib.hid e
      clear e he HR
      go_enter Tryz.func43, Tryz.ntmps43
      go_upto_region 1 with (fail)
      rw [← HW.out]
      go_wp2_with fail
      refine h7.mono ?_
      rintro e w1 ⟨v, rfl, hv⟩
      go_wp2_with fail
      go_ret
      rw [E.out]
      exact ⟨_, rfl, hv.back (Nw.on q0)⟩
    · by_cases h0 : a.bytes = []
      · have e : r = ({ s with since := 0 }, []) := by rw [← HR.out, if_neg (fun h => h.elim (fun h => h he) hb), if_pos h0]
        have E := Lib.hid e
        have hlen : a.bytes.length = 0 := by rw [h0]; rfl
        obtain ⟨n, c27, f27, hm2⟩ := hm.since_
        clear e he HR h0
        go_enter Tryz.func43, Tryz.ntmps43
        go_upto_region 1 with (fail)
        rw [← HW.out]
        go_wp2_with fail
        go_ret
        rw [E.out]
        exact ⟨_, rfl, .inl ⟨rfl, rfl⟩, ⟨I, hm2, fun k hk => .inl hk⟩, (Nw.on q0 : Fr (· = g) w W).set1 _ _⟩
      · obtain ⟨nb, hnb⟩ : ∃ nb, a.bytes.length = nb := ⟨_, rfl⟩
        have hnz : nb ≠ 0 := by rw [← hnb]; exact fun e => h0 (List.eq_nil_of_length_eq_zero e)
        have hnz2 : ¬ ((nb : Int) = 0) := by omega
        have hnz3 : ((nb : Int) == 0) = false := by simp; omega
        have hb2 : ¬ (65536 : Int) < (nb : Int) := by rw [hnb] at hb; omega
        have e : r = if x.stage = 1 then askM { s with bytes := a.bytes } 0 (stepO x.num 2) else askM { s with bytes := a.bytes } x.dst (absorbO x a.bytes) := by
          rw [← HR.out, if_neg (fun h => h.elim (fun h => h he) hb), if_neg h0]
        have HRE := Lib.hid e
        have hkn : (!decide (a.bytes = [])) = true := by simp [h0]
        have HKN := Lib.hid hkn
        obtain ⟨y, Ab, cb, aa, Ao, co, sn, m1, m2, m3, m5, m6, m7, m8, m9, m10⟩ := id hm
        obtain rfl := (m3 x hx).symm
        have hnI : ∀ k, I k → ¬ k = g := fun k hk e => m9 (e ▸ hk)
        have hgl : g < w.heap.size := by obtain ⟨_, _, _, _, _, _, _, k1, _⟩ := h; exact k1.lt
        have c9 : W.cell? ⟨g, 9, none⟩ = some (.bool (!decide (s.bytes = []))) := by simpa using m1.cell 9
        have f9 := m1.frozen 9
        obtain ⟨W2, hW2⟩ : ∃ W2, W2 = W.setCell ⟨g, 9, none⟩ (.bool true) := ⟨_, rfl⟩
        have k2 : Blk W2 g 65 (rmA x s.works.isSome true s.bytes Ab cb s.line.isSome aa Ao co sn s.next) := by rw [hW2]; exact m1.set_ 9 _
        have g2 : Fr (· = g) W W2 := by rw [hW2]; exact (Fr.refl (· = g) W).set1 _ _
        have b2 := b0.fr g2 (by omega)
        have d8 : W2.cell? ⟨w.heap.size, 8, none⟩ = some (.slice A a.bytes.length c) := by simpa using b2.cell 8
        have hJs := (hs.fr q0 (fun _ _ h => h))
        have HB0 := Lib.hid h0
        have HNB := Lib.hid hnb
        have HW2 := Lib.hid hW2
        have hcl := copy_u8 W2 J A c a.bytes (hJs.fr g2 (fun k hk e => hJ (e ▸ hk))) (by omega)
        rw [hnb] at c8 d8 hcl
        clear e he HR h0 hb h7 hW2 hkn
        go_enter Tryz.func43, Tryz.ntmps43
        go_upto_region 1 with (fail)
        rw [← HW.out]
        go_upto_region 7 with (fail)
        rw [← HW2.out]
        go_wp2_with fail
        refine hcl.mono ?_
        rintro e w3 ⟨A1, c1, rfl, ho, q3, hA⟩
        have k3 := k2.fr q3 (fun h => h)
        have c10 : w3.cell? ⟨g, 10, none⟩ = some (.slice Ab s.bytes.length cb) := by simpa using k3.cell 10
        have f10 := k3.frozen 10
        obtain ⟨W4, hW4⟩ : ∃ W4, W4 = w3.setCell ⟨g, 10, none⟩ (.slice A1 nb c1) := ⟨_, rfl⟩
        have f4 : Fr (· = g) w3 W4 := by rw [hW4]; exact (Fr.refl (· = g) w3).set1 _ _
        have fW : Fr (· = g) W W4 := (g2.tr (Nw.on q3)).tr f4
        have f2 : Fr (· = g) w W4 := (Nw.on q0 : Fr (· = g) w W).tr fW
        have hnA : ∀ k, inA A1 k → ¬ k = g := fun k hk e => by have := hA k hk; have := g2.size; have := q0.size; omega
        have hm4 : IsRMv W4 (fun k => I k ∨ (inA A1 k ∧ k < w3.heap.size)) g { s with bytes := a.bytes } := by
          refine ⟨x, A1, c1, aa, Ao, co, sn, ?_, m2, m3, ?_, ?_, m7, hl, ?_, fun k hk => ?_⟩
          · show Blk W4 g 65 (rmA x s.works.isSome (!decide (a.bytes = [])) a.bytes A1 c1 s.line.isSome aa Ao co sn s.next)
            rw [HKN.out, hW4, ← HNB.out]
            exact k3.set_ 10 _
          · exact (m5.fr fW hnI).mono fun k hk _ => .inl hk
          · exact (ho.sl.fr f4 hnA).mono fun k hk _ => .inr ⟨hk, ho.lt k hk⟩
          · rintro (h | h)
            · exact m9 h
            · exact hnA g h.1 rfl
          · rcases hk with h | h
            · exact Nat.lt_of_lt_of_le (m10 k h) fW.size
            · exact Nat.lt_of_lt_of_le h.2 f4.size
        have hIJ : ∀ k, (I k ∨ (inA A1 k ∧ k < w3.heap.size)) → I k ∨ w.heap.size ≤ k := fun k hk => hk.imp id (fun h => Nat.le_trans (Nat.le_trans q0.size g2.size) (hA k h.1))
        have hn2 : 0 ≤ ({ s with bytes := a.bytes } : Mv).next ∧ ({ s with bytes := a.bytes } : Mv).next ≤ 4611686018427387904 := hn
        have h2 := rstep_any W4 _ g { s with bytes := a.bytes } x hm4 hx hn2 2 (by omega)
        have hab := rabsorb_any W4 _ g { s with bytes := a.bytes } x hm4 hx hn2
        have c7 : W4.cell? ⟨g, 7, none⟩ = some (U8V x.stage) := by
          obtain ⟨y, _, _, _, _, _, _, k1, _, k3, _⟩ := hm4
          obtain rfl := (k3 x hx).symm
          simpa using k1.cell 7
        have HW4 := Lib.hid hW4
        clear hW4 hm4 k2 k3
        go_upto_region 8 with (fail)
        rw [← HW4.out]
        by_cases hs1 : x.stage = 1
        · have E := Lib.hid (HRE.out.trans (if_pos hs1))
          have ds : (x.stage == 1) = true := by simp [hs1]
          go_wp2_with fail
          refine h2.mono ?_
          rintro e w3 ⟨v, rfl, hv⟩
          go_wp2_with fail
          go_ret
          rw [E.out]
          exact ⟨_, rfl, hv.back2 f2 hIJ⟩
        · have E := Lib.hid (HRE.out.trans (if_neg hs1))
          have ds : (x.stage == 1) = false := by simp [hs1]
          go_wp2_with fail
          refine hab.mono ?_
          rintro e w3 ⟨v, rfl, hv⟩
          go_wp2_with fail
          go_ret
          rw [E.out]
          exact ⟨_, rfl, hv.back2 f2 hIJ⟩
  · have d : (a.err != 0) = true := by simp [he]
    have e : r = askM s 0 (stepO x.num 7) := by rw [← HR.out, if_pos (.inl he)]
    have E := Lib.hid e
    clear e HR
    go_enter Tryz.func43, Tryz.ntmps43
    go_upto_region 1 with (fail)
    rw [← HW.out]
    go_wp2_with fail
    refine h7.mono ?_
    rintro e w1 ⟨v, rfl, hv⟩
    go_wp2_with fail
    go_ret
    rw [E.out]
    exact ⟨_, rfl, hv.back (Nw.on q0)⟩
set_option maxRecDepth 100000 in
theorem mnew_any (w : World) (n : Int) (hn : 0 ≤ n ∧ n ≤ 4611686018427387904) : Calls Tryz.prog 7 #[.int .i64 n] w fun e w' => e = .returned (.pointer (some ⟨w.heap.size, 0, none⟩)) ∧ IsMv w' (fun _ => False) w.heap.size (newM n) ∧ Nw w w' := by
  have hw : wrap64 (n + 1) = n + 1 := by unfold wrap64; omega
  go_enter Tryz.func7, Tryz.ntmps7
  go_wp2_with fail
  go_ret
  exact ⟨rfl, ⟨zAsk, none, 0, zSch, none, 0, Blk.new w _ _, fun b hb => (by cases hb), fun z hz => (by cases hz), fun _ => rfl, Sl.nil _ _ _, Sl.nil _ _ _, Nat.zero_le _, Nat.zero_le _, fun h => h, fun _ h => h.elim⟩, (Fr.refl (fun _ => False) w).alloc _⟩
set_option maxRecDepth 100000 in
theorem rnew_any (w : World) (n : Int) (hn : 0 ≤ n ∧ n ≤ 4611686018427387904) : Calls Tryz.prog 8 #[.int .i64 n] w fun e w' => e = .returned (.pointer (some ⟨w.heap.size, 0, none⟩)) ∧ IsRMv w' (fun _ => False) w.heap.size (newM n) ∧ Nw w w' := by
  have hw : wrap64 (n + 1) = n + 1 := by unfold wrap64; omega
  go_enter Tryz.func8, Tryz.ntmps8
  go_wp2_with fail
  go_ret
  exact ⟨rfl, ⟨zSch, none, 0, zAsk, none, 0, 0, Blk.new w _ _, fun b hb => (by cases hb), fun z hz => (by cases hz), Sl.nil _ _ _, Sl.nil _ _ _, Nat.zero_le _, Nat.zero_le _, fun h => h, fun _ h => h.elim⟩, (Fr.refl (fun _ => False) w).alloc _⟩
end Go.Proofs.YtfglibkffcogcaaGreat
