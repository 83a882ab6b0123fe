/- The reference's reader: its methods. -/
import Derived.Test.YtgmcjfjdjnoljaaRefA
namespace Go.Proofs.Ytgmcjfjdjnoljaa
open Go Go.RowKit

/-- Block g is a reader of the document's. -/
def IsRR (w : World) (F : Nat → Prop) (g : Nat) : Rd → Prop
  | none => Blk w g 73 #[.slice none 0 0, .bool true] ∧ OutF w F g
  | some bs => ∃ A cap, Blk w g 73 #[.slice A bs.length cap, .bool false] ∧ bs.length ≤ cap ∧ cap ≤ maxLen ∧ Sl w F A (bs.map B8) ∧ OutF w F g
theorem IsRR.fr {w w' : World} {F S : Nat → Prop} {g : Nat} {s : Rd} (h : IsRR w F g s) (hf : Fr S w w') (hg : ¬ S g) (hd : ∀ k, F k → ¬ S k) : IsRR w' F g s := by
  cases s with
  | none => exact ⟨h.1.fr hf hg, h.2.fr hf.size⟩
  | some bs =>
    obtain ⟨A, cap, hb, h1, h2, h3, h4⟩ := h
    exact ⟨A, cap, hb.fr hf hg, h1, h2, h3.fr hf hd, h4.fr hf.size⟩
theorem IsRR.out {w : World} {F : Nat → Prop} {g : Nat} {s : Rd} (h : IsRR w F g s) : OutF w F g := by
  cases s with
  | none => exact h.2
  | some bs => obtain ⟨_, _, _, _, _, _, h⟩ := h; exact h
theorem IsRR.lt {w : World} {F : Nat → Prop} {g : Nat} {s : Rd} (h : IsRR w F g s) : g < w.heap.size := by
  cases s with
  | none => exact h.1.lt
  | some bs => obtain ⟨_, _, hb, _⟩ := h; exact hb.lt
def RRTo (w : World) (F : Nat → Prop) (g : Nat) (s : Rd) (w' : World) : Prop := IsRR w' F g s ∧ Fr (· = g) w w'
theorem RRTo.trans {w w1 w2 : World} {F : Nat → Prop} {g : Nat} {s1 s2 : Rd} (h : RRTo w F g s1 w1) (k : RRTo w1 F g s2 w2) : RRTo w F g s2 w2 := ⟨k.1, h.2.tr k.2⟩
theorem RRTo.refl {w : World} {F : Nat → Prop} {g : Nat} {s : Rd} (h : IsRR w F g s) : RRTo w F g s w := ⟨h, Fr.refl _ _⟩

theorem rfail_any (w : World) (F : Nat → Prop) (g : Nat) (s : Rd) (h : IsRR w F g s) :
    Calls Try.prog 86 #[.pointer (some ⟨g, 0, none⟩)] w fun e w' => e = .returned (.tuple #[]) ∧ RRTo w F g none w' := by
  have hh : ∃ f v, Blk w g 73 #[v, f] ∧ OutF w F g := by
    cases s with
    | none => exact ⟨_, _, h⟩
    | some bs => obtain ⟨A, cap, hb, _, _, _, hg⟩ := h; exact ⟨_, _, hb, hg⟩
  obtain ⟨f, v, hb, hg⟩ := hh
  have c0 := hb.cell 0
  have c1 := hb.cell 1
  have f0 := hb.frozen 0
  have f1 := hb.frozen 1
  simp at c0 c1
  go_enter Try.func86, Try.ntmps86
  go_wp2
  go_end0
  refine ⟨rfl, ⟨?_, hg.fr (by simp [World.setCell])⟩, ((Fr.refl (· = g) w).setCell (p := ⟨g, 1, none⟩) (.inl rfl) _).setCell (p := ⟨g, 0, none⟩) (.inl rfl) _⟩
  have := (hb.set_ 1 (.bool true)).set_ 0 (.slice none 0 0)
  simpa using this

/-- Reading on: the store of what is left. -/
theorem IsRR.next {w : World} {F : Nat → Prop} {g : Nat} {A : Option Addr} {cap : Nat} {bs : List UInt8} (hb : Blk w g 73 #[.slice A bs.length cap, .bool false]) (h1 : bs.length ≤ cap) (h2 : cap ≤ maxLen) (h3 : Sl w F A (bs.map B8)) (h4 : OutF w F g) {j : Nat} (hj : j ≤ bs.length) :
    RRTo w F g (some (bs.drop j)) (w.setCell ⟨g, 0, none⟩ (.slice (cutA A cap j 1) (bs.length - j) (cap - j))) := by
  refine ⟨⟨cutA A cap j 1, cap - j, ?_, ?_, ?_, ?_, h4.fr (by simp [World.setCell])⟩, (Fr.refl (· = g) w).setCell (p := ⟨g, 0, none⟩) (.inl rfl) _⟩
  · have := hb.set_ 0 (.slice (cutA A cap j 1) (bs.length - j) (cap - j))
    simpa using this
  · simp; omega
  · unfold maxLen at h2 ⊢; omega
  · have := (h3.drop (n := bs.length) (m := cap) (s := 1) (l := j) (by simp) h1 hj).setCell (p := ⟨g, 0, none⟩) h4.1 (.slice (cutA A cap j 1) (bs.length - j) (cap - j))
    simpa [List.map_drop] using this

set_option maxHeartbeats 400000 in
theorem rrnumber_any (w : World) (F : Nat → Prop) (g : Nat) (s : Rd) (h : IsRR w F g s) (most : Int) (hsz : rdLeft s ≤ 1000000000000) :
    Calls Try.prog 64 #[.pointer (some ⟨g, 0, none⟩), .int .i64 most] w fun e w' => e = .returned (.int .i64 (rdNum most s).1) ∧ RRTo w F g (rdNum most s).2 w' := by
  cases s with
  | none =>
    have c1 := h.1.cell 1
    simp at c1
    go_enter Try.func64, Try.ntmps64
    go_wp2
    go_ret
    exact ⟨rfl, RRTo.refl h⟩
  | some bs =>
    obtain ⟨A, cap, hb, h1, h2, h3, h4⟩ := id h
    have c0 := hb.cell 0
    have c1 := hb.cell 1
    have f0 := hb.frozen 0
    simp at c0 c1
    have hget := rget_any w F A cap bs h3 hsz
    by_cases hd : decN bs = none
    · have HD := Lib.hid (rdNum_none most hd)
      have hg2 : Calls Try.prog 85 #[.slice A bs.length cap] w fun e w' => e = .returned (.tuple #[.int .i64 0, .int .i64 0]) ∧ w = w' := hget.mono fun e w' ⟨he, hw⟩ => by
        rcases he with ⟨_, he⟩ | ⟨n, j, he, _⟩
        · exact ⟨he, hw⟩
        · rw [hd] at he; cases he
      clear hd hget
      go_enter Try.func64, Try.ntmps64
      go_wp2_with (first | (go_at_call 85; refine hg2.mono ?_; rintro e w' ⟨rfl, rfl⟩) | (go_at_call 86; refine (rfail_any _ _ _ _ h).mono ?_; rintro e w2 ⟨rfl, hr⟩))
      go_ret
      rw [HD.out]
      exact ⟨rfl, hr⟩
    · obtain ⟨n, j, hd2, hj0, hj, hg2⟩ : ∃ n j : Nat, decN bs = some (n, bs.drop j) ∧ 0 < j ∧ j ≤ bs.length ∧ Calls Try.prog 85 #[.slice A bs.length cap] w fun e w' => e = .returned (.tuple #[.int .i64 n, .int .i64 j]) ∧ w = w' := by
        cases hq : decN bs with
        | none => exact (hd hq).elim
        | some q =>
          obtain ⟨n, r⟩ := q
          have hr : ∃ j, r = bs.drop j ∧ 0 < j ∧ j ≤ bs.length := by
            obtain ⟨_, he⟩ := decN_enc hq
            refine ⟨(enc n).length, ?_, ?_, ?_⟩
            · rw [he, List.drop_left]
            · have := enc_ne n
              cases h : enc n with
              | nil => exact (this h).elim
              | cons _ _ => simp
            · rw [he]; simp
          obtain ⟨j, rfl, hj0, hj⟩ := hr
          refine ⟨n, j, rfl, hj0, hj, hget.mono fun e w' ⟨he, hw⟩ => ?_⟩
          rcases he with ⟨he, _⟩ | ⟨n', j', he, hj0', hj', hee⟩
          · rw [hq] at he; cases he
          · rw [hq] at he
            injection he with he
            injection he with he1 he2
            have hl := congrArg List.length he2
            simp at hl
            have hjj : j = j' := by omega
            subst he1; subst hjj
            exact ⟨hee, hw⟩
      clear hd hget
      by_cases hm : most < (n : Int)
      · have HD := Lib.hid (rdNum_big most hd2 hm)
        clear hd2
        have hj1 : ((j : Int) == 0) = false := beq_eq_false_iff_ne.2 (by omega)
        go_enter Try.func64, Try.ntmps64
        go_wp2_with (first | (go_at_call 85; refine hg2.mono ?_; rintro e w' ⟨rfl, rfl⟩) | (go_at_call 86; refine (rfail_any _ _ _ _ h).mono ?_; rintro e w2 ⟨rfl, hr⟩))
        go_ret
        rw [HD.out]
        exact ⟨rfl, hr⟩
      · have HD := Lib.hid (rdNum_ok most hd2 hm)
        clear hd2
        have hj1 : ((j : Int) == 0) = false := beq_eq_false_iff_ne.2 (by omega)
        have hm2 : (n : Int) ≤ most := by omega
        have s2 := slice_l (P := Try.prog) 57 under_bytes 1 size_bytes A bs.length cap j hj
        have hfin := IsRR.next hb h1 h2 h3 h4 hj
        go_enter Try.func64, Try.ntmps64
        go_wp2_with (go_at_call 85; refine hg2.mono ?_; rintro e w' ⟨rfl, rfl⟩)
        go_ret
        rw [HD.out]
        exact ⟨rfl, hfin⟩

set_option maxHeartbeats 400000 in
theorem rrflag_any (w : World) (F : Nat → Prop) (g : Nat) (s : Rd) (h : IsRR w F g s) :
    Calls Try.prog 65 #[.pointer (some ⟨g, 0, none⟩)] w fun e w' => e = .returned (.bool (rdFlag s).1) ∧ RRTo w F g (rdFlag s).2 w' := by
  cases s with
  | none =>
    have c1 := h.1.cell 1
    simp at c1
    go_enter Try.func65, Try.ntmps65
    go_wp2
    go_ret
    exact ⟨rfl, RRTo.refl h⟩
  | some bs =>
    obtain ⟨A, cap, hb, h1, h2, h3, h4⟩ := id h
    have c0 := hb.cell 0
    have c1 := hb.cell 1
    have f0 := hb.frozen 0
    simp at c0 c1
    by_cases hne : bs = []
    · subst hne
      go_enter Try.func65, Try.ntmps65
      go_wp2_with (go_at_call 86; refine (rfail_any _ _ _ _ h).mono ?_; rintro e w2 ⟨rfl, hr⟩)
      go_ret
      exact ⟨rfl, hr⟩
    · obtain ⟨b, r, hbr⟩ : ∃ b r, bs = b :: r := by cases bs with | nil => exact (hne rfl).elim | cons b r => exact ⟨b, r, rfl⟩
      have hpos : 0 < bs.length := by rw [hbr]; simp
      obtain ⟨b', o, rfl, _, hc⟩ := h3.get (k := 0) hpos
      have hb0 : bs[0] = b := by simp [hbr]
      rw [hb0, Nat.add_zero] at hc
      clear hb0
      have hdr : bs.drop 1 = r := by rw [hbr]; rfl
      have hl0 : ((bs.length : Int) == 0) = false := beq_eq_false_iff_ne.2 (by omega)
      have hfl : rdFlag (some bs) = if 1 < b.toNat then (false, none) else (((b.toNat : Int) == 1), some r) := by rw [hbr]; rfl
      have hfin := IsRR.next hb h1 h2 h3 h4 (j := 1) hpos
      rw [hdr] at hfin
      have HBR := Lib.hid hbr
      clear hbr hdr hne
      by_cases hb1 : 1 < b.toNat
      · rw [if_pos hb1] at hfl
        have HD := Lib.hid hfl
        clear hfl
        go_enter Try.func65, Try.ntmps65
        go_wp2_with (go_at_call 86; refine (rfail_any _ _ _ _ h).mono ?_; rintro e w2 ⟨rfl, hr⟩)
        go_ret
        rw [HD.out]
        exact ⟨rfl, hr⟩
      · rw [if_neg hb1] at hfl
        have HD := Lib.hid hfl
        clear hfl
        have s2 : ∀ w, (Instr.slice 57 (.slice (some ⟨b', o, none⟩) bs.length cap) (some (.int .i64 1)) none none).run Try.prog w = .ok (.slice (cutA (some ⟨b', o, none⟩) cap 1 1) (bs.length - 1) (cap - 1)) w := slice_l (P := Try.prog) 57 under_bytes 1 size_bytes (some ⟨b', o, none⟩) bs.length cap 1 hpos
        go_enter Try.func65, Try.ntmps65
        go_wp2_with fail
        go_ret
        rw [HD.out]
        exact ⟨rfl, hfin⟩

set_option maxHeartbeats 400000 in
theorem rrrow_any (w : World) (F : Nat → Prop) (g : Nat) (s : Rd) (h : IsRR w F g s) (most : Int) (hsz : rdLeft s ≤ 1000000000000) :
    Calls Try.prog 66 #[.pointer (some ⟨g, 0, none⟩), .int .i64 most] w fun e w' => ∃ A c, e = .returned (.slice A (rdRow most s).1.length c) ∧ Own w' 5 1 A (rdRow most s).1.length c ((rdRow most s).1.map B8) ∧ RRTo w F g (rdRow most s).2 w' ∧ ∀ k, inA A k → w.heap.size ≤ k := by
  rcases rdNum_cases most s with hn | ⟨bs, m, r, rfl, hn, hm, _, hbs⟩
  · have HD := Lib.hid (rdRow_none hn)
    have hcon := rrnumber_any _ _ _ _ h most hsz
    rw [hn] at hcon
    clear hn
    go_enter Try.func66, Try.ntmps66
    go_wp2_with (go_at_call 64; refine hcon.mono ?_; rintro e w1 ⟨rfl, h1⟩; have c1 := h1.1.1.cell 1; simp at c1)
    go_ret
    rw [HD.out]
    exact ⟨none, 0, rfl, Own.nil _ _ _, h1, fun k hk => (inA_none k hk).elim⟩
  · have HD := Lib.hid (rdRow_some hn)
    have hcon := rrnumber_any _ _ _ _ h most hsz
    rw [hn] at hcon
    have hrl : r.length ≤ 1000000000000 := by
      have : rdLeft (some bs) = bs.length := rfl
      rw [this, hbs, List.length_append] at hsz
      omega
    clear hn hbs
    unfold topN at hm
    by_cases hlt : r.length < m
    · go_enter Try.func66, Try.ntmps66
      go_wp2_with fail
      refine hcon.mono ?_
      rintro e w1 ⟨rfl, h1⟩
      obtain ⟨A, cap, hb, q1, q2, q3, q4⟩ := id h1.1
      have c0 := hb.cell 0
      have c1 := hb.cell 1
      simp at c0 c1
      go_wp2_with (go_at_call 86; refine (rfail_any _ _ _ _ h1.1).mono ?_; rintro e w2 ⟨rfl, hr⟩)
      go_ret
      rw [HD.out, if_pos hlt]
      exact ⟨none, 0, rfl, Own.nil _ _ _, h1.trans hr, fun k hk => (inA_none k hk).elim⟩
    · have hle : m ≤ r.length := by omega
      go_enter Try.func66, Try.ntmps66
      go_wp2_with fail
      refine hcon.mono ?_
      rintro e w1 ⟨rfl, h1⟩
      obtain ⟨A, cap, hb, q1, q2, q3, q4⟩ := id h1.1
      have c0 := hb.cell 0
      have c1 := hb.cell 1
      have f0 := hb.frozen 0
      simp at c0 c1
      have htl : (r.take m).length = m := by rw [List.length_take]; omega
      have HT := Lib.hid htl
      clear htl
      have s1 := slice_h (P := Try.prog) 57 under_bytes 1 size_bytes A r.length cap m (by omega)
      have s2 := slice_l (P := Try.prog) 57 under_bytes 1 size_bytes A r.length cap m hle
      have c0a := (hb.alloc (.cells #[] 5)).cell 0
      simp at c0a
      have hsl := (q3.pre (k := m)).alloc (.cells #[] 5)
      rw [← List.map_take] at hsl
      go_wp2_with (at_builtin; refine wl_append rfl _ _ _ rfl 1 (.int .u8 0) Try.underlying57 info_u8 rfl (by decide) rfl (Own.new w1 5 1 0 0 #[] (Nat.le_refl _) (by decide) rfl) rfl hsl (by rw [List.length_map, HT.out, Nat.mul_one]) (B8_oneCell _) (by omega) (by unfold maxLen; omega) ?_; intro A' cap' w2 ho hf hin; have hb2 := (hb.alloc (.cells #[] 5)).fr hf (fun hk => by have := hb.lt; rw [(inA_some _ _).1 hk] at this; simp at this); have c20 := hb2.cell 0; have f20 := hb2.frozen 0; simp at c20)
      go_ret
      rw [HD.out, if_neg hlt]
      simp only [HT.out]
      simp only [Nat.zero_add, Nat.zero_mul, List.take_zero, List.nil_append] at ho
      have hnew : ∀ k, inA A' k → w1.heap.size ≤ k := fun k hk => by
        rcases hin k hk with h | h
        · rw [(inA_some _ _).1 h]; exact Nat.le_refl _
        · rw [h]; simp
      have hfw : Nw w1 w2 := ((Fr.refl _ w1).alloc _).trans hf fun k hk => .inr (by rw [(inA_some _ _).1 hk]; exact Nat.le_refl _)
      have q32 := q3.fr hfw (fun _ _ h => h)
      have hnext := IsRR.next hb2 q1 q2 q32 (q4.fr hfw.size) hle
      have hgl := hb.lt
      refine ⟨A', cap', rfl, ho.setCell (p := ⟨g, 0, none⟩) (fun hk => by have := hnew g hk; omega) _, ⟨hnext.1, h1.2.tr (hfw.on.tr hnext.2)⟩, fun k hk => Nat.le_trans h1.2.size (hnew k hk)⟩
end Go.Proofs.Ytgmcjfjdjnoljaa
