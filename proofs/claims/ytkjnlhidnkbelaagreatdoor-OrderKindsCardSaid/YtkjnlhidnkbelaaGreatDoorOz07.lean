/- Lemmas of the walks: Gg1. (Laid together by shake.py.) -/
import Derived.Recover
import Derived.Defers
import Derived.Laws.Pointers
import Derived.Test.YtkjnlhidnkbelaaGreatDoorOz04
import Derived.Test.YtkjnlhidnkbelaaGreatDoorOz06
set_option linter.unusedVariables false
set_option linter.unusedSimpArgs false
/- The reference's reader. -/
namespace Go.Proofs.YtkjnlhidnkbelaaGreatDoor
open Go Go.RowKit

def GetTo (bs : List UInt8) (e : Ending) : Prop :=
  (decN bs = none ∧ e = .returned (.tuple #[.int .i64 0, .int .i64 0])) ∨
  ∃ n j : Nat, decN bs = some (n, bs.drop j) ∧ 0 < j ∧ j ≤ bs.length ∧ e = .returned (.tuple #[.int .i64 n, .int .i64 j])

def GetLoop (bs : List UInt8) (n i : Value) : Prop := ∃ k acc : Nat, n = .int .i64 acc ∧ i = .int .i64 k ∧ k ≤ bs.length ∧ NumAt bs k acc (bs.drop k)

set_option maxRecDepth 100000 in
set_option maxHeartbeats 1000000 in
theorem rget_any (w : World) (F : Nat → Prop) (A : Option Addr) (c : Nat) (bs : List UInt8) (h : Sl w F A (bs.map B8)) (hsz : bs.length ≤ 1000000000000) :
    Calls Tryz.prog 137 #[.slice A bs.length c] w fun e w' => GetTo bs e ∧ w = w' := by
  go_enter Tryz.func137, Tryz.ntmps137
  go_wp2_with fail
  go_loop [4, 5] (fun n i => GetLoop bs n i) (fun _ i => 9 - (intOf i).toNat)
  case atStart => exact ⟨0, 0, rfl, rfl, Nat.zero_le _, NumAt.start bs⟩
  case round =>
    obtain ⟨k, acc, rfl, rfl, hkl, hN⟩ := hrel
    have hk9 := hN.le
    by_cases hlt : k < bs.length
    · by_cases hk : k < 9
      · obtain ⟨b', o, rfl, _, hc⟩ := h.get hlt
        obtain ⟨b, hb⟩ : ∃ b, bs[k] = b := ⟨_, rfl⟩
        have hdrop : bs.drop k = b :: bs.drop (k + 1) := by rw [← hb]; exact List.drop_eq_getElem_cons hlt
        rw [hdrop] at hN
        rw [hb] at hc
        have HB := Lib.hid hb
        clear hb hdrop
        have hNB := numByte k acc b hk hN.lt
        obtain ⟨v, hv⟩ : ∃ v : Nat, v = acc + 128 ^ k * (b.toNat % 128) := ⟨_, rfl⟩
        rw [← hv] at hNB
        have HV := Lib.hid hv
        clear hv
        have hb256 : b.toNat < 256 := b.toNat_lt
        by_cases hlt8 : b.toNat < 128
        · have hlast := Lib.hid (hN.last hk hlt8)
          by_cases h0 : 0 < k ∧ b.toNat = 0
          · have hfin : GetTo bs (.returned (.tuple #[.int .i64 0, .int .i64 0])) := by
              have := hlast.out
              rw [if_pos h0] at this
              exact .inl ⟨this, rfl⟩
            obtain ⟨h01, h02⟩ := h0
            have h03 : ((b.toNat : Int) == 0) = true := by simp [h02]
            clear h02
            go_wp2_with fail
            go_ret2
            exact ⟨hfin, rfl⟩
          · have hv2 : acc + 128 ^ k * b.toNat = v := by
              have := HV.out
              rw [Nat.mod_eq_of_lt hlt8] at this
              exact this.symm
            have hl2 := hlast.out
            rw [if_neg h0, hv2] at hl2
            have HL2 := Lib.hid hl2
            clear hl2 hv2 hlast
            have hq : (¬ (0 < k) ∨ (0 < k ∧ ((b.toNat : Int) == 0) = false)) := by
              by_cases hz : 0 < k
              · exact .inr ⟨hz, beq_eq_false_iff_ne.2 (by omega)⟩
              · exact .inl hz
            clear h0
            by_cases ht : 4611686018427387903 < (v : Int)
            · have hfin : GetTo bs (.returned (.tuple #[.int .i64 0, .int .i64 0])) := by
                have := HL2.out
                rw [if_pos (by unfold topN; omega)] at this
                exact .inl ⟨this, rfl⟩
              rcases hq with hkf | ⟨hk0, hb0⟩
              all_goals
                go_wp2_with fail
                go_ret2
                exact ⟨hfin, rfl⟩
            · have hfin : GetTo bs (.returned (.tuple #[.int .i64 v, .int .i64 ((k : Int) + 1)])) := by
                have := HL2.out
                rw [if_neg (by unfold topN; omega)] at this
                exact .inr ⟨v, k + 1, this, by omega, by omega, rfl⟩
              have ht1 : (v : Int) ≤ 4611686018427387903 := by omega
              clear ht
              rcases hq with hkf | ⟨hk0, hb0⟩
              all_goals
                go_wp2_with fail
                go_ret2
                exact ⟨hfin, rfl⟩
        · have hb128 : 128 ≤ b.toNat := by omega
          have hnext := hN.next hk hb128
          have hvb : acc + 128 ^ k * (b.toNat - 128) = v := by
            have := HV.out
            rw [this]
            congr 2
            omega
          rw [hvb] at hnext
          clear hvb
          go_wp2_with fail
          go_round
          case rel => exact ⟨k + 1, v, rfl, by go_num, by omega, hnext⟩
          case measure => simp [intOf]; omega
      · have hk9' : k = 9 := by omega
        subst hk9'
        have hfin : GetTo bs (.returned (.tuple #[.int .i64 0, .int .i64 0])) := .inl ⟨hN.far, rfl⟩
        go_wp2_with fail
        go_ret2
        exact ⟨hfin, rfl⟩
    · have hd : bs.drop k = [] := List.drop_eq_nil_of_le (by omega)
      rw [hd] at hN
      have hfin : GetTo bs (.returned (.tuple #[.int .i64 0, .int .i64 0])) := .inl ⟨hN.none_, rfl⟩
      clear hd
      go_wp2_with fail
      go_ret2
      exact ⟨hfin, rfl⟩
end Go.Proofs.YtkjnlhidnkbelaaGreatDoor
/- The reference's reader: its methods. -/
namespace Go.Proofs.YtkjnlhidnkbelaaGreatDoor
open Go Go.RowKit

/-- Block g is a reader of the document's. -/
def IsRR (w : World) (F : Nat → Prop) (g : Nat) : Rd → Prop
  | none => Blk w g 157 #[.slice none 0 0, .bool true] ∧ OutF w F g
  | some bs => ∃ A cap, Blk w g 157 #[.slice A bs.length cap, .bool false] ∧ bs.length ≤ cap ∧ cap ≤ maxLen ∧ Sl w F A (bs.map B8) ∧ OutF w F g
theorem IsRR.fr {w w' : World} {F S : Nat → Prop} {g : Nat} {s : Rd} (h : IsRR w F g s) (hf : Fr S w w') (hg : ¬ S g) (hd : ∀ k, F k → ¬ S k) : IsRR w' F g s := by
  cases s with
  | none => exact ⟨h.1.fr hf hg, h.2.fr hf.size⟩
  | some bs =>
    obtain ⟨A, cap, hb, h1, h2, h3, h4⟩ := h
    exact ⟨A, cap, hb.fr hf hg, h1, h2, h3.fr hf hd, h4.fr hf.size⟩
theorem IsRR.out {w : World} {F : Nat → Prop} {g : Nat} {s : Rd} (h : IsRR w F g s) : OutF w F g := by
  cases s with
  | none => exact h.2
  | some bs => obtain ⟨_, _, _, _, _, _, h⟩ := h; exact h
theorem IsRR.lt {w : World} {F : Nat → Prop} {g : Nat} {s : Rd} (h : IsRR w F g s) : g < w.heap.size := by
  cases s with
  | none => exact h.1.lt
  | some bs => obtain ⟨_, _, hb, _⟩ := h; exact hb.lt
def RRTo (w : World) (F : Nat → Prop) (g : Nat) (s : Rd) (w' : World) : Prop := IsRR w' F g s ∧ Fr (· = g) w w'
theorem RRTo.trans {w w1 w2 : World} {F : Nat → Prop} {g : Nat} {s1 s2 : Rd} (h : RRTo w F g s1 w1) (k : RRTo w1 F g s2 w2) : RRTo w F g s2 w2 := ⟨k.1, h.2.tr k.2⟩
theorem RRTo.refl {w : World} {F : Nat → Prop} {g : Nat} {s : Rd} (h : IsRR w F g s) : RRTo w F g s w := ⟨h, Fr.refl _ _⟩

theorem rfail_any (w : World) (F : Nat → Prop) (g : Nat) (s : Rd) (h : IsRR w F g s) :
    Calls Tryz.prog 138 #[.pointer (some ⟨g, 0, none⟩)] w fun e w' => e = .returned (.tuple #[]) ∧ RRTo w F g none w' := by
  have hh : ∃ f v, Blk w g 157 #[v, f] ∧ OutF w F g := by
    cases s with
    | none => exact ⟨_, _, h⟩
    | some bs => obtain ⟨A, cap, hb, _, _, _, hg⟩ := h; exact ⟨_, _, hb, hg⟩
  obtain ⟨f, v, hb, hg⟩ := hh
  have c0 := hb.cell 0
  have c1 := hb.cell 1
  have f0 := hb.frozen 0
  have f1 := hb.frozen 1
  simp at c0 c1
  go_enter Tryz.func138, Tryz.ntmps138
  go_wp2
  go_end0
  refine ⟨rfl, ⟨?_, hg.fr (by simp [World.setCell])⟩, ((Fr.refl (· = g) w).setCell (p := ⟨g, 1, none⟩) (.inl rfl) _).setCell (p := ⟨g, 0, none⟩) (.inl rfl) _⟩
  have := (hb.set_ 1 (.bool true)).set_ 0 (.slice none 0 0)
  simpa using this

/-- Reading on: the store of what is left. -/
theorem IsRR.next {w : World} {F : Nat → Prop} {g : Nat} {A : Option Addr} {cap : Nat} {bs : List UInt8} (hb : Blk w g 157 #[.slice A bs.length cap, .bool false]) (h1 : bs.length ≤ cap) (h2 : cap ≤ maxLen) (h3 : Sl w F A (bs.map B8)) (h4 : OutF w F g) {j : Nat} (hj : j ≤ bs.length) :
    RRTo w F g (some (bs.drop j)) (w.setCell ⟨g, 0, none⟩ (.slice (cutA A cap j 1) (bs.length - j) (cap - j))) := by
  refine ⟨⟨cutA A cap j 1, cap - j, ?_, ?_, ?_, ?_, h4.fr (by simp [World.setCell])⟩, (Fr.refl (· = g) w).setCell (p := ⟨g, 0, none⟩) (.inl rfl) _⟩
  · have := hb.set_ 0 (.slice (cutA A cap j 1) (bs.length - j) (cap - j))
    simpa using this
  · simp; omega
  · unfold maxLen at h2 ⊢; omega
  · have := (h3.drop (n := bs.length) (m := cap) (s := 1) (l := j) (by simp) h1 hj).setCell (p := ⟨g, 0, none⟩) h4.1 (.slice (cutA A cap j 1) (bs.length - j) (cap - j))
    simpa [List.map_drop] using this

set_option maxHeartbeats 400000 in
theorem rrnumber_any (w : World) (F : Nat → Prop) (g : Nat) (s : Rd) (h : IsRR w F g s) (most : Int) (hsz : rdLeft s ≤ 1000000000000) :
    Calls Tryz.prog 88 #[.pointer (some ⟨g, 0, none⟩), .int .i64 most] w fun e w' => e = .returned (.int .i64 (rdNum most s).1) ∧ RRTo w F g (rdNum most s).2 w' := by
  cases s with
  | none =>
    have c1 := h.1.cell 1
    simp at c1
    go_enter Tryz.func88, Tryz.ntmps88
    go_wp2
    go_ret
    exact ⟨rfl, RRTo.refl h⟩
  | some bs =>
    obtain ⟨A, cap, hb, h1, h2, h3, h4⟩ := id h
    have c0 := hb.cell 0
    have c1 := hb.cell 1
    have f0 := hb.frozen 0
    simp at c0 c1
    have hget := rget_any w F A cap bs h3 hsz
    by_cases hd : decN bs = none
    · have HD := Lib.hid (rdNum_none most hd)
      have hg2 : Calls Tryz.prog 137 #[.slice A bs.length cap] w fun e w' => e = .returned (.tuple #[.int .i64 0, .int .i64 0]) ∧ w = w' := hget.mono fun e w' ⟨he, hw⟩ => by
        rcases he with ⟨_, he⟩ | ⟨n, j, he, _⟩
        · exact ⟨he, hw⟩
        · rw [hd] at he; cases he
      clear hd hget
      go_enter Tryz.func88, Tryz.ntmps88
      go_wp2_with (first | (go_at_call 137; refine hg2.mono ?_; rintro e w' ⟨rfl, rfl⟩) | (go_at_call 138; refine (rfail_any _ _ _ _ h).mono ?_; rintro e w2 ⟨rfl, hr⟩))
      go_ret
      rw [HD.out]
      exact ⟨rfl, hr⟩
    · obtain ⟨n, j, hd2, hj0, hj, hg2⟩ : ∃ n j : Nat, decN bs = some (n, bs.drop j) ∧ 0 < j ∧ j ≤ bs.length ∧ Calls Tryz.prog 137 #[.slice A bs.length cap] w fun e w' => e = .returned (.tuple #[.int .i64 n, .int .i64 j]) ∧ w = w' := by
        cases hq : decN bs with
        | none => exact (hd hq).elim
        | some q =>
          obtain ⟨n, r⟩ := q
          have hr : ∃ j, r = bs.drop j ∧ 0 < j ∧ j ≤ bs.length := by
            obtain ⟨_, he⟩ := decN_enc hq
            refine ⟨(enc n).length, ?_, ?_, ?_⟩
            · rw [he, List.drop_left]
            · have := enc_ne n
              cases h : enc n with
              | nil => exact (this h).elim
              | cons _ _ => simp
            · rw [he]; simp
          obtain ⟨j, rfl, hj0, hj⟩ := hr
          refine ⟨n, j, rfl, hj0, hj, hget.mono fun e w' ⟨he, hw⟩ => ?_⟩
          rcases he with ⟨he, _⟩ | ⟨n', j', he, hj0', hj', hee⟩
          · rw [hq] at he; cases he
          · rw [hq] at he
            injection he with he
            injection he with he1 he2
            have hl := congrArg List.length he2
            simp at hl
            have hjj : j = j' := by omega
            subst he1; subst hjj
            exact ⟨hee, hw⟩
      clear hd hget
      by_cases hm : most < (n : Int)
      · have HD := Lib.hid (rdNum_big most hd2 hm)
        clear hd2
        have hj1 : ((j : Int) == 0) = false := beq_eq_false_iff_ne.2 (by omega)
        go_enter Tryz.func88, Tryz.ntmps88
        go_wp2_with (first | (go_at_call 137; refine hg2.mono ?_; rintro e w' ⟨rfl, rfl⟩) | (go_at_call 138; refine (rfail_any _ _ _ _ h).mono ?_; rintro e w2 ⟨rfl, hr⟩))
        go_ret
        rw [HD.out]
        exact ⟨rfl, hr⟩
      · have HD := Lib.hid (rdNum_ok most hd2 hm)
        clear hd2
        have hj1 : ((j : Int) == 0) = false := beq_eq_false_iff_ne.2 (by omega)
        have hm2 : (n : Int) ≤ most := by omega
        have s2 := slice_l (P := Tryz.prog) 22 under_bytes 1 size_bytes A bs.length cap j hj
        have hfin := IsRR.next hb h1 h2 h3 h4 hj
        go_enter Tryz.func88, Tryz.ntmps88
        go_wp2_with (go_at_call 137; refine hg2.mono ?_; rintro e w' ⟨rfl, rfl⟩)
        go_ret
        rw [HD.out]
        exact ⟨rfl, hfin⟩

set_option maxHeartbeats 400000 in
theorem rrflag_any (w : World) (F : Nat → Prop) (g : Nat) (s : Rd) (h : IsRR w F g s) :
    Calls Tryz.prog 90 #[.pointer (some ⟨g, 0, none⟩)] w fun e w' => e = .returned (.bool (rdFlag s).1) ∧ RRTo w F g (rdFlag s).2 w' := by
  cases s with
  | none =>
    have c1 := h.1.cell 1
    simp at c1
    go_enter Tryz.func90, Tryz.ntmps90
    go_wp2
    go_ret
    exact ⟨rfl, RRTo.refl h⟩
  | some bs =>
    obtain ⟨A, cap, hb, h1, h2, h3, h4⟩ := id h
    have c0 := hb.cell 0
    have c1 := hb.cell 1
    have f0 := hb.frozen 0
    simp at c0 c1
    by_cases hne : bs = []
    · subst hne
      go_enter Tryz.func90, Tryz.ntmps90
      go_wp2_with (go_at_call 138; refine (rfail_any _ _ _ _ h).mono ?_; rintro e w2 ⟨rfl, hr⟩)
      go_ret
      exact ⟨rfl, hr⟩
    · obtain ⟨b, r, hbr⟩ : ∃ b r, bs = b :: r := by cases bs with | nil => exact (hne rfl).elim | cons b r => exact ⟨b, r, rfl⟩
      have hpos : 0 < bs.length := by rw [hbr]; simp
      obtain ⟨b', o, rfl, _, hc⟩ := h3.get (k := 0) hpos
      have hb0 : bs[0] = b := by simp [hbr]
      rw [hb0, Nat.add_zero] at hc
      clear hb0
      have hdr : bs.drop 1 = r := by rw [hbr]; rfl
      have hl0 : ((bs.length : Int) == 0) = false := beq_eq_false_iff_ne.2 (by omega)
      have hfl : rdFlag (some bs) = if 1 < b.toNat then (false, none) else (((b.toNat : Int) == 1), some r) := by rw [hbr]; rfl
      have hfin := IsRR.next hb h1 h2 h3 h4 (j := 1) hpos
      rw [hdr] at hfin
      have HBR := Lib.hid hbr
      clear hbr hdr hne
      by_cases hb1 : 1 < b.toNat
      · rw [if_pos hb1] at hfl
        have HD := Lib.hid hfl
        clear hfl
        go_enter Tryz.func90, Tryz.ntmps90
        go_wp2_with (go_at_call 138; refine (rfail_any _ _ _ _ h).mono ?_; rintro e w2 ⟨rfl, hr⟩)
        go_ret
        rw [HD.out]
        exact ⟨rfl, hr⟩
      · rw [if_neg hb1] at hfl
        have HD := Lib.hid hfl
        clear hfl
        have s2 : ∀ w, (Instr.slice 22 (.slice (some ⟨b', o, none⟩) bs.length cap) (some (.int .i64 1)) none none).run Tryz.prog w = .ok (.slice (cutA (some ⟨b', o, none⟩) cap 1 1) (bs.length - 1) (cap - 1)) w := slice_l (P := Tryz.prog) 22 under_bytes 1 size_bytes (some ⟨b', o, none⟩) bs.length cap 1 hpos
        go_enter Tryz.func90, Tryz.ntmps90
        go_wp2_with fail
        go_ret
        rw [HD.out]
        exact ⟨rfl, hfin⟩

theorem rrend_any (w : World) (F : Nat → Prop) (g : Nat) (s : Rd) (h : IsRR w F g s) :
    Calls Tryz.prog 93 #[.pointer (some ⟨g, 0, none⟩)] w fun e w' => e = .returned (.int .i64 (rdEnd s)) ∧ w = w' := by
  cases s with
  | none =>
    have c0 := h.1.cell 0
    have c1 := h.1.cell 1
    simp at c0 c1
    go_enter Tryz.func93, Tryz.ntmps93
    go_wp2
    go_ret
    exact ⟨rfl, rfl⟩
  | some bs =>
    obtain ⟨A, cap, hb, _⟩ := id h
    have c0 := hb.cell 0
    have c1 := hb.cell 1
    simp at c0 c1
    by_cases hne : bs = []
    · subst hne
      go_enter Tryz.func93, Tryz.ntmps93
      go_wp2
      go_ret
      exact ⟨rfl, rfl⟩
    · have hpos : (0 : Int) < ((bs.length : Nat) : Int) := by cases bs with | nil => exact (hne rfl).elim | cons b r => simp
      have HD := Lib.hid (show rdEnd (some bs) = 4 by simp [rdEnd, hne])
      clear hne
      go_enter Tryz.func93, Tryz.ntmps93
      go_wp2
      go_ret
      rw [HD.out]
      exact ⟨rfl, rfl⟩

set_option maxHeartbeats 400000 in
theorem rrrow_any (w : World) (F : Nat → Prop) (g : Nat) (s : Rd) (h : IsRR w F g s) (most : Int) (hsz : rdLeft s ≤ 1000000000000) :
    Calls Tryz.prog 92 #[.pointer (some ⟨g, 0, none⟩), .int .i64 most] w fun e w' => ∃ A c, e = .returned (.slice A (rdRow most s).1.length c) ∧ Own w' 5 1 A (rdRow most s).1.length c ((rdRow most s).1.map B8) ∧ RRTo w F g (rdRow most s).2 w' ∧ ∀ k, inA A k → w.heap.size ≤ k := by
  rcases rdNum_cases most s with hn | ⟨bs, m, r, rfl, hn, hm, _, hbs⟩
  · have HD := Lib.hid (rdRow_none hn)
    have hcon := rrnumber_any _ _ _ _ h most hsz
    rw [hn] at hcon
    clear hn
    go_enter Tryz.func92, Tryz.ntmps92
    go_wp2_with (go_at_call 88; refine hcon.mono ?_; rintro e w1 ⟨rfl, h1⟩; have c1 := h1.1.1.cell 1; simp at c1)
    go_ret
    rw [HD.out]
    exact ⟨none, 0, rfl, Own.nil _ _ _, h1, fun k hk => (inA_none k hk).elim⟩
  · have HD := Lib.hid (rdRow_some hn)
    have hcon := rrnumber_any _ _ _ _ h most hsz
    rw [hn] at hcon
    have hrl : r.length ≤ 1000000000000 := by
      have : rdLeft (some bs) = bs.length := rfl
      rw [this, hbs, List.length_append] at hsz
      omega
    clear hn hbs
    unfold topN at hm
    by_cases hlt : r.length < m
    · go_enter Tryz.func92, Tryz.ntmps92
      go_wp2_with fail
      refine hcon.mono ?_
      rintro e w1 ⟨rfl, h1⟩
      obtain ⟨A, cap, hb, q1, q2, q3, q4⟩ := id h1.1
      have c0 := hb.cell 0
      have c1 := hb.cell 1
      simp at c0 c1
      go_wp2_with (go_at_call 138; refine (rfail_any _ _ _ _ h1.1).mono ?_; rintro e w2 ⟨rfl, hr⟩)
      go_ret
      rw [HD.out, if_pos hlt]
      exact ⟨none, 0, rfl, Own.nil _ _ _, h1.trans hr, fun k hk => (inA_none k hk).elim⟩
    · have hle : m ≤ r.length := by omega
      go_enter Tryz.func92, Tryz.ntmps92
      go_wp2_with fail
      refine hcon.mono ?_
      rintro e w1 ⟨rfl, h1⟩
      obtain ⟨A, cap, hb, q1, q2, q3, q4⟩ := id h1.1
      have c0 := hb.cell 0
      have c1 := hb.cell 1
      have f0 := hb.frozen 0
      simp at c0 c1
      have htl : (r.take m).length = m := by rw [List.length_take]; omega
      have HT := Lib.hid htl
      clear htl
      have s1 := slice_h (P := Tryz.prog) 22 under_bytes 1 size_bytes A r.length cap m (by omega)
      have s2 := slice_l (P := Tryz.prog) 22 under_bytes 1 size_bytes A r.length cap m hle
      have c0a := (hb.alloc (.cells #[] 5)).cell 0
      simp at c0a
      have hsl := (q3.pre (k := m)).alloc (.cells #[] 5)
      rw [← List.map_take] at hsl
      go_wp2_with (at_builtin; refine wl_append rfl _ _ _ rfl 1 (.int .u8 0) Tryz.underlying22 info_u8 rfl (by decide) rfl (Own.new w1 5 1 0 0 #[] (Nat.le_refl _) (by decide) rfl) rfl hsl (by rw [List.length_map, HT.out, Nat.mul_one]) (B8_oneCell _) (by omega) (by unfold maxLen; omega) ?_; intro A' cap' w2 ho hf hin; have hb2 := (hb.alloc (.cells #[] 5)).fr hf (fun hk => by have := hb.lt; rw [(inA_some _ _).1 hk] at this; simp at this); have c20 := hb2.cell 0; have f20 := hb2.frozen 0; simp at c20)
      go_ret
      rw [HD.out, if_neg hlt]
      simp only [HT.out]
      simp only [Nat.zero_add, Nat.zero_mul, List.take_zero, List.nil_append] at ho
      have hnew : ∀ k, inA A' k → w1.heap.size ≤ k := fun k hk => by
        rcases hin k hk with h | h
        · rw [(inA_some _ _).1 h]; exact Nat.le_refl _
        · rw [h]; simp
      have hfw : Nw w1 w2 := ((Fr.refl _ w1).alloc _).trans hf fun k hk => .inr (by rw [(inA_some _ _).1 hk]; exact Nat.le_refl _)
      have q32 := q3.fr hfw (fun _ _ h => h)
      have hnext := IsRR.next hb2 q1 q2 q32 (q4.fr hfw.size) hle
      have hgl := hb.lt
      refine ⟨A', cap', rfl, ho.setCell (p := ⟨g, 0, none⟩) (fun hk => by have := hnew g hk; omega) _, ⟨hnext.1, h1.2.tr (hfw.on.tr hnext.2)⟩, fun k hk => Nat.le_trans h1.2.size (hnew k hk)⟩
end Go.Proofs.YtkjnlhidnkbelaaGreatDoor
/- Orders read by the program: what throws and what catches it; numbers read into cells. -/
namespace Go.Proofs.YtkjnlhidnkbelaaGreatDoor
open Go Go.RowKit
set_option linter.unusedVariables false
set_option linter.unusedSimpArgs false

/-- What is thrown where bytes are none. -/
abbrev shapeP : PanicEntry := { v := .iface 34 (.int .i64 4), recovered := false }
set_option maxRecDepth 100000 in
theorem omust_yes (w : World) : Calls Tryz.prog 65 #[.bool true] w fun e w' => e = .returned (.tuple #[]) ∧ w = w' := by
  go_enter Tryz.func65, Tryz.ntmps65
  go_wp2_with fail
  go_end0
  exact ⟨rfl, rfl⟩
set_option maxRecDepth 100000 in
theorem omust_no (w : World) : Calls Tryz.prog 65 #[.bool false] w fun e w' => e = .panicked [shapeP] ∧ w = w' := by
  go_enter Tryz.func65, Tryz.ntmps65
  go_wp2_with fail
  exact ⟨rfl, rfl, rfl⟩
/-- Numbers, one behind the other. -/
def rdNs (m : Int) : Nat → Rd → List Int × Rd
  | 0, s => ([], s)
  | k + 1, s => ((rdNs m k s).1 ++ [(rdNum m (rdNs m k s).2).1], (rdNum m (rdNs m k s).2).2)
theorem rdNs_len (m : Int) (k : Nat) (s : Rd) : (rdNs m k s).1.length = k := by
  induction k with
  | zero => rfl
  | succ k ih => simp [rdNs, ih]
/-- Cells set, one behind the other. -/
def setNs (cs : Array Value) : List Nat → List Int → Array Value
  | o :: os, n :: ns => setNs (cs.setIfInBounds o (I64 n)) os ns
  | _, _ => cs
theorem setNs_snoc (os : List Nat) (ns : List Int) (h : os.length = ns.length) (o : Nat) (n : Int) (cs : Array Value) : setNs cs (os ++ [o]) (ns ++ [n]) = (setNs cs os ns).setIfInBounds o (I64 n) := by
  induction os generalizing ns cs with
  | nil => cases ns with
    | nil => rfl
    | cons _ _ => cases h
  | cons a os ih => cases ns with
    | nil => cases h
    | cons b ns =>
      show setNs _ (os ++ [o]) (ns ++ [n]) = _
      rw [ih _ (by simpa using h)]
      rfl
theorem setNs_size (os : List Nat) (ns : List Int) (cs : Array Value) : (setNs cs os ns).size = cs.size := by
  induction os generalizing ns cs with
  | nil => cases ns <;> rfl
  | cons a os ih => cases ns with
    | nil => rfl
    | cons b ns =>
      show (setNs _ os ns).size = _
      rw [ih]
      simp
abbrev ptrV (X o : Nat) : Value := .pointer (some ⟨X, o, none⟩)
/-- So many numbers are read, into these cells. -/
def NsRel (w : World) (F : Nat → Prop) (g X sb : Nat) (t : TypeId) (cs : Array Value) (os : List Nat) (s : Rd) (i : Value) (wr : World) : Prop :=
  ∃ k : Nat, k ≤ os.length ∧ i = .int .i64 k ∧ IsRd wr F g (rdNs 1073741824 k s).2 ∧ Blk wr X t (setNs cs (os.take k) (rdNs 1073741824 k s).1) ∧ Fr (fun b => b = g ∨ b = X) w wr ∧ Blk wr sb 106 #[.pointer (some ⟨g, 0, none⟩)]
set_option maxRecDepth 100000 in
set_option maxHeartbeats 4000000 in
theorem onumbers_any (w : World) (F : Nat → Prop) (g : Nat) (s : Rd) (h : IsRd w F g s) (X : Nat) (t : TypeId) (cs : Array Value) (hx : Blk w X t cs) (hgX : g ≠ X) (hF : ¬ F X) (os : List Nat) (hos : ∀ o ∈ os, o < cs.size) (F2 : Nat → Prop) (A : Option Addr) (c : Nat)
    (hs : Sl w F2 A (os.map (ptrV X))) (hF2 : ∀ k, F2 k → ¬ (k = g ∨ k = X)) (hol : os.length ≤ 1000) :
    Calls Tryz.prog 59 #[.agg #[.pointer (some ⟨g, 0, none⟩)], .slice A os.length c] w fun e w' => e = .returned (.tuple #[]) ∧ IsRd w' F g (rdNs 1073741824 os.length s).2 ∧ Blk w' X t (setNs cs os (rdNs 1073741824 os.length s).1) ∧ Fr (fun b => b = g ∨ b = X) w w' := by
  have hgl := h.lt
  have hXl := hx.lt
  obtain ⟨n, hn⟩ : ∃ n, os.length = n := ⟨_, rfl⟩
  have q0 : Nw w (w.alloc (.cells #[.pointer (some ⟨g, 0, none⟩)] 106)) := (Fr.refl _ w).alloc _
  have hsb := Blk.new w 106 #[.pointer (some ⟨g, 0, none⟩)]
  have h0 := h.fr q0 (fun h => h) (fun _ _ h => h)
  have x0 := hx.fr q0 (fun h => h)
  rw [hn] at hol ⊢
  have HN := Lib.hid hn
  clear hn
  go_enter Tryz.func59, Tryz.ntmps59
  go_wp2_with fail
  go_loopw [8] (fun i wx => NsRel w F g X w.heap.size t cs os s i wx) (fun i _ => n - (intOf i).toNat)
  case atStart => exact ⟨0, Nat.zero_le _, rfl, h0, by simpa [rdNs, setNs] using x0, Nw.on q0, hsb⟩
  case round =>
    clear hsb h0 x0 q0
    obtain ⟨k, hk, rfl, hr, hb, hf, hsb⟩ := hrel
    have hn := HN.out
    by_cases hlt : k < n
    · have hlo : k < os.length := by omega
      obtain ⟨B, of, rfl, hFB, hcell⟩ := (hs.fr hf hF2).get hlo
      have hnk := fun w1 h1 => rdnumber_any w1 F g (rdNs 1073741824 k s).2 h1 1073741824
      have hsucc : rdNs 1073741824 (k + 1) s = ((rdNs 1073741824 k s).1 ++ [(rdNum 1073741824 (rdNs 1073741824 k s).2).1], (rdNum 1073741824 (rdNs 1073741824 k s).2).2) := rfl
      have hset := setNs_snoc (os.take k) (rdNs 1073741824 k s).1 (by rw [rdNs_len, List.length_take]; omega) os[k] (rdNum 1073741824 (rdNs 1073741824 k s).2).1 cs
      rw [← List.take_succ_eq_append_getElem hlo] at hset
      have hcs : os[k] < (setNs cs (os.take k) (rdNs 1073741824 k s).1).size := by rw [setNs_size]; exact hos _ (List.getElem_mem hlo)
      generalize setNs cs (os.take k) (rdNs 1073741824 k s).1 = C at hb hset hcs
      generalize rdNum 1073741824 (rdNs 1073741824 k s).2 = q at hnk hsucc hset
      generalize (rdNs 1073741824 k s).2 = sk at hr hnk
      obtain ⟨z, s2⟩ := q
      simp only at hnk hsucc hset
      have HS := Lib.hid hsucc
      have HT := Lib.hid hset
      generalize os[k] = o at hcell hcs hset HT
      clear hsucc hset
      have hsc := hsb.cell 0
      simp at hsc
      go_wp2_with fail
      refine (hnk _ hr).mono ?_
      rintro e w1 ⟨rfl, h1⟩
      have hb1 := hb.fr h1.2 (fun e => hgX e.symm)
      have c1 : w1.cell? ⟨X, o, none⟩ = some C[o] := by rw [hb1.cell]; simp [hcs]
      have f1 := hb1.frozen o
      have hsb1 := hsb.fr h1.2 (by omega)
      generalize C[o] = old at c1
      go_wp2_with fail
      go_roundw
      case rel =>
        have hb2 := hb1.set_ o (I64 z)
        rw [← HT.out] at hb2
        have hs2 := HS.out
        refine ⟨k + 1, by omega, by go_num, ?_, ?_, ?_, ?_⟩
        · rw [hs2]
          exact h1.1.fr (S := (· = X)) ((Fr.refl (· = X) w1).setCell (p := ⟨X, o, none⟩) (.inl rfl) _) (fun e => hgX e) (fun j hj e => hF (e ▸ hj))
        · rw [hs2]
          exact hb2
        · exact (hf.trans h1.2 (fun j hj => .inl (.inl hj))).setCell (p := ⟨X, o, none⟩) (.inl (.inr rfl)) _
        · exact hsb1.far (show w.heap.size ≠ X by omega) _
      case measure => simp [intOf]; omega
    · have hkn : k = n := by omega
      subst hkn
      go_wp2_with fail
      go_end0
      refine ⟨rfl, hr, ?_, hf⟩
      rw [List.take_of_length_le (by omega)] at hb
      exact hb
end Go.Proofs.YtkjnlhidnkbelaaGreatDoor
/- Orders read by the program: 'tried': what is told, or the error that was thrown. -/
namespace Go.Proofs.YtkjnlhidnkbelaaGreatDoor
open Go Go.RowKit
set_option linter.unusedVariables false
set_option linter.unusedSimpArgs false

section
variable {P : Program} {Q : Exit → Act → List Frame → World → Prop} {a : Act} {cs cs' : List Frame} {w : World} {id : Nat} {r d : Tmp} {o1 o2 : Oper}
/-- 'x := recover()': a panic is met. -/
theorem wpS_recover (h1 : o1.op = .call { callee := .builtin .recover, args := #[], argTypes := #[] }) (g1 : o1.guard = none) (d1 : o1.dst = some r) (h2 : o2.op = .assign (.tmp r)) (g2 : o2.guard = none) (d2 : o2.dst = some d)
    {v : Value} (hrec : recoverD cs = some (v, cs')) (hev : (a.put (some r) v).eval (.tmp r) = v) (h : Q .normal ((a.put (some r) v).put (some d) v) cs' w) : (Code.region id #[o1, o2] false).wpS P Q a cs w := by
  apply wpS_region
  show wpOpsS P #[o1, o2] Q [0, 1] a cs w
  have e1 : (execOp a.eval o1).run P w = .ok .recover w := by
    unfold execOp
    simp [h1, resolve, invoke, builtin, Sem.run_bind, Sem.run_pure, go_sem]
  have e2 : (execOp (a.put (some r) v).eval o2).run P w = .ok (.value v) w := by
    generalize (a.put (some r) v).eval = ev at hev
    unfold execOp
    simp [h2, hev, Sem.run_pure, go_sem]
  simp only [wpOpsS, List.getElem?_toArray, List.getElem?_cons_zero, List.getElem?_cons_succ]
  have w1 : Region.wanted o1 (yielded #[o1, o2] a.tmps) = true := by simp [Region.wanted, g1]
  have w2 : ∀ t, Region.wanted o2 (yielded #[o1, o2] t) = true := fun t => by simp [Region.wanted, g2]
  rw [if_pos w1, e1]
  simp only [hrec, d1]
  rw [if_pos (w2 _), e2]
  simp only [Oper.upon, d2]
  exact h
/-- No panic is met. -/
theorem wpS_recover_none (h1 : o1.op = .call { callee := .builtin .recover, args := #[], argTypes := #[] }) (g1 : o1.guard = none) (d1 : o1.dst = some r) (h2 : o2.op = .assign (.tmp r)) (g2 : o2.guard = none) (d2 : o2.dst = some d)
    (hrec : recoverD cs = none) (hev : (a.put (some r) .nilIface).eval (.tmp r) = .nilIface) (h : Q .normal ((a.put (some r) .nilIface).put (some d) .nilIface) cs w) : (Code.region id #[o1, o2] false).wpS P Q a cs w := by
  apply wpS_region
  show wpOpsS P #[o1, o2] Q [0, 1] a cs w
  have e1 : (execOp a.eval o1).run P w = .ok .recover w := by
    unfold execOp
    simp [h1, resolve, invoke, builtin, Sem.run_bind, Sem.run_pure, go_sem]
  have e2 : (execOp (a.put (some r) .nilIface).eval o2).run P w = .ok (.value .nilIface) w := by
    generalize (a.put (some r) .nilIface).eval = ev at hev
    unfold execOp
    simp [h2, hev, Sem.run_pure, go_sem]
  simp only [wpOpsS, List.getElem?_toArray, List.getElem?_cons_zero, List.getElem?_cons_succ]
  have w1 : Region.wanted o1 (yielded #[o1, o2] a.tmps) = true := by simp [Region.wanted, g1]
  have w2 : ∀ t, Region.wanted o2 (yielded #[o1, o2] t) = true := fun t => by simp [Region.wanted, g2]
  rw [if_pos w1, e1]
  simp only [hrec, d1]
  rw [if_pos (w2 _), e2]
  simp only [Oper.upon, d2]
  exact h
end
set_option maxRecDepth 100000 in
theorem catchO_idle (a b : Addr) (w : World) :
    CallsD Tryz.prog 103 #[.pointer (some a), .pointer (some b)] .returning w fun e u' w' => e = .returned (.tuple #[]) ∧ u' = .returning ∧ w' = w := by
  refine callsD_of_wpS Tryz.func103 rfl fun c₀ cs hu => ?_
  have ht : (#[.pointer (some a), .pointer (some b)] ++ Array.replicate (Tryz.f103.ntmps - (#[.pointer (some a), .pointer (some b)] : Array Value).size) undef : Array Value) = #[.pointer (some a), .pointer (some b), undef, undef, undef, undef, undef, undef, undef, undef, undef, undef, undef, undef, undef, undef, undef] := by rw [Tryz.ntmps103]; rfl
  rw [ht]
  apply wpS_seq
  refine wpS_recover_none rfl rfl rfl rfl rfl rfl (by simp [recoverD, hu]) (by rfl) ?_
  apply wpS_of_wp
  go_wp2_with fail
  refine ⟨rfl, .returning, ?_, _, results_none rfl _ _ _, rfl, rfl, rfl⟩
  cases c₀
  simp_all
set_option maxRecDepth 100000 in
theorem catchO_panicking (a b : Nat) (w : World) (e0 : Value) (ha : Blk w a 34 #[e0]) (hb : Blk w b 31 (zO (U8V 0))) (hab : a ≠ b) :
    CallsD Tryz.prog 103 #[.pointer (some ⟨a, 0, none⟩), .pointer (some ⟨b, 0, none⟩)] (.panicking [shapeP]) w fun e u' w' =>
      e = .returned (.tuple #[]) ∧ u' = .panicking [{ shapeP with recovered := true }] ∧ Fr (fun k => k = a ∨ k = b) w w' ∧ Blk w' a 34 #[.int .i64 4] ∧ Blk w' b 31 (zO (U8V 0)) := by
  refine callsD_of_wpS Tryz.func103 rfl fun c₀ cs hu => ?_
  have hta : ∀ w, (Instr.typeAssert (.iface 34 (.int .i64 4)) 20 34 true).run Tryz.prog w = .ok (.tuple #[.int .i64 4, .bool true]) w := fun w => by kernel_rfl
  have c1 : w.cell? ⟨a, 0, none⟩ = some e0 := by simpa using ha.cell 0
  have f1 := ha.frozen 0
  have ht : (#[.pointer (some ⟨a, 0, none⟩), .pointer (some ⟨b, 0, none⟩)] ++ Array.replicate (Tryz.f103.ntmps - (#[.pointer (some ⟨a, 0, none⟩), .pointer (some ⟨b, 0, none⟩)] : Array Value).size) undef : Array Value) = #[.pointer (some ⟨a, 0, none⟩), .pointer (some ⟨b, 0, none⟩), undef, undef, undef, undef, undef, undef, undef, undef, undef, undef, undef, undef, undef, undef, undef] := by rw [Tryz.ntmps103]; rfl
  rw [ht]
  apply wpS_seq
  refine wpS_recover (v := .iface 34 (.int .i64 4)) rfl rfl rfl rfl rfl rfl (by simp only [recoverD, hu]; rfl) (by rfl) ?_
  apply wpS_of_wp
  have hone : (zO (U8V 0)).all (·.oneCell') = true := of_one (U8V 0) rfl (ordZ 0) plZ
  go_wp2_with (first | (refine wpList_store_row rfl 31 _ _ rfl b _ rfl rfl 31 _ (by first | exact (hb.alloc _).far hab.symm _ | exact (hb.far hab.symm _).alloc _) ord_size rfl hone ?_))
  refine ⟨rfl, .panicking [{ shapeP with recovered := true }], rfl, _, results_none rfl _ _ _, rfl, rfl, ?_, ?_, ?_⟩
  · exact (((Fr.refl (fun k => k = a ∨ k = b) w).setCell (p := ⟨a, 0, none⟩) (.inl (.inl rfl)) _).alloc _).setRow (.inl (.inr rfl)) _
  · exact (((ha.set_ 0 _).alloc _).rowFar hab _)
  · exact ((hb.far hab.symm _).alloc _).row _
section
variable {P : Program}
/-- A struct out of a variable, and an integer out of another one. -/
theorem results_row_int {fn : Func} {p q : Tmp} {ty tq : TypeId} (h : fn.results = #[.cell p ty, .cell q tq]) (tmps : Array Value) (w : World) (g g2 : Nat) (t t2 : TypeId) (cs : Array Value) (fr : Nat × Nat) (d : TypeDesc) (k : IntKind) (n : Int)
    (hp : tmps.getD p undef = .pointer (some ⟨g, 0, none⟩)) (hq : tmps.getD q undef = .pointer (some ⟨g2, 0, none⟩)) (hg : w.heap[g]? = some (.cells cs t fr)) (h2 : Blk w g2 t2 #[.int k n])
    (hu : P.underlying ty = some d) (hd : (match d with | .struct _ | .array _ _ => true | _ => false) = true) (hi : (P.info? ty).map (·.size) = some cs.size) (hk : P.underlying tq = some (.int k)) :
    (results fn tmps).run P w = .ok (.tuple #[.agg cs, .int k n]) w := by
  have hp' : tmps[p]?.getD undef = .pointer (some ⟨g, 0, none⟩) := by simpa using hp
  have hq' : tmps[q]?.getD undef = .pointer (some ⟨g2, 0, none⟩) := by simpa using hq
  have hc : w.cell? ⟨g2, 0, none⟩ = some (.int k n) := by simpa using h2.cell 0
  have hv : (loadVar tq ⟨g2, 0, none⟩).run P w = .ok (.int k n) w := by
    have hagg : (isAgg tq).run P w = .ok false w := by
      unfold isAgg
      rw [Sem.run_bind, run_underlying hk w]
      rfl
    simp [loadVar, Sem.run_bind, hagg, go_sem, hc]
  simp [results, h, hp', hq', asAddr, run_loadVar_row w g t ty cs fr d hg hu hd hi, hv]
end
set_option maxRecDepth 100000 in
set_option maxHeartbeats 2000000 in
/-- What is tried tells what was told. -/
theorem triedO_yes (w : World) (b0 : Nat) {α : Type} (cells : α → Array Value) (K : α → World → World → Prop)
    (hcall : ∀ w1, Nw w w1 → Calls Tryz.prog 56 #[.pointer (some ⟨b0, 0, none⟩)] w1 fun e w' => ∃ y, e = .returned (.agg (cells y)) ∧ (cells y).size = 13 ∧ (cells y).all (·.oneCell') = true ∧ Nw w1 w' ∧ K y w1 w') :
    Calls Tryz.prog 55 #[.func (.func 56) #[] #[.pointer (some ⟨b0, 0, none⟩)]] w fun e w' => ∃ y w1 w2, e = .returned (.tuple #[.agg (cells y), .int .i64 0]) ∧ Nw w w1 ∧ w.heap.size + 2 = w1.heap.size ∧ K y w1 w2 ∧ Nw w1 w2 ∧ Fr (fun k => k = w.heap.size ∨ k = w.heap.size + 1) w2 w' := by
  have hmf : ∀ (fn : Fn) (first cap : Array Value) (w : World), (Instr.makeFunc fn first cap).run Tryz.prog w = .ok (.func fn first cap) w := fun _ _ _ _ => rfl
  obtain ⟨W1, hW1⟩ : ∃ W1, W1 = (w.alloc (.cells (zO (U8V 0)) 31)).alloc (.cells #[.int .i64 0] 34) := ⟨_, rfl⟩
  have q1 : Nw w W1 := by rw [hW1]; exact ((Fr.refl (fun _ => False) w).alloc _).alloc _
  have hz1 : w.heap.size + 2 = W1.heap.size := by rw [hW1]; simp
  have hb1 : Blk W1 w.heap.size 31 (zO (U8V 0)) := by rw [hW1]; exact (Blk.new w _ _).alloc _
  have ha1 : Blk W1 (w.heap.size + 1) 34 #[.int .i64 0] := by rw [hW1]; simpa using Blk.new (w.alloc (.cells (zO (U8V 0)) 31)) 34 #[.int .i64 0]
  have hc1 := hcall W1 q1
  have HW1 := Lib.hid hW1
  clear hcall hW1
  go_enter_defers Tryz.func55, Tryz.ntmps55
  go_upto_region 2 with (fail)
  rw [← HW1.out]
  go_wp2_with (first | (go_at_call 56; refine hc1.mono ?_; rintro e w2 ⟨y, rfl, hsz, hone, q2, hk⟩; have hb2 := hb1.fr q2 (fun h => h); have ha2 := ha1.fr q2 (fun h => h); have hsz2 : (Tryz.prog.info? 31).map (·.size) = some (cells y).size := (by rw [hsz]; exact ord_size); have ha3 := ha2.rowFar (show w.heap.size + 1 ≠ w.heap.size by omega) (cells y); have c3 : (w2.setRow w.heap.size (cells y)).cell? ⟨w.heap.size + 1, 0, none⟩ = some (.int .i64 0) := (by simpa using ha3.cell 0); have f3 := ha3.frozen 0) | (refine wpList_store_row rfl 31 _ _ rfl w.heap.size _ rfl rfl 31 _ hb2 hsz2 (by rw [hsz]; rfl) hone ?_))
  have ha4 := ha3.set_ 0 (.int .i64 0)
  have hb4 := (hb2.row (cells y)).far (p := ⟨w.heap.size + 1, 0, none⟩) (show w.heap.size ≠ w.heap.size + 1 by omega) (.int .i64 0)
  have hf4 : Fr (fun k => k = w.heap.size ∨ k = w.heap.size + 1) w2 ((w2.setRow w.heap.size (cells y)).setCell ⟨w.heap.size + 1, 0, none⟩ (.int .i64 0)) := ((Fr.refl (fun k => k = w.heap.size ∨ k = w.heap.size + 1) w2).setRow (.inl (.inl rfl)) _).setCell (p := ⟨w.heap.size + 1, 0, none⟩) (.inl (.inr rfl)) _
  refine leaves_cons (f := 103) (args := #[.pointer (some ⟨w.heap.size + 1, 0, none⟩), .pointer (some ⟨w.heap.size, 0, none⟩)]) (by simp) (by simp [go_sem]) ?_
  refine (catchO_idle _ _ _).mono ?_
  rintro e u' w'' ⟨rfl, rfl, rfl⟩
  exact ⟨_, results_row_int rfl _ _ w.heap.size (w.heap.size + 1) 31 34 _ (0, 0) _ .i64 0 rfl rfl hb4 ha4 Tryz.underlying31 rfl hsz2 Tryz.underlying34, y, W1, w2, rfl, q1, hz1, hk, q2, hf4⟩
set_option maxRecDepth 100000 in
set_option maxHeartbeats 2000000 in
/-- What is tried tells the error that was thrown. -/
theorem triedO_no (w : World) (b0 : Nat) (hcall : ∀ w1, Nw w w1 → Calls Tryz.prog 56 #[.pointer (some ⟨b0, 0, none⟩)] w1 fun e w' => e = .panicked [shapeP] ∧ Nw w1 w') :
    Calls Tryz.prog 55 #[.func (.func 56) #[] #[.pointer (some ⟨b0, 0, none⟩)]] w fun e w' => e = .returned (.tuple #[.agg (zO (U8V 0)), .int .i64 4]) ∧ Nw w w' := by
  have hmf : ∀ (fn : Fn) (first cap : Array Value) (w : World), (Instr.makeFunc fn first cap).run Tryz.prog w = .ok (.func fn first cap) w := fun _ _ _ _ => rfl
  obtain ⟨W1, hW1⟩ : ∃ W1, W1 = (w.alloc (.cells (zO (U8V 0)) 31)).alloc (.cells #[.int .i64 0] 34) := ⟨_, rfl⟩
  have q1 : Nw w W1 := by rw [hW1]; exact ((Fr.refl (fun _ => False) w).alloc _).alloc _
  have hb1 : Blk W1 w.heap.size 31 (zO (U8V 0)) := by rw [hW1]; exact (Blk.new w _ _).alloc _
  have ha1 : Blk W1 (w.heap.size + 1) 34 #[.int .i64 0] := by rw [hW1]; simpa using Blk.new (w.alloc (.cells (zO (U8V 0)) 31)) 34 #[.int .i64 0]
  have hc1 := hcall W1 q1
  have HW1 := Lib.hid hW1
  clear hcall hW1
  go_enter_defers Tryz.func55, Tryz.ntmps55
  go_upto_region 2 with (fail)
  rw [← HW1.out]
  go_wp2_with (go_at_call 56; refine hc1.mono ?_; rintro e w2 ⟨rfl, q2⟩)
  refine leaves_cons (f := 103) (args := #[.pointer (some ⟨w.heap.size + 1, 0, none⟩), .pointer (some ⟨w.heap.size, 0, none⟩)]) (by simp) (by simp [go_sem]) ?_
  refine (catchO_panicking (w.heap.size + 1) w.heap.size _ _ (ha1.fr q2 (fun h => h)) (hb1.fr q2 (fun h => h)) (by omega)).mono ?_
  rintro e u' w'' ⟨rfl, rfl, hf, ha, hb⟩
  exact ⟨_, results_row_int rfl _ _ w.heap.size (w.heap.size + 1) 31 34 _ (0, 0) _ .i64 4 rfl rfl hb ha Tryz.underlying31 rfl ord_size Tryz.underlying34, rfl, (q1.tr q2).new hf (fun k hk => by omega)⟩
set_option maxRecDepth 100000 in
theorem catchA_idle (a b : Addr) (w : World) :
    CallsD Tryz.prog 107 #[.pointer (some a), .pointer (some b)] .returning w fun e u' w' => e = .returned (.tuple #[]) ∧ u' = .returning ∧ w' = w := by
  refine callsD_of_wpS Tryz.func107 rfl fun c₀ cs hu => ?_
  have ht : (#[.pointer (some a), .pointer (some b)] ++ Array.replicate (Tryz.f107.ntmps - (#[.pointer (some a), .pointer (some b)] : Array Value).size) undef : Array Value) = #[.pointer (some a), .pointer (some b), undef, undef, undef, undef, undef, undef, undef, undef, undef, undef, undef, undef, undef, undef, undef] := by rw [Tryz.ntmps107]; rfl
  rw [ht]
  apply wpS_seq
  refine wpS_recover_none rfl rfl rfl rfl rfl rfl (by simp [recoverD, hu]) (by rfl) ?_
  apply wpS_of_wp
  go_wp2_with fail
  refine ⟨rfl, .returning, ?_, _, results_none rfl _ _ _, rfl, rfl, rfl⟩
  cases c₀
  simp_all
set_option maxRecDepth 100000 in
theorem catchA_panicking (a b : Nat) (w : World) (e0 : Value) (ha : Blk w a 34 #[e0]) (hb : Blk w b 41 zA) (hab : a ≠ b) :
    CallsD Tryz.prog 107 #[.pointer (some ⟨a, 0, none⟩), .pointer (some ⟨b, 0, none⟩)] (.panicking [shapeP]) w fun e u' w' =>
      e = .returned (.tuple #[]) ∧ u' = .panicking [{ shapeP with recovered := true }] ∧ Fr (fun k => k = a ∨ k = b) w w' ∧ Blk w' a 34 #[.int .i64 4] ∧ Blk w' b 41 zA := by
  refine callsD_of_wpS Tryz.func107 rfl fun c₀ cs hu => ?_
  have hta : ∀ w, (Instr.typeAssert (.iface 34 (.int .i64 4)) 20 34 true).run Tryz.prog w = .ok (.tuple #[.int .i64 4, .bool true]) w := fun w => by kernel_rfl
  have c1 : w.cell? ⟨a, 0, none⟩ = some e0 := by simpa using ha.cell 0
  have f1 := ha.frozen 0
  have ht : (#[.pointer (some ⟨a, 0, none⟩), .pointer (some ⟨b, 0, none⟩)] ++ Array.replicate (Tryz.f107.ntmps - (#[.pointer (some ⟨a, 0, none⟩), .pointer (some ⟨b, 0, none⟩)] : Array Value).size) undef : Array Value) = #[.pointer (some ⟨a, 0, none⟩), .pointer (some ⟨b, 0, none⟩), undef, undef, undef, undef, undef, undef, undef, undef, undef, undef, undef, undef, undef, undef, undef] := by rw [Tryz.ntmps107]; rfl
  rw [ht]
  apply wpS_seq
  refine wpS_recover (v := .iface 34 (.int .i64 4)) rfl rfl rfl rfl rfl rfl (by simp only [recoverD, hu]; rfl) (by rfl) ?_
  apply wpS_of_wp
  have hone : zA.all (·.oneCell') = true := af_one ansZ plZ
  go_wp2_with (first | (refine wpList_store_row rfl 41 _ _ rfl b _ rfl rfl 41 _ (by first | exact (hb.alloc _).far hab.symm _ | exact (hb.far hab.symm _).alloc _) ans_size rfl hone ?_))
  refine ⟨rfl, .panicking [{ shapeP with recovered := true }], rfl, _, results_none rfl _ _ _, rfl, rfl, ?_, ?_, ?_⟩
  · exact (((Fr.refl (fun k => k = a ∨ k = b) w).setCell (p := ⟨a, 0, none⟩) (.inl (.inl rfl)) _).alloc _).setRow (.inl (.inr rfl)) _
  · exact (((ha.set_ 0 _).alloc _).rowFar hab _)
  · exact ((hb.far hab.symm _).alloc _).row _
set_option maxRecDepth 100000 in
set_option maxHeartbeats 2000000 in
/-- What is tried tells what was told. -/
theorem triedA_yes (w : World) (b0 : Nat) {α : Type} (cells : α → Array Value) (K : α → World → World → Prop)
    (hcall : ∀ w1, Nw w w1 → Calls Tryz.prog 70 #[.pointer (some ⟨b0, 0, none⟩)] w1 fun e w' => ∃ y, e = .returned (.agg (cells y)) ∧ (cells y).size = 9 ∧ (cells y).all (·.oneCell') = true ∧ Nw w1 w' ∧ K y w1 w') :
    Calls Tryz.prog 69 #[.func (.func 70) #[] #[.pointer (some ⟨b0, 0, none⟩)]] w fun e w' => ∃ y w1 w2, e = .returned (.tuple #[.agg (cells y), .int .i64 0]) ∧ Nw w w1 ∧ w.heap.size + 2 = w1.heap.size ∧ K y w1 w2 ∧ Nw w1 w2 ∧ Fr (fun k => k = w.heap.size ∨ k = w.heap.size + 1) w2 w' := by
  have hmf : ∀ (fn : Fn) (first cap : Array Value) (w : World), (Instr.makeFunc fn first cap).run Tryz.prog w = .ok (.func fn first cap) w := fun _ _ _ _ => rfl
  obtain ⟨W1, hW1⟩ : ∃ W1, W1 = (w.alloc (.cells zA 41)).alloc (.cells #[.int .i64 0] 34) := ⟨_, rfl⟩
  have q1 : Nw w W1 := by rw [hW1]; exact ((Fr.refl (fun _ => False) w).alloc _).alloc _
  have hz1 : w.heap.size + 2 = W1.heap.size := by rw [hW1]; simp
  have hb1 : Blk W1 w.heap.size 41 zA := by rw [hW1]; exact (Blk.new w _ _).alloc _
  have ha1 : Blk W1 (w.heap.size + 1) 34 #[.int .i64 0] := by rw [hW1]; simpa using Blk.new (w.alloc (.cells zA 41)) 34 #[.int .i64 0]
  have hc1 := hcall W1 q1
  have HW1 := Lib.hid hW1
  clear hcall hW1
  go_enter_defers Tryz.func69, Tryz.ntmps69
  go_upto_region 2 with (fail)
  rw [← HW1.out]
  go_wp2_with (first | (go_at_call 70; refine hc1.mono ?_; rintro e w2 ⟨y, rfl, hsz, hone, q2, hk⟩; have hb2 := hb1.fr q2 (fun h => h); have ha2 := ha1.fr q2 (fun h => h); have hsz2 : (Tryz.prog.info? 41).map (·.size) = some (cells y).size := (by rw [hsz]; exact ans_size); have ha3 := ha2.rowFar (show w.heap.size + 1 ≠ w.heap.size by omega) (cells y); have c3 : (w2.setRow w.heap.size (cells y)).cell? ⟨w.heap.size + 1, 0, none⟩ = some (.int .i64 0) := (by simpa using ha3.cell 0); have f3 := ha3.frozen 0) | (refine wpList_store_row rfl 41 _ _ rfl w.heap.size _ rfl rfl 41 _ hb2 hsz2 (by rw [hsz]; rfl) hone ?_))
  have ha4 := ha3.set_ 0 (.int .i64 0)
  have hb4 := (hb2.row (cells y)).far (p := ⟨w.heap.size + 1, 0, none⟩) (show w.heap.size ≠ w.heap.size + 1 by omega) (.int .i64 0)
  have hf4 : Fr (fun k => k = w.heap.size ∨ k = w.heap.size + 1) w2 ((w2.setRow w.heap.size (cells y)).setCell ⟨w.heap.size + 1, 0, none⟩ (.int .i64 0)) := ((Fr.refl (fun k => k = w.heap.size ∨ k = w.heap.size + 1) w2).setRow (.inl (.inl rfl)) _).setCell (p := ⟨w.heap.size + 1, 0, none⟩) (.inl (.inr rfl)) _
  refine leaves_cons (f := 107) (args := #[.pointer (some ⟨w.heap.size + 1, 0, none⟩), .pointer (some ⟨w.heap.size, 0, none⟩)]) (by simp) (by simp [go_sem]) ?_
  refine (catchA_idle _ _ _).mono ?_
  rintro e u' w'' ⟨rfl, rfl, rfl⟩
  exact ⟨_, results_row_int rfl _ _ w.heap.size (w.heap.size + 1) 41 34 _ (0, 0) _ .i64 0 rfl rfl hb4 ha4 Tryz.underlying41 rfl hsz2 Tryz.underlying34, y, W1, w2, rfl, q1, hz1, hk, q2, hf4⟩
set_option maxRecDepth 100000 in
set_option maxHeartbeats 2000000 in
/-- What is tried tells the error that was thrown. -/
theorem triedA_no (w : World) (b0 : Nat) (hcall : ∀ w1, Nw w w1 → Calls Tryz.prog 70 #[.pointer (some ⟨b0, 0, none⟩)] w1 fun e w' => e = .panicked [shapeP] ∧ Nw w1 w') :
    Calls Tryz.prog 69 #[.func (.func 70) #[] #[.pointer (some ⟨b0, 0, none⟩)]] w fun e w' => e = .returned (.tuple #[.agg zA, .int .i64 4]) ∧ Nw w w' := by
  have hmf : ∀ (fn : Fn) (first cap : Array Value) (w : World), (Instr.makeFunc fn first cap).run Tryz.prog w = .ok (.func fn first cap) w := fun _ _ _ _ => rfl
  obtain ⟨W1, hW1⟩ : ∃ W1, W1 = (w.alloc (.cells zA 41)).alloc (.cells #[.int .i64 0] 34) := ⟨_, rfl⟩
  have q1 : Nw w W1 := by rw [hW1]; exact ((Fr.refl (fun _ => False) w).alloc _).alloc _
  have hb1 : Blk W1 w.heap.size 41 zA := by rw [hW1]; exact (Blk.new w _ _).alloc _
  have ha1 : Blk W1 (w.heap.size + 1) 34 #[.int .i64 0] := by rw [hW1]; simpa using Blk.new (w.alloc (.cells zA 41)) 34 #[.int .i64 0]
  have hc1 := hcall W1 q1
  have HW1 := Lib.hid hW1
  clear hcall hW1
  go_enter_defers Tryz.func69, Tryz.ntmps69
  go_upto_region 2 with (fail)
  rw [← HW1.out]
  go_wp2_with (go_at_call 70; refine hc1.mono ?_; rintro e w2 ⟨rfl, q2⟩)
  refine leaves_cons (f := 107) (args := #[.pointer (some ⟨w.heap.size + 1, 0, none⟩), .pointer (some ⟨w.heap.size, 0, none⟩)]) (by simp) (by simp [go_sem]) ?_
  refine (catchA_panicking (w.heap.size + 1) w.heap.size _ _ (ha1.fr q2 (fun h => h)) (hb1.fr q2 (fun h => h)) (by omega)).mono ?_
  rintro e u' w'' ⟨rfl, rfl, hf, ha, hb⟩
  exact ⟨_, results_row_int rfl _ _ w.heap.size (w.heap.size + 1) 41 34 _ (0, 0) _ .i64 4 rfl rfl hb ha Tryz.underlying41 rfl ans_size Tryz.underlying34, rfl, (q1.tr q2).new hf (fun k hk => by omega)⟩
end Go.Proofs.YtkjnlhidnkbelaaGreatDoor
/- A reader at work beside a variable that is filled: what stands, step by step. -/
namespace Go.Proofs.YtkjnlhidnkbelaaGreatDoor
open Go Go.RowKit
set_option linter.unusedVariables false
set_option linter.unusedSimpArgs false

/-- Either reader: the program's, the document's. -/
def IsQ (b : Bool) (w : World) (F : Nat → Prop) (g : Nat) (s : Rd) : Prop := match b with
  | true => IsRd w F g s
  | false => IsRR w F g s
def QTo (b : Bool) (w : World) (F : Nat → Prop) (g : Nat) (s : Rd) (w' : World) : Prop := IsQ b w' F g s ∧ Fr (· = g) w w'
theorem IsQ.fr {b : Bool} {w w' : World} {F S : Nat → Prop} {g : Nat} {s : Rd} (h : IsQ b w F g s) (hf : Fr S w w') (hg : ¬ S g) (hd : ∀ k, F k → ¬ S k) : IsQ b w' F g s := by
  cases b
  · exact IsRR.fr h hf hg hd
  · exact IsRd.fr h hf hg hd
/-- What stands: the reader, the variable, and whatever else is to stay. -/
structure RSt (b : Bool) (w0 wr : World) (F : Nat → Prop) (g X : Nat) (t : TypeId) (K : World → Prop) (s : Rd) (cs : Array Value) : Prop where
  rd : IsQ b wr F g s
  x : Blk wr X t cs
  k : K wr
  fr : Fr (· = g) w0 wr
  gX : g ≠ X
  FX : ¬ F X
  new : w0.heap.size ≤ X
  st : ∀ a c, Fr (fun k => k = g ∨ k = X) a c → K a → K c
section
variable {b : Bool} {w0 wr w' : World} {F : Nat → Prop} {g X : Nat} {t : TypeId} {K K' : World → Prop} {s s' : Rd} {cs : Array Value}
theorem RSt.call (h : RSt b w0 wr F g X t K s cs) (q : QTo b wr F g s' w') : RSt b w0 w' F g X t K s' cs :=
  ⟨q.1, h.x.fr q.2 (fun e => h.gX e.symm), h.st _ _ (q.2.mono fun k hk => .inl (.inl hk)) h.k, h.fr.tr q.2, h.gX, h.FX, h.new, h.st⟩
theorem RSt.callP (h : RSt true w0 wr F g X t K s cs) (q : RdTo wr F g s' w') : RSt true w0 w' F g X t K s' cs := h.call q
theorem RSt.callR (h : RSt false w0 wr F g X t K s cs) (q : RRTo wr F g s' w') : RSt false w0 w' F g X t K s' cs := h.call q
theorem RSt.set_ (h : RSt b w0 wr F g X t K s cs) (j : Nat) (u : Value) : RSt b w0 (wr.setCell ⟨X, j, none⟩ u) F g X t K s (cs.setIfInBounds j u) :=
  have q : Fr (· = X) wr (wr.setCell ⟨X, j, none⟩ u) := (Fr.refl (· = X) wr).setCell (p := ⟨X, j, none⟩) (.inl rfl) u
  ⟨h.rd.fr q h.gX (fun k hk e => h.FX (e ▸ hk)), h.x.set_ j u, h.st _ _ (q.mono fun k hk => .inl (.inr hk)) h.k, h.fr.trans q (fun k hk => .inr (hk ▸ h.new)), h.gX, h.FX, h.new, h.st⟩
theorem RSt.nw (h : RSt b w0 wr F g X t K s cs) (q : Nw wr w') : RSt b w0 w' F g X t K s cs :=
  ⟨h.rd.fr q (fun h => h) (fun _ _ h => h), h.x.fr q (fun h => h), h.st _ _ (Nw.on q) h.k, h.fr.tr (Nw.on q), h.gX, h.FX, h.new, h.st⟩
/-- The variable turned otherwise, the reader with it. -/
theorem RSt.both {cs' : Array Value} (h : RSt b w0 wr F g X t K s cs) (q : Fr (fun k => k = g ∨ k = X) wr w') (hr : IsQ b w' F g s') (hx : Blk w' X t cs') : RSt b w0 w' F g X t K s' cs' :=
  ⟨hr, hx, h.st _ _ q h.k, h.fr.trans q (fun k hk => hk.elim .inl fun e => .inr (e ▸ h.new)), h.gX, h.FX, h.new, h.st⟩
/-- More is to stay. -/
theorem RSt.more (h : RSt b w0 wr F g X t K s cs) (hk : K' wr) (hst : ∀ a c, Fr (fun k => k = g ∨ k = X) a c → K' a → K' c) : RSt b w0 wr F g X t (fun w => K w ∧ K' w) s cs :=
  ⟨h.rd, h.x, ⟨h.k, hk⟩, h.fr, h.gX, h.FX, h.new, fun a c f hh => ⟨h.st a c f hh.1, hst a c f hh.2⟩⟩
/-- Something else turned. -/
theorem RSt.other {S : Nat → Prop} (h : RSt b w0 wr F g X t K s cs) (q : Fr S wr w') (hg : ¬ S g) (hX : ¬ S X) (hF : ∀ k, F k → ¬ S k) (hn : ∀ k, S k → w0.heap.size ≤ k) (hk : K' w') (hst : ∀ a c, Fr (fun k => k = g ∨ k = X) a c → K' a → K' c) : RSt b w0 w' F g X t K' s cs :=
  ⟨h.rd.fr q hg hF, h.x.fr q hX, hk, h.fr.trans q (fun k hk => .inr (hn k hk)), h.gX, h.FX, h.new, hst⟩
theorem stay_blk {D : Nat} {u : TypeId} {ds : Array Value} (h1 : D ≠ g) (h2 : D ≠ X) : ∀ a c, Fr (fun k => k = g ∨ k = X) a c → Blk a D u ds → Blk c D u ds := fun a c f h => h.fr f (by rintro (e | e); exact h1 e; exact h2 e)
theorem stay_own {E : TypeId} {z n c : Nat} {A : Option Addr} {vs : List Value} (h : ∀ k, inA A k → k ≠ g ∧ k ≠ X) : ∀ a c', Fr (fun k => k = g ∨ k = X) a c' → Own a E z A n c vs → Own c' E z A n c vs := fun a c' f h' => h'.fr f (fun k hk e => e.elim (h k hk).1 (h k hk).2)
end
set_option maxRecDepth 100000 in
set_option maxHeartbeats 4000000 in
theorem ogact_any (w : World) (F : Nat → Prop) (g : Nat) (s : Rd) (h : IsRd w F g s) (hsz : rdLeft s ≤ 1000000000000) :
    Calls Tryz.prog 60 #[.agg #[.pointer (some ⟨g, 0, none⟩)]] w fun e w' => (if (rdAct s).1.2 = true then e = .returned (.agg (actCells (rdAct s).1.1).toArray) else e = .panicked [shapeP]) ∧ RdTo w F g (rdAct s).2 w' := by
  have hg := h.lt
  have hF := h.out.2
  have hact : rdAct s = ((⟨(rdNum 255 s).1, (rdRow 20 (rdNum 255 s).2).1, (rdRow 20 (rdRow 20 (rdNum 255 s).2).2).1, if (rdFlag (rdRow 20 (rdRow 20 (rdNum 255 s).2).2).2).1 = true then -(rdNum 1073741824 (rdFlag (rdRow 20 (rdRow 20 (rdNum 255 s).2).2).2).2).1 else (rdNum 1073741824 (rdFlag (rdRow 20 (rdRow 20 (rdNum 255 s).2).2).2).2).1⟩, !(rdFlag (rdRow 20 (rdRow 20 (rdNum 255 s).2).2).2).1 || decide (0 < (rdNum 1073741824 (rdFlag (rdRow 20 (rdRow 20 (rdNum 255 s).2).2).2).2).1)), (rdNum 1073741824 (rdFlag (rdRow 20 (rdRow 20 (rdNum 255 s).2).2).2).2).2) := rfl
  have l1 := Nat.le_trans (rdNum_left 255 s) hsz
  have l2 := Nat.le_trans (rdRow_left 20 (rdNum 255 s).2) l1
  have m1 := rdNum_most 255 s (by omega)
  have m5 := rdNum_most 1073741824 (rdFlag (rdRow 20 (rdRow 20 (rdNum 255 s).2).2).2).2 (by omega)
  have n1 := fun w1 h1 => rdnumber_any w1 F g s h1 255
  have n2 := fun w1 h1 => rdtext_any w1 F g (rdNum 255 s).2 h1 20 l1
  have n3 := fun w1 h1 => rdtext_any w1 F g (rdRow 20 (rdNum 255 s).2).2 h1 20 l2
  have n4 := fun w1 h1 => rdflag_any w1 F g (rdRow 20 (rdRow 20 (rdNum 255 s).2).2).2 h1
  have n5 := fun w1 h1 => rdnumber_any w1 F g (rdFlag (rdRow 20 (rdRow 20 (rdNum 255 s).2).2).2).2 h1 1073741824
  rw [hact]
  clear hact l1 l2
  generalize rdNum 1073741824 (rdFlag (rdRow 20 (rdRow 20 (rdNum 255 s).2).2).2).2 = y5 at n5 m5 ⊢
  generalize rdFlag (rdRow 20 (rdRow 20 (rdNum 255 s).2).2).2 = y4 at n4 n5 ⊢
  generalize rdRow 20 (rdRow 20 (rdNum 255 s).2).2 = y3 at n3 n4 ⊢
  generalize rdRow 20 (rdNum 255 s).2 = y2 at n2 n3 ⊢
  generalize rdNum 255 s = y1 at n1 n2 m1 ⊢
  obtain ⟨k, s1⟩ := y1
  obtain ⟨ky, s2⟩ := y2
  obtain ⟨vl, s3⟩ := y3
  obtain ⟨le, s4⟩ := y4
  obtain ⟨nm, s5⟩ := y5
  simp only at n1 n2 n3 n4 n5 m1 m5 ⊢
  have N1 := Lib.hid n1
  have N2 := Lib.hid n2
  have N3 := Lib.hid n3
  have N4 := Lib.hid n4
  have N5 := Lib.hid n5
  clear n1 n2 n3 n4 n5
  have hkw : k % 256 = k := by omega
  obtain ⟨D, hD⟩ : ∃ D, D = w.heap.size + 1 := ⟨_, rfl⟩
  obtain ⟨sb, hsb⟩ : ∃ sb, sb = w.heap.size := ⟨_, rfl⟩
  obtain ⟨W0, hW0⟩ : ∃ W0, W0 = (w.alloc (.cells #[.pointer (some ⟨g, 0, none⟩)] 106)).alloc (.cells #[.int .u8 0, .string ⟨#[]⟩, .string ⟨#[]⟩, .int .i64 0] 91) := ⟨_, rfl⟩
  have q0 : Nw w W0 := by rw [hW0]; exact ((Fr.refl (fun _ => False) w).alloc _).alloc _
  have b0 : Blk W0 sb 106 #[.pointer (some ⟨g, 0, none⟩)] := by rw [hW0, hsb]; exact (Blk.new w _ _).alloc _
  have d0 : Blk W0 D 91 #[.int .u8 0, .string ⟨#[]⟩, .string ⟨#[]⟩, .int .i64 0] := by rw [hW0, hD]; simpa using Blk.new (w.alloc (.cells #[.pointer (some ⟨g, 0, none⟩)] 106)) 91 #[.int .u8 0, .string ⟨#[]⟩, .string ⟨#[]⟩, .int .i64 0]
  have r0 := h.fr q0 (fun h => h) (fun _ _ h => h)
  have HW0 := Lib.hid hW0
  have HD := Lib.hid hD
  have HSB := Lib.hid hsb
  clear hW0 hD hsb
  go_enter Tryz.func60, Tryz.ntmps60
  go_upto_region 1 with (fail)
  rw [← HW0.out, ← HD.out, ← HSB.out]
  have bc1 : W0.cell? ⟨sb, 0, none⟩ = some (.pointer (some ⟨g, 0, none⟩)) := by simpa using b0.cell 0
  go_upto_region 2 with (go_at_call 58; refine (N1.out _ r0).mono ?_; rintro e w1 ⟨rfl, h1⟩)
  obtain ⟨X, hX⟩ : ∃ X, X = w1.heap.size := ⟨_, rfl⟩
  obtain ⟨T, hT⟩ : ∃ T : TypeId, T = 91 := ⟨_, rfl⟩
  obtain ⟨W1, hW1⟩ : ∃ W, W = w1.alloc (.cells #[U8V k, .string ⟨#[]⟩, .string ⟨#[]⟩, .int .i64 0] 91) := ⟨_, rfl⟩
  have q1 : Nw w1 W1 := by rw [hW1]; exact (Fr.refl (fun _ => False) w1).alloc _
  have x1 : Blk W1 X T #[U8V k, .string ⟨#[]⟩, .string ⟨#[]⟩, .int .i64 0] := by rw [hW1, hX, hT]; exact Blk.new w1 _ _
  have hsz0 := q0.size
  have hd0 := d0.lt
  have hb0 := b0.lt
  have hw1 := h1.2.size
  have hDg : D ≠ g := by have := HD.out; omega
  have hsg : sb ≠ g := by have := HSB.out; omega
  have st1 : RSt true w W1 F g X T (fun w => Blk w sb 106 #[.pointer (some ⟨g, 0, none⟩)] ∧ Blk w D 91 #[.int .u8 0, .string ⟨#[]⟩, .string ⟨#[]⟩, .int .i64 0]) s1 #[U8V k, .string ⟨#[]⟩, .string ⟨#[]⟩, .int .i64 0] := by
    refine ⟨IsRd.fr h1.1 q1 (fun h => h) (fun _ _ h => h), x1, ⟨(b0.fr h1.2 hsg).fr q1 (fun h => h), (d0.fr h1.2 hDg).fr q1 (fun h => h)⟩, ((Nw.on q0).tr h1.2).tr (Nw.on q1), by omega, fun h => by have := hF _ h; omega, by omega, fun a c f h => ⟨stay_blk hsg (by omega) a c f h.1, stay_blk hDg (by omega) a c f h.2⟩⟩
  have HW1 := Lib.hid hW1
  have HX := Lib.hid hX
  have HT := Lib.hid hT
  rw [← HX.out, ← HW1.out]
  have hDX : D < X := by have := HX.out; omega
  have hwD : w.heap.size ≤ D := by have := HD.out; omega
  clear hW1 hX hT q1 x1 bc1 r0 h1 b0 d0 hw1 hsz0 hd0 hb0 hsg
  have bc2 : W1.cell? ⟨sb, 0, none⟩ = some (.pointer (some ⟨g, 0, none⟩)) := by simpa using (st1.k.1).cell 0
  go_upto_region 3 with (go_at_call 63; refine (N2.out _ st1.rd).mono ?_; rintro e w2 ⟨rfl, h2⟩; have su2 := st1.callP h2; have c2 : w2.cell? ⟨X, 1, none⟩ = some (.string ⟨#[]⟩) := (by simpa using su2.x.cell 1); have f2 := su2.x.frozen 1)
  obtain ⟨W2, hW2⟩ : ∃ W, W = w2.setCell ⟨X, 1, none⟩ (StrV ky) := ⟨_, rfl⟩
  have st2 : RSt true w W2 F g X T (fun w => Blk w sb 106 #[.pointer (some ⟨g, 0, none⟩)] ∧ Blk w D 91 #[.int .u8 0, .string ⟨#[]⟩, .string ⟨#[]⟩, .int .i64 0]) s2 #[U8V k, StrV ky, .string ⟨#[]⟩, .int .i64 0] := by rw [hW2]; exact su2.set_ 1 (StrV ky)
  have HW2 := Lib.hid hW2
  rw [← HW2.out]
  clear hW2 su2 c2 f2 st1 bc2
  have bc3 : W2.cell? ⟨sb, 0, none⟩ = some (.pointer (some ⟨g, 0, none⟩)) := by simpa using (st2.k.1).cell 0
  go_upto_region 4 with (go_at_call 63; refine (N3.out _ st2.rd).mono ?_; rintro e w3 ⟨rfl, h3⟩; have su3 := st2.callP h3; have c3 : w3.cell? ⟨X, 2, none⟩ = some (.string ⟨#[]⟩) := (by simpa using su3.x.cell 2); have f3 := su3.x.frozen 2)
  obtain ⟨W3, hW3⟩ : ∃ W, W = w3.setCell ⟨X, 2, none⟩ (StrV vl) := ⟨_, rfl⟩
  have st3 : RSt true w W3 F g X T (fun w => Blk w sb 106 #[.pointer (some ⟨g, 0, none⟩)] ∧ Blk w D 91 #[.int .u8 0, .string ⟨#[]⟩, .string ⟨#[]⟩, .int .i64 0]) s3 #[U8V k, StrV ky, StrV vl, .int .i64 0] := by rw [hW3]; exact su3.set_ 2 (StrV vl)
  have HW3 := Lib.hid hW3
  rw [← HW3.out]
  clear hW3 su3 c3 f3 st2 bc3
  have bc4 : W3.cell? ⟨sb, 0, none⟩ = some (.pointer (some ⟨g, 0, none⟩)) := by simpa using (st3.k.1).cell 0
  go_upto_region 5 with (go_at_call 61; refine (N4.out _ st3.rd).mono ?_; rintro e W4 ⟨rfl, h4⟩)
  have st4 := st3.callP h4
  clear bc4 st3 h4
  have bc5 : W4.cell? ⟨sb, 0, none⟩ = some (.pointer (some ⟨g, 0, none⟩)) := by simpa using (st4.k.1).cell 0
  go_upto_region 6 with (go_at_call 58; refine (N5.out _ st4.rd).mono ?_; rintro e w5 ⟨rfl, h5⟩; have su5 := st4.callP h5; have c5 : w5.cell? ⟨X, 3, none⟩ = some (.int .i64 0) := (by simpa using su5.x.cell 3); have f5 := su5.x.frozen 3)
  obtain ⟨W5, hW5⟩ : ∃ W, W = w5.setCell ⟨X, 3, none⟩ (I64 nm) := ⟨_, rfl⟩
  have st5 : RSt true w W5 F g X T (fun w => Blk w sb 106 #[.pointer (some ⟨g, 0, none⟩)] ∧ Blk w D 91 #[.int .u8 0, .string ⟨#[]⟩, .string ⟨#[]⟩, .int .i64 0]) s5 #[U8V k, StrV ky, StrV vl, I64 nm] := by rw [hW5]; exact su5.set_ 3 (I64 nm)
  have HW5 := Lib.hid hW5
  rw [← HW5.out]
  clear hW5 su5 c5 f5 st4 bc5
  have c3 : W5.cell? ⟨X, 3, none⟩ = some (I64 nm) := by simpa using st5.x.cell 3
  have f3 := st5.x.frozen 3
  have hd5 := st5.k.2
  have hx5 := st5.x
  have hT := HT.out
  rw [hT] at hx5
  have fin : ∀ (W : World) (cs : Array Value), Fr (fun k => k = D ∨ k = X) W5 W → RdTo w F g s5 W := fun W cs f =>
    ⟨IsRd.fr st5.rd f (fun e => by rcases e with e | e; exact hDg e.symm; exact st5.gX e) (fun k hk e => by have := hF k hk; omega), st5.fr.trans f (fun k hk => .inr (by omega))⟩
  have FIN := Lib.hid fin
  clear fin
  cases le with
  | false =>
    have hone : (#[U8V k, StrV ky, StrV vl, I64 nm] : Array Value).all (·.oneCell') = true := by rw [List.all_toArray]; rfl
    clear c3 f3
    go_wp2_with (first | (go_at_call 65; refine (omust_yes _).mono ?_; rintro e w6 ⟨rfl, rfl⟩) | (refine wpList_load_row rfl 91 _ rfl X rfl 91 _ (0, 0) _ hx5 Tryz.underlying91 rfl act_size ?_) | (refine wpList_store_row rfl 91 _ _ rfl D _ rfl rfl 91 _ hd5 act_size rfl hone ?_))
    refine bodyPost_ret (v := .agg #[U8V k, StrV ky, StrV vl, I64 nm]) ?_ rfl ?_
    · exact results_cell_row rfl _ _ D 91 _ (0, 0) _ rfl (hd5.row _) Tryz.underlying91 rfl act_size
    exact ⟨by simp [actCells], FIN.out _ #[] ((Fr.refl _ W5).setRow (.inl (.inl rfl)) _)⟩
  | true =>
    by_cases hpos : 0 < nm
    · have hone : (#[U8V k, StrV ky, StrV vl, I64 (-nm)] : Array Value).all (·.oneCell') = true := by rw [List.all_toArray]; rfl
      have hpos2 : nm > 0 := hpos
      have hx6 : Blk (W5.setCell ⟨X, 3, none⟩ (I64 (-nm))) X 91 #[U8V k, StrV ky, StrV vl, I64 (-nm)] := hx5.set_ 3 _
      have hd6 := hd5.far (p := ⟨X, 3, none⟩) (show D ≠ X by omega) (I64 (-nm))
      go_wp2_with (first | (go_at_call 65; refine (omust_yes _).mono ?_; rintro e w6 ⟨rfl, rfl⟩) | (refine wpList_load_row rfl 91 _ rfl X rfl 91 _ (0, 0) _ hx6 Tryz.underlying91 rfl act_size ?_) | (refine wpList_store_row rfl 91 _ _ rfl D _ rfl rfl 91 _ hd6 act_size rfl hone ?_))
      refine bodyPost_ret (v := .agg #[U8V k, StrV ky, StrV vl, I64 (-nm)]) ?_ rfl ?_
      · exact results_cell_row rfl _ _ D 91 _ (0, 0) _ rfl (hd6.row _) Tryz.underlying91 rfl act_size
      exact ⟨rfl, FIN.out _ #[] (((Fr.refl _ W5).setCell (p := ⟨X, 3, none⟩) (.inl (.inr rfl)) _).setRow (.inl (.inl rfl)) _)⟩
    · go_wp2_with (first | (go_at_call 65; refine (omust_no _).mono ?_; rintro e w6 ⟨rfl, rfl⟩))
      exact ⟨rfl, rfl, FIN.out _ #[] (Fr.refl _ _)⟩
end Go.Proofs.YtkjnlhidnkbelaaGreatDoor
/- Orders read by the program: reads. (Printed by genrdd.py.) -/
namespace Go.Proofs.YtkjnlhidnkbelaaGreatDoor
open Go Go.RowKit
set_option linter.unusedVariables false
set_option linter.unusedSimpArgs false
/-- So many reads are read. -/
def OrdsRel (w : World) (F : Nat → Prop) (g sb : Nat) (n : Nat) (s : Rd) (out i : Value) (wr : World) : Prop :=
  ∃ (k : Nat) (A : Option Addr) (c : Nat), k ≤ n ∧ i = .int .i64 k ∧ out = .slice A k c ∧ IsRd wr F g (rdRdgs k s).2 ∧ Own wr 93 3 A k c (rdgsCells (rdRdgs k s).1) ∧ Fr (· = g) w wr ∧ (∀ j, inA A j → sb < j) ∧ Blk wr sb 106 #[.pointer (some ⟨g, 0, none⟩)]
set_option maxRecDepth 100000 in
set_option maxHeartbeats 4000000 in
theorem ogreads_any (w : World) (F : Nat → Prop) (g : Nat) (s : Rd) (h : IsRd w F g s) (hsz : rdLeft s ≤ 1000000000000) :
    Calls Tryz.prog 62 #[.agg #[.pointer (some ⟨g, 0, none⟩)]] w fun e w' => ∃ A c, e = .returned (.slice A (rdRdgsN s).1.length c) ∧ Own w' 93 3 A (rdRdgsN s).1.length c (rdgsCells (rdRdgsN s).1) ∧ RdTo w F g (rdRdgsN s).2 w' ∧ ∀ j, inA A j → w.heap.size ≤ j := by
  have hg := h.lt
  have hF := h.out.2
  have hN : rdRdgsN s = rdRdgs (rdNum 6 s).1.toNat (rdNum 6 s).2 := rfl
  have l1 := Nat.le_trans (rdNum_left 6 s) hsz
  have m1 := rdNum_most 6 s (by omega)
  have n1 := fun w1 h1 => rdnumber_any w1 F g s h1 6
  rw [hN]
  clear hN
  generalize rdNum 6 s = y at l1 m1 n1 ⊢
  obtain ⟨n, s1⟩ := y
  simp only at l1 m1 n1 ⊢
  obtain ⟨n, rfl⟩ : ∃ k : Nat, n = (k : Int) := ⟨n.toNat, by omega⟩
  have hn6 : n ≤ 6 := by omega
  simp only [Int.toNat_natCast]
  obtain ⟨sb, hsb⟩ : ∃ sb, sb = w.heap.size := ⟨_, rfl⟩
  obtain ⟨W0, hW0⟩ : ∃ W0, W0 = w.alloc (.cells #[.pointer (some ⟨g, 0, none⟩)] 106) := ⟨_, rfl⟩
  have q0 : Nw w W0 := by rw [hW0]; exact (Fr.refl (fun _ => False) w).alloc _
  have b0 : Blk W0 sb 106 #[.pointer (some ⟨g, 0, none⟩)] := by rw [hW0, hsb]; exact Blk.new w _ _
  have r0 := h.fr q0 (fun h => h) (fun _ _ h => h)
  have hsg : sb ≠ g := by omega
  have HW0 := Lib.hid hW0
  have HSB := Lib.hid hsb
  have N1 := Lib.hid n1
  have c0 : W0.cell? ⟨sb, 0, none⟩ = some (.pointer (some ⟨g, 0, none⟩)) := by simpa using b0.cell 0
  clear hW0 hsb n1
  go_enter Tryz.func62, Tryz.ntmps62
  go_upto_region 1 with (fail)
  rw [← HW0.out, ← HSB.out]
  go_wp2_with (go_at_call 58; refine (N1.out _ r0).mono ?_; rintro e w1 ⟨rfl, h1⟩; have b1 := b0.fr h1.2 hsg)
  have r1 := h1.1
  have fr1 := (Nw.on q0).tr h1.2
  clear r0 b0 h1 c0
  go_loopw [2, 7] (fun o i wx => OrdsRel w F g sb n s1 o i wx) (fun _ i _ => n - (intOf i).toNat)
  case atStart => exact ⟨0, none, 0, Nat.zero_le _, rfl, rfl, r1, Own.nil _ _ _, fr1, fun j hj => (inA_none j hj).elim, b1⟩
  case round =>
    clear r1 b1 fr1
    obtain ⟨k, A, c, hk, rfl, rfl, hr, ho, hf, hA, hb⟩ := hrel
    have hbc := hb.cell 0
    simp at hbc
    by_cases hlt : k < n
    · have hlk := rdRdgs_len k s1
      have hsk := Nat.le_trans (rdRdgs_left k s1) l1
      have hsucc : rdRdgs (k + 1) s1 = ((rdRdgs k s1).1 ++ [(rdRdg (rdRdgs k s1).2).1], (rdRdg (rdRdgs k s1).2).2) := rfl
      obtain ⟨⟨lk, sk⟩, hkk⟩ : ∃ q, rdRdgs k s1 = q := ⟨_, rfl⟩
      rw [hkk] at hr ho hlk hsk hsucc
      simp only at hr ho hlk hsk hsucc
      have hx : rdRdg sk = (((rdRow 20 sk).1, (rdFlag (rdRow 20 sk).2).1, (rdRow 20 (rdFlag (rdRow 20 sk).2).2).1), (rdRow 20 (rdFlag (rdRow 20 sk).2).2).2) := rfl
      have hl1 : rdLeft (rdFlag (rdRow 20 sk).2).2 ≤ 1000000000000 := Nat.le_trans (rdFlag_left _) (Nat.le_trans (rdRow_left 20 sk) hsk)
      rw [hx] at hsucc
      have t1 := fun w1 h1 => rdtext_any w1 F g sk h1 20 hsk
      have t2 := fun w1 h1 => rdflag_any w1 F g (rdRow 20 sk).2 h1
      have t3 := fun w1 h1 => rdtext_any w1 F g (rdFlag (rdRow 20 sk).2).2 h1 20 hl1
      generalize rdRow 20 (rdFlag (rdRow 20 sk).2).2 = y3 at t3 hsucc
      generalize rdFlag (rdRow 20 sk).2 = y2 at t2 t3 hsucc
      generalize rdRow 20 sk = y1 at t1 t2 hsucc
      obtain ⟨x1, z1⟩ := y1
      obtain ⟨x2, z2⟩ := y2
      obtain ⟨x3, z3⟩ := y3
      simp only at t1 t2 t3 hsucc
      have HS := Lib.hid hsucc
      have T1 := Lib.hid t1
      have T2 := Lib.hid t2
      have T3 := Lib.hid t3
      clear hsucc t1 t2 t3 hkk hx hl1 hsk
      obtain ⟨wB, hwB⟩ : ∃ wB, wB = wr := ⟨_, rfl⟩
      rw [← hwB] at hr ho hf hb hbc ⊢
      clear hwB
      obtain ⟨X, hX⟩ : ∃ X, X = wB.heap.size := ⟨_, rfl⟩
      obtain ⟨W0x, hW0x⟩ : ∃ W, W = wB.alloc (.cells #[.string ⟨#[]⟩, .bool false, .string ⟨#[]⟩] 93) := ⟨_, rfl⟩
      have q1 : Nw wB W0x := by rw [hW0x]; exact (Fr.refl (fun _ => False) wB).alloc _
      have hAl : ∀ j, inA A j → j < X := by rw [hX]; exact ho.lt
      have hgw : g < X := by rw [hX]; exact hr.lt
      have hsbX : sb < X := by rw [hX]; exact hb.lt
      have hFX : ∀ j, F j → j < X := by rw [hX]; exact hr.out.2
      have hwg : w.heap.size = sb := HSB.out.symm
      have st0 : RSt true wB W0x F g X 93 (fun w => Blk w sb 106 #[.pointer (some ⟨g, 0, none⟩)] ∧ Own w 93 3 A k c (rdgsCells lk)) sk #[.string ⟨#[]⟩, .bool false, .string ⟨#[]⟩] :=
        ⟨hr.fr q1 (fun h => h) (fun _ _ h => h), by rw [hW0x, hX]; exact Blk.new wB _ _, ⟨hb.fr q1 (fun h => h), ho.fr q1 (fun _ _ h => h)⟩, Nw.on q1, by omega, fun h => by have := hFX _ h; omega, by omega, fun a c' f h => ⟨stay_blk hsg (by omega) a c' f h.1, stay_own (fun j hj => ⟨by have := hA j hj; omega, by have := hAl j hj; omega⟩) a c' f h.2⟩⟩
      have HW0x := Lib.hid hW0x
      have HX := Lib.hid hX
      clear hW0x hX q1
      go_upto_region 4 with (fail)
      rw [← HX.out, ← HW0x.out]
      have bc1 : W0x.cell? ⟨sb, 0, none⟩ = some (.pointer (some ⟨g, 0, none⟩)) := by simpa using (st0.k.1).cell 0
      go_upto_region 5 with (go_at_call 63; refine (T1.out _ st0.rd).mono ?_; rintro e w1 ⟨rfl, h1⟩; have su1 := st0.callP h1; have c1 : w1.cell? ⟨X, 0, none⟩ = some (.string ⟨#[]⟩) := (by simpa using su1.x.cell 0); have f1 := su1.x.frozen 0)
      obtain ⟨W1, hW1⟩ : ∃ W, W = w1.setCell ⟨X, 0, none⟩ (StrV x1) := ⟨_, rfl⟩
      have st1 : RSt true wB W1 F g X 93 (fun w => Blk w sb 106 #[.pointer (some ⟨g, 0, none⟩)] ∧ Own w 93 3 A k c (rdgsCells lk)) z1 #[StrV x1, .bool false, .string ⟨#[]⟩] := by rw [hW1]; exact su1.set_ 0 (StrV x1)
      have HW1 := Lib.hid hW1
      rw [← HW1.out]
      clear hW1 su1 c1 f1 st0 bc1
      have bc2 : W1.cell? ⟨sb, 0, none⟩ = some (.pointer (some ⟨g, 0, none⟩)) := by simpa using (st1.k.1).cell 0
      go_upto_region 6 with (go_at_call 61; refine (T2.out _ st1.rd).mono ?_; rintro e w2 ⟨rfl, h2⟩; have su2 := st1.callP h2; have c2 : w2.cell? ⟨X, 1, none⟩ = some (.bool false) := (by simpa using su2.x.cell 1); have f2 := su2.x.frozen 1)
      obtain ⟨W2, hW2⟩ : ∃ W, W = w2.setCell ⟨X, 1, none⟩ (.bool x2) := ⟨_, rfl⟩
      have st2 : RSt true wB W2 F g X 93 (fun w => Blk w sb 106 #[.pointer (some ⟨g, 0, none⟩)] ∧ Own w 93 3 A k c (rdgsCells lk)) z2 #[StrV x1, .bool x2, .string ⟨#[]⟩] := by rw [hW2]; exact su2.set_ 1 (.bool x2)
      have HW2 := Lib.hid hW2
      rw [← HW2.out]
      clear hW2 su2 c2 f2 st1 bc2
      have bc3 : W2.cell? ⟨sb, 0, none⟩ = some (.pointer (some ⟨g, 0, none⟩)) := by simpa using (st2.k.1).cell 0
      go_upto_region 7 with (go_at_call 63; refine (T3.out _ st2.rd).mono ?_; rintro e w3 ⟨rfl, h3⟩; have su3 := st2.callP h3; have c3 : w3.cell? ⟨X, 2, none⟩ = some (.string ⟨#[]⟩) := (by simpa using su3.x.cell 2); have f3 := su3.x.frozen 2)
      obtain ⟨W3, hW3⟩ : ∃ W, W = w3.setCell ⟨X, 2, none⟩ (StrV x3) := ⟨_, rfl⟩
      have st3 : RSt true wB W3 F g X 93 (fun w => Blk w sb 106 #[.pointer (some ⟨g, 0, none⟩)] ∧ Own w 93 3 A k c (rdgsCells lk)) z3 #[StrV x1, .bool x2, StrV x3] := by rw [hW3]; exact su3.set_ 2 (StrV x3)
      have HW3 := Lib.hid hW3
      rw [← HW3.out]
      clear hW3 su3 c3 f3 st2 bc3
      have hx3 := st3.x
      have ho3 := st3.k.2
      have hb3 := st3.k.1
      have hone : ∀ u ∈ rdgCells (x1, x2, x3), u.oneCell' = true := by
        have := rdgsCells_one [(x1, x2, x3)]
        rwa [show rdgsCells [(x1, x2, x3)] = rdgCells (x1, x2, x3) from by simp [rdgsCells]] at this
      have hby : (k + 1) * 40 ≤ 140737488355328 := by omega
      have hmx : k + 1 ≤ maxLen := by unfold maxLen; omega
      go_wp2_with (first | (refine wpList_load_row rfl 93 _ rfl X rfl 93 _ (0, 0) _ hx3 Tryz.underlying93 rfl rd_size ?_) | (at_builtin; refine wl_append2 rfl _ _ _ rfl 40 (.agg #[.string ⟨#[]⟩, .bool false, .string ⟨#[]⟩]) Tryz.underlying27 info_read rfl (by decide) rfl (ho3.alloc _) rfl (sl_new _ 93 (rdgCells (x1, x2, x3)) _ rfl) rfl hone hby hmx ?_; intro A6 c6 w6 hap6; obtain ⟨o6, f6, a6⟩ := rd_app hap6))
      go_roundw
      case rel =>
        have hs := HS.out
        have hX2 := hx3.lt
        have hA3 : ∀ j, inA A j → ¬ j = g := fun j hj e => by have := hA j hj; omega
        have q3 := (Fr.refl (fun _ => False) W3).alloc (.cells (rdgCells (x1, x2, x3)).toArray 93)
        refine ⟨k + 1, A6, c6, by omega, by go_num, rfl, ?_, ?_, ?_, fun j hj => ?_, ?_⟩
        · rw [hs]
          exact (IsRd.fr st3.rd q3 (fun h => h) (fun _ _ h => h)).fr f6 (fun hj => hA3 _ hj rfl) (fun j hj hj2 => by have := hA j hj2; have := hF j hj; omega)
        · rw [hs, rdgsCells_append, show rdgsCells [(x1, x2, x3)] = rdgCells (x1, x2, x3) from by simp [rdgsCells]]
          exact o6
        · exact ((hf.tr st3.fr).tr (Nw.on q3)).trans f6 (fun j hj => .inr (by have := hA j hj; omega))
        · rcases a6 _ hj with h1 | h1
          · exact hA _ h1
          · simp at h1; omega
        · exact (hb3.alloc _).fr f6 (fun hj => by have := hA _ hj; omega)
      case measure => simp [intOf]; omega
    · have hkn : k = n := by omega
      subst hkn
      have hlk := rdRdgs_len k s1
      go_wp2_with fail
      go_ret
      rw [hlk]
      exact ⟨A, c, rfl, ho, ⟨hr, hf⟩, fun j hj => by have := hA j hj; have := HSB.out; omega⟩
end Go.Proofs.YtkjnlhidnkbelaaGreatDoor
/- A drawn region, walked once, where some operations make memory and a call may panic. (Printed by genefp.py out of XEfB.) -/
namespace Go.Proofs.YtkjnlhidnkbelaaGreatDoor
open Go Go.RowKit

section
variable {P : Program} {ops : Array Oper} {md : Region.Mode} {C : (Nat → Bool) → Bk → World → Prop} {KP : List PanicEntry → World → Prop}
def effUponP (P : Program) (KP : List PanicEntry → World → Prop) (K : Nat × Option Addr → World → Prop) (vf : Nat × Option Addr → Value) : Result Next → Prop
  | .ok (.value u) w' => ∃ b, u = vf b ∧ K b w'
  | .ok .skip w' => ∃ b, vf b = undef ∧ K b w'
  | .ok (.enter f args) w' => Calls P f args w' (fun e w'' => (∃ b, e = .returned (vf b) ∧ K b w'') ∨ ∃ ch, e = .panicked ch ∧ KP ch w'')
  | _ => False
def effAtP (P : Program) (KP : List PanicEntry → World → Prop) (o : Oper) (a : Act) (vf : Nat × Option Addr → Value) (K : Nat × Option Addr → World → Prop) (w : World) : Prop := effUponP P KP K vf ((execOp a.eval o).run P w)
def EffInP (md : Region.Mode) (P : Program) (KP : List PanicEntry → World → Prop) (ops : Array Oper) (C : (Nat → Bool) → Bk → World → Prop) (o : Oper) (k : Nat) (vf : Bk → Value) (a : Act) (B : Bk) : Prop :=
  ∀ L w, L k = false → (∀ j, waitsFor md o j = true → L j = true) → C L B w → (Region.wanted o (yielded ops a.tmps) = true ∧ effAtP P KP o a (fun b => vf (updB B k b)) (fun b w' => C (onL L k) (updB B k b) w') w) ∨ (Region.wanted o (yielded ops a.tmps) = false ∧ ∃ b, vf (updB B k b) = undef ∧ C (onL L k) (updB B k b) w)
def wpEffP (md : Region.Mode) (P : Program) (KP : List PanicEntry → World → Prop) (ops : Array Oper) (C : (Nat → Bool) → Bk → World → Prop) (Q : Bk → Act → Prop) : List Oper → Nat → (Bk → Act) → Prop
  | [], _, a => ∀ B, Q B (a B)
  | o :: rest, k, a => ∃ vf : Bk → Value, DepIn md ops k vf ∧ (∀ B, EffInP md P KP ops C o k vf (a B) B) ∧ wpEffP md P KP ops C Q rest (k + 1) (fun B => (a B).put o.dst (vf B))
theorem effUponP_const {KP : List PanicEntry → World → Prop} {K : World → Prop} {K' : Nat × Option Addr → World → Prop} {v : Value} {vf : Nat × Option Addr → Value} {b : Nat × Option Addr} (hv : vf b = v) (hK : ∀ w, K w → K' b w) {r : Result Next} (h : effUpon P K v r) : effUponP P KP K' vf r := by
  cases r with
  | ok n w' =>
    cases n <;> simp only [effUpon, effUponP] at h ⊢
    case value u => exact ⟨b, by rw [hv]; exact h.1, hK _ h.2⟩
    case skip => exact ⟨b, by rw [hv]; exact h.1, hK _ h.2⟩
    case enter f args => exact h.mono fun e w'' ⟨he, hw⟩ => .inl ⟨b, by rw [hv]; exact he, hK _ hw⟩
  | halt x w' => simp only [effUpon] at h
theorem frameL_defers (V : Nat → Value) (m : List Nat) (b : Act) : (frameL ops V m b).defers = b.defers := by
  induction m generalizing b with
  | nil => rfl
  | cons i m ihm =>
    show (frameL ops V m (b.put _ _)).defers = _
    rw [ihm]
    unfold Act.put
    split <;> rfl
/-- A value that hangs on what is told of those that it waits for. -/
theorem wpEffP_dep {Q : Bk → Act → Prop} {o : Oper} {rest : List Oper} {k : Nat} {a : Bk → Act} (vf : Bk → Value) (hd : DepIn md ops k vf)
    (h1 : ∀ B L w, L k = false → (∀ j, waitsFor md o j = true → L j = true) → C L B w → (Region.wanted o (yielded ops (a B).tmps) = true ∧ effAt P o (a B) (vf B) (C (onL L k) B) w) ∨ (Region.wanted o (yielded ops (a B).tmps) = false ∧ vf B = undef ∧ C (onL L k) B w))
    (h2 : wpEffP md P KP ops C Q rest (k + 1) (fun B => (a B).put o.dst (vf B))) : wpEffP md P KP ops C Q (o :: rest) k a := by
  refine ⟨vf, hd, fun B L w hL hD hC => ?_, h2⟩
  rcases h1 B L w hL hD hC with ⟨hw, he⟩ | ⟨hw, hv, hc⟩
  · refine .inl ⟨hw, effUponP_const (b := B k) (by show vf _ = _; rw [updB_self]) (fun w h => ?_) he⟩
    rw [updB_self]
    exact h
  · refine .inr ⟨hw, B k, by rw [updB_self]; exact hv, ?_⟩
    rw [updB_self]
    exact hc
theorem wpEffP_cons {Q : Bk → Act → Prop} {o : Oper} {rest : List Oper} {k : Nat} {a : Bk → Act} {v : Value}
    (h1 : ∀ B L w, L k = false → (∀ j, waitsFor md o j = true → L j = true) → C L B w → (Region.wanted o (yielded ops (a B).tmps) = true ∧ effAt P o (a B) v (C (onL L k) B) w) ∨ (Region.wanted o (yielded ops (a B).tmps) = false ∧ v = undef ∧ C (onL L k) B w))
    (h2 : wpEffP md P KP ops C Q rest (k + 1) (fun B => (a B).put o.dst v)) : wpEffP md P KP ops C Q (o :: rest) k a :=
  wpEffP_dep (fun _ => v) (fun _ _ _ => rfl) h1 h2
theorem wpEffP_free {Q : Bk → Act → Prop} {o : Oper} {rest : List Oper} {k : Nat} {a : Bk → Act} (vf : Nat × Option Addr → Value)
    (h1 : ∀ B L w, L k = false → (∀ j, waitsFor md o j = true → L j = true) → C L B w → (Region.wanted o (yielded ops (a B).tmps) = true ∧ effAtP P KP o (a B) vf (fun b w' => C (onL L k) (updB B k b) w') w) ∨ (Region.wanted o (yielded ops (a B).tmps) = false ∧ ∃ b, vf b = undef ∧ C (onL L k) (updB B k b) w))
    (h2 : wpEffP md P KP ops C Q rest (k + 1) (fun B => (a B).put o.dst (vf (B k)))) : wpEffP md P KP ops C Q (o :: rest) k a := by
  refine ⟨fun B => vf (B k), fun B B' h => by show vf _ = vf _; rw [h k (by simp [reach])], fun B L w hL hD hC => ?_, h2⟩
  have := h1 B L w hL hD hC
  simpa only [updB_at] using this
theorem wpEffP_nil {Q : Bk → Act → Prop} {k : Nat} {a : Bk → Act} (h : ∀ B, Q B (a B)) : wpEffP md P KP ops C Q [] k a := h
theorem wpEffP_values {Q : Bk → Act → Prop} (l : List Oper) (k : Nat) (a : Bk → Act) (hl : ∀ j, l[j]? = ops[k + j]?) (h : wpEffP md P KP ops C Q l k a) :
    ∃ vf : Nat → Bk → Value, (∀ j, DepIn md ops j (vf j)) ∧ (∀ j o, l[j]? = some o → ∀ B, EffInP md P KP ops C o (k + j) (vf (k + j)) (frameL ops (fun j => vf j B) (List.range' k j) (a B)) B) ∧ ∀ B, Q B (frameL ops (fun j => vf j B) (List.range' k l.length) (a B)) := by
  induction l generalizing k a with
  | nil => exact ⟨fun _ _ => undef, fun _ _ _ _ => rfl, fun j o hj => (by simp at hj), fun B => h B⟩
  | cons o l ih =>
    obtain ⟨v, hdp, he, hr⟩ := h
    obtain ⟨V, h0, h1, h2⟩ := ih (k + 1) _ (fun j => by have := hl (j + 1); simpa [Nat.add_assoc, Nat.add_comm 1 j] using this) hr
    have hd : dstOf ops k = o.dst := by
      have := hl 0
      simp at this
      simp [dstOf, ← this]
    have hF : ∀ B j, frameL ops (fun i => (if i = k then v else V i) B) (List.range' k (j + 1)) (a B) = frameL ops (fun i => V i B) (List.range' (k + 1) j) ((a B).put o.dst (v B)) := fun B j => by
      rw [List.range'_succ]
      show frameL ops _ (List.range' (k + 1) j) ((a B).put (dstOf ops k) ((if k = k then v else V k) B)) = _
      rw [if_pos rfl, hd]
      refine frameL_congr _ _ _ _ fun i hi => ?_
      have := (List.mem_range'_1.1 hi).1
      show (if i = k then v else V i) B = V i B
      rw [if_neg (by omega)]
    refine ⟨fun i => if i = k then v else V i, fun j => ?_, fun j o' hj B => ?_, fun B => ?_⟩
    · show DepIn md ops j (if j = k then v else V j)
      by_cases hjk : j = k
      · rw [if_pos hjk, hjk]; exact hdp
      · rw [if_neg hjk]; exact h0 j
    · cases j with
      | zero =>
        simp at hj
        subst hj
        simpa [frameL] using he B
      | succ j =>
        have hj' : l[j]? = some o' := by simpa using hj
        have := h1 j o' hj' B
        rw [hF B j]
        have e : k + (j + 1) = k + 1 + j := by omega
        simp only [e]
        rw [if_neg (by omega)]
        exact this
    · rw [List.length_cons, hF]
      exact h2 B
theorem wpAny_effP {vf : Nat → Bk → Value} {a0 : Act} {Q : Exit → Act → World → Prop} (hKP : ∀ ch w (a' : Act), a'.defers = a0.defers → KP ch w → Q (.panic ch) a' w) (hB : effB md ops = true) (hd : ∀ j, DepIn md ops j (vf j)) (hV : ∀ j o, ops[j]? = some o → ∀ B, EffInP md P KP ops C o j (vf j) (frameL ops (fun j => vf j B) (List.range' 0 j) a0) B)
    (hQ : ∀ B w, C (fun j => decide (j < ops.size)) B w → Q .normal (frameL ops (fun j => vf j B) (List.range' 0 ops.size) a0) w) (fuel : Nat) (listed : Array Bool) (a : Act) (w : World) (B : Bk) (h : EffInv ops md (fun _ _ => True) (fun j => vf j B) a0 fuel listed a w) (hc : C (Lof listed) B w) : wpAny P md ops Q fuel listed a w := by
  induction fuel generalizing listed a w B with
  | zero =>
    have hnil := List.eq_nil_of_length_eq_zero h.cnt.symm
    have hal : ∀ j, j < ops.size → Lof listed j = true := fun j hj => by
      have := List.filter_eq_nil_iff.1 hnil j (List.mem_range'_1.2 ⟨by omega, by omega⟩)
      simpa using this
    have hLe : Lof listed = fun j => decide (j < ops.size) := by
      funext j
      by_cases hj : j < ops.size
      · rw [hal j hj, decide_eq_true hj]
      · rw [decide_eq_false hj]
        cases hx : Lof listed j with
        | false => rfl
        | true => exact absurd (h.size ▸ Lof_lt hx) hj
    refine ⟨?_, ?_⟩
    · refine List.eq_nil_iff_forall_not_mem.2 fun i hi => ?_
      obtain ⟨h0, _⟩ := mem_ready.1 hi
      obtain ⟨h1, h2⟩ := getD_tf h0
      rw [hal i (h.size ▸ h1)] at h2
      cases h2
    · have hf := h.frame
      rw [List.filter_eq_self.2 (fun j hj => hal j (by have := (List.mem_range'_1.1 hj).2; omega))] at hf
      rw [hf]
      exact hQ B w (hLe ▸ hc)
  | succ fuel ih =>
    refine ⟨fun hnil => ?_, fun i hi => ?_⟩
    · exfalso
      have hal : ∀ k, k ≤ ops.size → ∀ j, j < k → Lof listed j = true := by
        intro k
        induction k with
        | zero => intro _ j hj; omega
        | succ k ihk =>
          intro hk j hj
          by_cases hjk : j < k
          · exact ihk (by omega) j hjk
          · obtain rfl : j = k := by omega
            cases hx : Lof listed j with
            | true => rfl
            | false =>
              exfalso
              obtain ⟨o, ho⟩ : ∃ o, ops[j]? = some o := ⟨_, Array.getElem?_eq_getElem (by omega)⟩
              have : j ∈ Region.ready md ops listed := mem_ready.2 ⟨getD_ft (by rw [h.size]; omega) hx, o, ho, fun e he hb => ihk (by omega) e.on (((effB_spec hB).2 j o ho).1 e he hb)⟩
              rw [hnil] at this
              cases this
      have := h.cnt
      rw [List.filter_eq_nil_iff.2 (fun j hj => by rw [hal ops.size (Nat.le_refl _) j (by have := (List.mem_range'_1.1 hj).2; omega)]; simp)] at this
      simp at this
    · obtain ⟨h0, o, ho, hal⟩ := mem_ready.1 hi
      obtain ⟨hex, hwa⟩ := h.looks hB ho hi
      have hiL := (getD_tf h0).2
      have stepE : ∀ b w', C (onL (Lof listed) i) (updB B i b) w' → wpAny P md ops Q fuel (listed.setIfInBounds i true) (a.put o.dst (vf i (updB B i b))) w' := fun b w' hc' => by
        have h' := h.congrV (V' := fun j => vf j (updB B i b)) (fun j hj => hd j _ _ fun j' hj' => by
          have := reach_listed h.down fuelR j j' hj hj'
          unfold updB
          rw [if_neg (fun e => by rw [e, hiL] at this; cases this)])
        have h2 := h'.step hB ho hi (w' := w') trivial
        exact ih _ _ _ (updB B i b) h2 (by rw [Lof_set (by rw [h.size]; exact (Array.getElem?_eq_some_iff.1 ho).1)]; exact hc')
      have hE := hV i o ho B (Lof listed) w (getD_tf h0).2 (fun j hj => by
        unfold waitsFor at hj
        rw [← Array.any_toList, List.any_eq_true] at hj
        obtain ⟨e, he, h3⟩ := hj
        simp only [Bool.and_eq_true, beq_iff_eq] at h3
        rw [← h3.2]
        exact hal e (by simpa using he) h3.1) hc
      unfold wpOp
      simp only [ho]
      rw [hwa]
      rcases hE with ⟨hw, hE⟩ | ⟨hw, b, hv, hE⟩
      · simp only [hw, if_true]
        refine .inl ?_
        unfold effAtP at hE
        unfold Oper.wp
        rw [hex]
        generalize (execOp (frameL ops (fun j => vf j B) (List.range' 0 i) a0).eval o).run P w = r at hE ⊢
        cases r with
        | ok n w' =>
          cases n <;> simp only [effUponP] at hE <;> simp only [Oper.upon]
          case value u =>
            obtain ⟨b, e1, e2⟩ := hE
            rw [e1]
            exact stepE b _ e2
          case skip =>
            obtain ⟨b, e1, e2⟩ := hE
            rw [← e1]
            exact stepE b _ e2
          case enter f args =>
            exact hE.mono fun e w'' h => by
              rcases h with ⟨b, he, hw''⟩ | ⟨ch, he, hp⟩
              · subst he; exact stepE b _ hw''
              · subst he; exact hKP ch _ _ (by rw [h.frame]; exact frameL_defers _ _ _) hp
        | halt x w' => simp only [effUponP] at hE
      · simp only [hw, Bool.false_eq_true, if_false]
        rw [← hv]
        exact stepE b _ hE
/-- A drawn region, walked once. -/
theorem wp_region_effP {id : Nat} {Q : Exit → Act → World → Prop} {a : Act} {w : World} {l : List Oper} (KP : List PanicEntry → World → Prop) (hKP : ∀ ch w (a' : Act), a'.defers = a.defers → KP ch w → Q (.panic ch) a' w) (C : (Nat → Bool) → Bk → World → Prop) (B0 : Bk) (hm : P.follows .mixedOrders = true) (hB : effB .any l.toArray = true) (hC : C (fun _ => false) B0 w.drew)
    (h : wpEffP .any P KP l.toArray C (fun B a' => ∀ w', C (fun j => decide (j < l.length)) B w' → Q .normal a' w') l 0 (fun _ => a)) : (Code.region id l.toArray true).wp P Q a w := by
  obtain ⟨V, h0, h1, h2⟩ := wpEffP_values l 0 (fun _ => a) (fun j => by simp) h
  refine wp_region_any hm ?_
  have hL0 : Lof (Array.replicate l.toArray.size false) = fun _ => false := by
    funext j
    unfold Lof
    by_cases hj : j < l.length
    · simp [hj]
    · simp [Nat.le_of_not_lt hj]
  refine wpAny_effP (vf := V) (a0 := a) hKP hB h0 (fun j o hj B => ?_) (fun B w' hw' => ?_) _ _ _ w.drew B0 ⟨by simp, fun j o _ hj => (by rw [hL0] at hj; cases hj), ?_, trivial, ?_⟩ (by rw [hL0]; exact hC)
  · have := h1 j o (by simpa using hj) B
    simpa using this
  · have := h2 B w' (by simpa using hw')
    simpa using this
  · rw [hL0, List.filter_eq_nil_iff.2 (fun j _ => by simp)]; rfl
  · rw [hL0, List.filter_eq_self.2 (fun j _ => by simp)]; simp
end
end Go.Proofs.YtkjnlhidnkbelaaGreatDoor
/- A drawn region that appends what a call tells to a list that lies in a variable: the class of its worlds. -/
namespace Go.Proofs.YtkjnlhidnkbelaaGreatDoor
open Go Go.RowKit
set_option linter.unusedVariables false
set_option linter.unusedSimpArgs false
/-- What is listed is closed under what it waits for. -/
def DownB (md : Region.Mode) (ops : Array Oper) (L : Nat → Bool) : Prop := ∀ k o, ops[k]? = some o → L k = true → ∀ j, waitsFor md o j = true → L j = true
theorem DownB.step {md : Region.Mode} {ops : Array Oper} {L : Nat → Bool} (h : DownB md ops L) {k : Nat} {o : Oper} (ho : ops[k]? = some o) (hD : ∀ j, waitsFor md o j = true → L j = true) : DownB md ops (onL L k) := fun i o' hi hl j hj => by
  unfold onL at hl ⊢
  by_cases e : j = k
  · rw [if_pos e]
  rw [if_neg e]
  by_cases e2 : i = k
  · subst e2
    rw [ho] at hi
    injection hi with hi
    subst hi
    exact hD j hj
  · rw [if_neg e2] at hl
    exact h i o' hi hl j hj
def waitsB (md : Region.Mode) (ops : Array Oper) (a b : Nat) : Bool := match ops[a]? with
  | none => false
  | some o => waitsFor md o b
theorem DownB.of {md : Region.Mode} {ops : Array Oper} {L : Nat → Bool} (h : DownB md ops L) {a b : Nat} (hw : waitsB md ops a b = true) (ha : L a = true) : L b = true := by
  unfold waitsB at hw
  cases ho : ops[a]? with
  | none => rw [ho] at hw; cases hw
  | some o => rw [ho] at hw; exact h a o ho ha b hw
theorem DownB.no {md : Region.Mode} {ops : Array Oper} {L : Nat → Bool} (h : DownB md ops L) {a b : Nat} (hw : waitsB md ops a b = true) (hb : L b = false) : L a = false := by
  cases ha : L a with
  | false => rfl
  | true => rw [h.of hw ha] at hb; cases hb
/-- Call (kc), slice made (kb), append (ka), store (ks). -/
def AppC (md : Region.Mode) (ops : Array Oper) (kc kb ka ks : Nat) (S0 S1 : World → Prop) (S2 : Nat → World → Prop) (S3 S4 : Nat × Option Addr → World → Prop) (L : Nat → Bool) (B : Bk) (w : World) : Prop :=
  DownB md ops L ∧ (if L ks = true then S4 (B ka) w else if L ka = true then S3 (B ka) w else if L kb = true then S2 (B kb).1 w else if L kc = true then S1 w else S0 w)
section
variable {md : Region.Mode} {ops : Array Oper} {kc kb ka ks : Nat} {S0 S1 : World → Prop} {S2 : Nat → World → Prop} {S3 S4 : Nat × Option Addr → World → Prop} {L : Nat → Bool} {B : Bk} {w w' : World} {o : Oper}
theorem AppC.start (h : S0 w) : AppC md ops kc kb ka ks S0 S1 S2 S3 S4 (fun _ => false) B w := ⟨fun _ _ _ h => (by cases h), by simpa using h⟩
theorem onL_ne {j k : Nat} (h : (k != j) = true) : onL L j k = L k := if_neg (by simpa using h)
theorem onL_self {j : Nat} : onL L j j = true := if_pos rfl
theorem AppC.keep (h : AppC md ops kc kb ka ks S0 S1 S2 S3 S4 L B w) {j : Nat} (ho : ops[j]? = some o) (hD : ∀ i, waitsFor md o i = true → L i = true) (n1 : (kc != j) = true) (n2 : (kb != j) = true) (n3 : (ka != j) = true) (n4 : (ks != j) = true) : AppC md ops kc kb ka ks S0 S1 S2 S3 S4 (onL L j) B w :=
  ⟨h.1.step ho hD, by rw [onL_ne n1, onL_ne n2, onL_ne n3, onL_ne n4]; exact h.2⟩
theorem AppC.all (h : AppC md ops kc kb ka ks S0 S1 S2 S3 S4 L B w) {φ : Prop} (h0 : S0 w → φ) (h1 : S1 w → φ) (h2 : ∀ b, S2 b w → φ) (h3 : ∀ b, S3 b w → φ) (h4 : ∀ b, S4 b w → φ) : φ := by
  have h5 := h.2
  split at h5
  · exact h4 _ h5
  split at h5
  · exact h3 _ h5
  split at h5
  · exact h2 _ h5
  split at h5
  · exact h1 h5
  · exact h0 h5
theorem AppC.early (h : AppC md ops kc kb ka ks S0 S1 S2 S3 S4 L B w) {j : Nat} (hL : L j = false) (hj : waitsB md ops ka j = true) (hs : waitsB md ops ks ka = true) {φ : Prop} (h0 : S0 w → φ) (h1 : S1 w → φ) (h2 : ∀ b, S2 b w → φ) : φ := by
  have h5 := h.2
  have ha := h.1.no hj hL
  rw [ha, h.1.no hs ha, if_neg (by simp), if_neg (by simp)] at h5
  split at h5
  · exact h2 _ h5
  split at h5
  · exact h1 h5
  · exact h0 h5
theorem AppC.call (h : AppC md ops kc kb ka ks S0 S1 S2 S3 S4 L B w) (hL : L kc = false) (hb : waitsB md ops kb kc = true) (ha : waitsB md ops ka kb = true) (hs : waitsB md ops ks ka = true) (ho : ops[kc]? = some o) (hD : ∀ i, waitsFor md o i = true → L i = true) (n2 : (kb != kc) = true) (n3 : (ka != kc) = true) (n4 : (ks != kc) = true) :
    S0 w ∧ ∀ w', S1 w' → AppC md ops kc kb ka ks S0 S1 S2 S3 S4 (onL L kc) B w' := by
  have lb := h.1.no hb hL
  have la := h.1.no ha lb
  have ls := h.1.no hs la
  refine ⟨by simpa [lb, la, ls, hL] using h.2, fun w' h1 => ⟨h.1.step ho hD, ?_⟩⟩
  rw [onL_ne n2, onL_ne n3, onL_ne n4, onL_self, lb, la, ls]
  simpa using h1
theorem AppC.build (h : AppC md ops kc kb ka ks S0 S1 S2 S3 S4 L B w) (hL : L kb = false) (hc : L kc = true) (ha : waitsB md ops ka kb = true) (hs : waitsB md ops ks ka = true) (ho : ops[kb]? = some o) (hD : ∀ i, waitsFor md o i = true → L i = true) (n3 : (ka != kb) = true) (n4 : (ks != kb) = true) :
    S1 w ∧ ∀ w' b, S2 b.1 w' → AppC md ops kc kb ka ks S0 S1 S2 S3 S4 (onL L kb) (updB B kb b) w' := by
  have la := h.1.no ha hL
  have ls := h.1.no hs la
  refine ⟨by simpa [la, ls, hL, hc] using h.2, fun w' b h1 => ⟨h.1.step ho hD, ?_⟩⟩
  rw [onL_ne n3, onL_ne n4, onL_self, la, ls]
  simpa [updB] using h1
theorem AppC.app (h : AppC md ops kc kb ka ks S0 S1 S2 S3 S4 L B w) (hL : L ka = false) (hb : L kb = true) (hs : waitsB md ops ks ka = true) (ho : ops[ka]? = some o) (hD : ∀ i, waitsFor md o i = true → L i = true) (n4 : (ks != ka) = true) :
    S2 (B kb).1 w ∧ ∀ w' b, S3 b w' → AppC md ops kc kb ka ks S0 S1 S2 S3 S4 (onL L ka) (updB B ka b) w' := by
  have ls := h.1.no hs hL
  refine ⟨by simpa [ls, hL, hb] using h.2, fun w' b h1 => ⟨h.1.step ho hD, ?_⟩⟩
  rw [onL_ne n4, onL_self, ls]
  simpa [updB] using h1
theorem AppC.store (h : AppC md ops kc kb ka ks S0 S1 S2 S3 S4 L B w) (hL : L ks = false) (ha : L ka = true) (ho : ops[ks]? = some o) (hD : ∀ i, waitsFor md o i = true → L i = true) :
    S3 (B ka) w ∧ ∀ w', S4 (B ka) w' → AppC md ops kc kb ka ks S0 S1 S2 S3 S4 (onL L ks) B w' := by
  refine ⟨by simpa [hL, ha] using h.2, fun w' h1 => ⟨h.1.step ho hD, ?_⟩⟩
  rw [onL_self]
  simpa using h1
theorem AppC.fin (h : AppC md ops kc kb ka ks S0 S1 S2 S3 S4 L B w) (hs : L ks = true) : S4 (B ka) w := by
  have h5 := h.2
  rwa [if_pos hs] at h5
end
/-- An append in such a region. -/
theorem effAtP_append {P : Program} {KP : List PanicEntry → World → Prop} {E : TypeId} {size n cap : Nat} {A : Option Addr} {cs : List Value} {F : Nat → Prop} {w : World} {o : Oper} {a : Act} {vf : Nat × Option Addr → Value} {K : Nat × Option Addr → World → Prop} (s x : Operand) (t : TypeId)
    (ho : o.op = .call { callee := .builtin .append, args := #[s, x], argTypes := #[t, t] }) (bytes : Nat) (z : Value) (ht : P.underlying t = some (.slice E))
    (hinfo : (P.info? E).map (fun i => (i.zero, i.size, i.bytes)) = some (some z, size, bytes)) (hzs : z.cells.size = size) (hsz : 0 < size)
    (hs : a.eval s = .slice A n cap) (hown : Own w E size A n cap cs) {A2 : Option Addr} {m c : Nat} {news : List Value} (hx : a.eval x = .slice A2 m c) (hsl : Sl w F A2 news) (hl : news.length = m * size) (h1 : ∀ u ∈ news, u.oneCell' = true)
    (hbytes : (n + m) * bytes ≤ 140737488355328) (hmax : n + m ≤ maxLen)
    (h : ∀ A' cap' w', AppTo w E size A n cap m cs news A' cap' w' → ∃ b, .slice A' (n + m) cap' = vf b ∧ K b w') : effAtP P KP o a vf K w := by
  obtain ⟨A', cap', w', hrun, h2⟩ := run_append_two (P := P) w t o.type bytes z ht hinfo hzs hsz hown hsl hl h1 hbytes hmax (c := c)
  unfold effAtP execOp
  simp only [ho, resolve, invoke, builtin, Sem.run_bind, Sem.run_pure, Result.andThen_ok, List.map_toArray, List.map_cons, List.map_nil, hs, hx]
  rw [hrun]
  exact h A' cap' w' h2
/-- Such a region, walked once. -/
theorem wp_region_app {P : Program} {id : Nat} {Q : Exit → Act → World → Prop} {a : Act} {w : World} {l : List Oper} (kc kb ka ks : Nat) (S0 S1 : World → Prop) (S2 : Nat → World → Prop) (S3 S4 : Nat × Option Addr → World → Prop) (hm : P.follows .mixedOrders = true) (hB : effB .any l.toArray = true) (h0 : S0 w.drew)
    (h : wpEffP .any P (fun _ _ => False) l.toArray (AppC .any l.toArray kc kb ka ks S0 S1 S2 S3 S4) (fun B a' => ∀ w', AppC .any l.toArray kc kb ka ks S0 S1 S2 S3 S4 (fun j => decide (j < l.length)) B w' → Q .normal a' w') l 0 (fun _ => a)) : (Code.region id l.toArray true).wp P Q a w :=
  wp_region_effP (fun _ _ => False) (fun _ _ _ _ h => h.elim) (AppC .any l.toArray kc kb ka ks S0 S1 S2 S3 S4) (fun _ => (0, none)) hm hB (AppC.start h0) h
end Go.Proofs.YtkjnlhidnkbelaaGreatDoor
