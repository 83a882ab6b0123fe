/- WireAgain: what is read of any bytes as numbers, with the end OK, and written again, are the same bytes. -/
import Derived.Test.YtoapobgnfgfobaaL02A
namespace Go.Proofs.Ytoapobgnfgfobaa
open Go Go.RowKit

theorem info_int : (Try.prog.info? 3).map (fun i => (i.zero, i.size, i.bytes)) = some (some (.int .i64 0), 1, 8) := by kernel_rfl
theorem I64_oneCell (l : List Int) : ∀ u ∈ l.map I64, u.oneCell' = true := by
  intro u hu
  obtain ⟨_, _, rfl⟩ := List.mem_map.1 hu
  rfl

/-- What was read so far. -/
def AgainOk (b : List UInt8) (l : List Int) (st : Rd) : Prop := (∀ n ∈ l, Right n) ∧ (∀ rest, st = some rest → b = encAll l ++ rest) ∧ l.length ≤ b.length
theorem AgainOk.step {b bs r : List UInt8} {l : List Int} {m : Nat} (h : AgainOk b l (some bs)) (hm : m ≤ topN) (hbs : bs = enc m ++ r) : AgainOk b (l ++ [(m : Int)]) (some r) := by
  obtain ⟨h1, h2, h3⟩ := h
  have hb : b = encAll (l ++ [(m : Int)]) ++ r := by
    rw [encAll_snoc, h2 bs rfl, hbs, Int.toNat_natCast, List.append_assoc]
  refine ⟨fun n hn => ?_, fun rest hr => by injection hr with hr; rw [← hr]; exact hb, ?_⟩
  · rcases List.mem_append.1 hn with h | h
    · exact h1 n h
    · obtain rfl : n = (m : Int) := by simpa using h
      unfold Right
      omega
  · have := encAll_len (l ++ [(m : Int)])
    have h4 := congrArg List.length hb
    rw [List.length_append] at h4
    omega
theorem AgainOk.bad {b : List UInt8} {l : List Int} {st : Rd} (h : AgainOk b l st) : AgainOk b l none := ⟨h.1, fun _ hh => (by cases hh), h.2.2⟩

def AgainRel (w : World) (b : List UInt8) (g : Nat) (F : Nat → Prop) (v : Value) (wr : World) : Prop :=
  ∃ (st : Rd) (l : List Int) (A : Option Addr) (cap : Nat), v = .slice A l.length cap ∧ Own wr 3 1 A l.length cap (l.map I64) ∧ IsRd wr F g st ∧ Nw w wr ∧ (∀ k, inA A k → w.heap.size ≤ k ∧ k ≠ g ∧ ¬ F k) ∧ AgainOk b l st

/-- How much is left, off the frame: the measure. -/
def leftOf (w : World) (g : Nat) : Nat := match w.cell? ⟨g, 2, none⟩ with | some (.slice _ n _) => n | _ => 0
theorem leftOf_rd {w : World} {F : Nat → Prop} {g : Nat} {s : Rd} (h : IsRd w F g s) : leftOf w g = rdLeft s := by
  cases s with
  | none => have := h.1.cell 2; simp at this; simp [leftOf, this, rdLeft]
  | some bs => obtain ⟨A, cap, hb, _⟩ := h; have := hb.cell 2; simp at this; simp [leftOf, this, rdLeft]

set_option maxRecDepth 100000 in
set_option maxHeartbeats 1000000 in
theorem again_walk (w : World) (A0 : Option Addr) (c0 : Nat) (b : List UInt8) (hb : Sl w (· < w.heap.size) A0 (b.map B8)) (hlen : b.length ≤ maxLen) :
    Calls Try.prog 4 #[.slice A0 b.length c0] w fun e w' => e = .returned (.bool true) ∧ Nw w w' := by
  unfold maxLen at hlen
  by_cases hgt : 20000 < b.length
  · go_enter Try.func4, Try.ntmps4
    go_wp2_with (go_at_call 30; refine (awake02 _).mono ?_; rintro e w1 ⟨rfl, q1⟩)
    go_ret
    exact ⟨rfl, q1⟩
  · have hle : b.length ≤ 20000 := by omega
    go_enter Try.func4, Try.ntmps4
    go_wp2_with fail
    refine (awake02 _).mono ?_
    rintro e w1 ⟨rfl, q1⟩
    have hb1 := hb.fr q1 (fun _ _ h => h)
    go_wp2_with fail
    refine (newReader_any _ _ _ _ _ hb1 (by omega)).mono ?_
    rintro e w2 ⟨g, F, rfl, i2, f2, l2, n2⟩
    have q2 : Nw w w2 := q1.tr f2
    have hg0 : w.heap.size ≤ g := Nat.le_trans q1.size l2
    go_wp2_with fail
    go_loopw [4, 5] (fun v _ wr => AgainRel w b g F v wr) (fun _ _ wr => leftOf wr g)
    case atStart => exact ⟨some b, [], none, 0, rfl, Own.nil _ _ _, i2, q2, fun k hk => (inA_none k hk).elim, by simp, fun rest h => by simpa [encAll] using (Option.some.inj h), Nat.zero_le _⟩
    case round =>
      obtain ⟨st, l, A, cap, rfl, ho, hi, hq, hA, hok⟩ := hrel
      have hll : l.length ≤ 20000 := by have := hok.2.2; omega
      have hmeas := Lib.hid (leftOf_rd hi)
      go_wp2_with fail
      refine (rdleft_any _ _ _ _ hi).mono ?_
      rintro e w' ⟨rfl, rfl⟩
      by_cases hpos : 0 < rdLeft st
      · rcases rdNum_cases 4611686018427387903 st with hn | ⟨bs, m, r, rfl, hn, hm, _, hbs⟩
        · have hcon := rdnumber_any _ _ _ _ hi 4611686018427387903
          rw [hn] at hcon
          clear hn
          go_wp2_with (first | (go_at_call 33; refine hcon.mono ?_; rintro e w3 ⟨rfl, h3⟩) | (go_at_call 34; refine (rdend_any _ _ _ _ h3.1).mono ?_; rintro e w' ⟨rfl, rfl⟩) | (go_at_call 32; refine (rdleft_any _ _ _ _ h3.1).mono ?_; rintro e w' ⟨rfl, rfl⟩))
          go_roundw
          case rel => exact ⟨none, l, A, cap, rfl, ho.fr h3.2 (fun k hk e => (hA k hk).2.1 e), h3.1, hq.new h3.2 (fun k e => by rw [e]; exact hg0), hA, hok.bad⟩
          case measure => rw [leftOf_rd h3.1, hmeas.out]; exact hpos
        · have hcon := rdnumber_any _ _ _ _ hi 4611686018427387903
          rw [hn] at hcon
          clear hn
          have hok2 := hok.step hm hbs
          have hrl : r.length < rdLeft (some bs) := by
            rw [hbs]
            have := enc_ne m
            cases he : enc m with
            | nil => exact (this he).elim
            | cons _ _ => simp [rdLeft]; omega
          clear hbs
          have hfin : ∀ (w3 w4 : World) (A' : Option Addr) (cap' : Nat), RdTo wr F g (some r) w3 → Fr (inA A) (w3.alloc (.cells #[.int .i64 (m : Int)] 3)) w4 → (∀ k, inA A' k → inA A k ∨ k = (w3.alloc (.cells #[.int .i64 (m : Int)] 3)).heap.size) →
              Own w4 3 1 A' (l.length + 1) cap' (l.map I64 ++ [I64 m]) → AgainRel w b g F (.slice A' (l.length + 1) cap') w4 ∧ leftOf w4 g < leftOf wr g := by
            intro w3 w4 A' cap' h3 hf4 hin4 ho4
            have hfa : Fr (inA A) w3 w4 := ((Fr.refl (inA A) w3).alloc _).tr hf4
            have h4 : IsRd w4 F g (some r) := h3.1.fr hfa (fun hk => (hA g hk).2.1 rfl) (fun k hF hk => (hA k hk).2.2 hF)
            refine ⟨⟨some r, l ++ [(m : Int)], A', cap', by simp, by simpa using ho4, h4, (hq.new h3.2 (fun k e => by rw [e]; exact hg0)).new hfa (fun k hk => (hA k hk).1), fun k hk => ?_, hok2⟩, ?_⟩
            · rcases hin4 k hk with h | h
              · exact hA k h
              · have hlt := h3.1.lt
                simp at h
                refine ⟨by rw [h]; exact Nat.le_trans (Nat.le_trans hq.size h3.2.size) (by omega), by omega, fun hF => ?_⟩
                have := h3.1.out.2 k hF
                omega
            · rw [leftOf_rd h4, hmeas.out]; exact hrl
          cases r with
          | nil =>
            have hd := Lib.hid hfin
            clear hfin
            go_wp2_with (first | (go_at_call 33; refine hcon.mono ?_; rintro e w3 ⟨rfl, h3⟩; have ho3 := ho.fr h3.2 (fun k hk e => (hA k hk).2.1 e)) | (go_at_call 34; refine (rdend_any _ _ _ _ h3.1).mono ?_; rintro e w' ⟨rfl, rfl⟩) | (at_builtin; refine wl_append rfl _ _ _ rfl 8 (.int .i64 0) Try.underlying57 info_int rfl (by decide) rfl (ho3.alloc _) rfl ((Blk.new _ _ _).sl 0 1) rfl (I64_oneCell [(m : Int)]) (by omega) (by unfold maxLen; omega) ?_; intro A' cap' w4 ho4 hf4 hin4))
            exact hd.out _ _ _ _ h3 hf4 hin4 ho4
          | cons x r =>
            have hd := Lib.hid hfin
            clear hfin
            have hE : rdEnd (some (x :: r)) = 4 := by simp [rdEnd]
            have hpos2 : (0 : Int) < ((rdLeft (some (x :: r)) : Nat) : Int) := by simp [rdLeft]
            go_wp2_with (first | (go_at_call 33; refine hcon.mono ?_; rintro e w3 ⟨rfl, h3⟩; have ho3 := ho.fr h3.2 (fun k hk e => (hA k hk).2.1 e)) | (go_at_call 34; refine (rdend_any _ _ _ _ h3.1).mono ?_; rintro e w' ⟨rfl, rfl⟩) | (go_at_call 32; refine (rdleft_any _ _ _ _ h3.1).mono ?_; rintro e w' ⟨rfl, rfl⟩) | (at_builtin; refine wl_append rfl _ _ _ rfl 8 (.int .i64 0) Try.underlying57 info_int rfl (by decide) rfl (ho3.alloc _) rfl ((Blk.new _ _ _).sl 0 1) rfl (I64_oneCell [(m : Int)]) (by omega) (by unfold maxLen; omega) ?_; intro A' cap' w4 ho4 hf4 hin4))
            exact hd.out _ _ _ _ h3 hf4 hin4 ho4
      · cases st with
        | none =>
          go_wp2_with (go_at_call 34; refine (rdend_any _ _ _ _ hi).mono ?_; rintro e w' ⟨rfl, rfl⟩)
          go_ret
          exact ⟨rfl, hq⟩
        | some bs =>
          have hbs : bs = [] := by cases bs with | nil => rfl | cons _ _ => simp [rdLeft] at hpos
          subst hbs
          have hbl := hok.2.1 [] rfl
          rw [List.append_nil] at hbl
          have hw : wrNums l ⟨true, []⟩ = ⟨true, b⟩ := by rw [wrNums_right _ _ hok.1, ← hbl]; rfl
          have HB := Lib.hid hbl
          clear hbl
          have hbc := hb.fr hq (fun _ _ h => h)
          go_wp2_with fail
          refine (rdend_any _ _ _ _ hi).mono ?_
          rintro e w' ⟨rfl, rfl⟩
          go_wp2_with fail
          refine (newWriter_any _).mono ?_
          rintro e w5 ⟨rfl, i5, f5⟩
          have ho5 := ho.fr f5 (fun _ _ h => h)
          have hcon := numbers_any w5 _ (inA A) _ _ i5 A cap l ho5.sl (fun k hk => ⟨ho5.lt k hk, fun e => by have := ho.lt k hk; omega⟩) (by omega) (by decide)
          rw [hw] at hcon
          clear hw
          go_wp2_with fail
          refine hcon.mono ?_
          rintro e w6 ⟨rfl, F6, i6, f6, n6⟩
          go_wp2_with fail
          refine (done_ok _ _ _ _ i6 rfl (by show b.length ≤ _; omega)).mono ?_
          rintro e w7 ⟨A7, c7, rfl, o7, f7, n7⟩
          have q7 : Nw w w7 := (((hq.tr f5).new f6 (fun k e => by rw [e]; exact hq.size)).tr f7)
          go_wp2_with fail
          refine (same_u8 _ _ _ _ _ _ _ b b (hb.fr q7 (fun _ _ h => h)) o7.sl (by omega)).mono ?_
          rintro e w8 ⟨rfl, n8, rfl⟩
          go_wp2_with fail
          go_ret
          exact ⟨ret_true _ (by simp), q7.drewN _⟩
end Go.Proofs.Ytoapobgnfgfobaa
