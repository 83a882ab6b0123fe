/- WireBack: is all read, to the end? -/
import Derived.Test.YtoapobgnfgfobaaRds
namespace Go.Proofs.Ytoapobgnfgfobaa
open Go Go.RowKit

/-- Was all read, to the end? -/
def readsEnd (q : RdQ) : Bool := q.1 && (decide (rdLeft q.2 = 0) && decide (rdEnd q.2 = 0))
set_option maxRecDepth 100000 in
theorem reads_any (w : World) (F F0 : Nat → Prop) (g : Nat) (st : Rd) (h : IsRd w F g st) (hsz : rdLeft st ≤ 1000000000000) (n : Nat) (hn : n ≤ 1000000000)
    (A2 A3 A4 A5 : Option Addr) (c2 c3 c4 c5 : Nat) (nums : List Int) (flags : List Bool) (texts : List ByteArray) (rows : List (List UInt8)) (vs : List Value)
    (h2 : Sl w F0 A2 (nums.map I64)) (h3 : Sl w F0 A3 (flags.map Value.bool)) (h4 : Sl w F0 A4 (texts.map Value.string)) (h5 : Sl w F0 A5 vs) (hrs : RowsV w F0 vs rows)
    (h0 : ∀ k, F0 k → k ≠ g) (ht : ∀ t ∈ texts, t.size ≤ 1000000000) (hr : ∀ t ∈ rows, t.length ≤ 1000000000) :
    Calls Try.prog 56 #[.pointer (some ⟨g, 0, none⟩), .int .i64 n, .slice A2 nums.length c2, .slice A3 flags.length c3, .slice A4 texts.length c4, .slice A5 rows.length c5] w
      fun e w' => e = .returned (.bool (readsEnd (roundsQ rows flags nums texts n (true, st)))) ∧ Fr (· = g) w w' := by
  have hcon := reads2_any w F F0 g st h hsz n hn A2 A3 A4 A5 c2 c3 c4 c5 nums flags texts rows vs h2 h3 h4 h5 hrs h0 ht hr
  obtain ⟨q, hq⟩ : ∃ q, roundsQ rows flags nums texts n (true, st) = q := ⟨_, rfl⟩
  rw [hq] at hcon ⊢
  clear hq
  obtain ⟨b, s⟩ := q
  have HC := Lib.hid hcon
  clear hcon h2 h3 h4 h5 hrs h0 ht hr h
  cases b with
  | false =>
    go_enter Try.func56, Try.ntmps56
    go_wp2_with (go_at_call 57; refine HC.out.mono ?_; rintro e w1 ⟨rfl, h1⟩)
    go_ret
    exact ⟨rfl, h1.2⟩
  | true =>
    have hfin : ∀ B : Bool, B = (decide (rdLeft s = 0) && decide (rdEnd s = 0)) → Ending.returned (.bool B) = Ending.returned (.bool (readsEnd (true, s))) := fun B hB => by rw [hB]; rfl
    have HF := Lib.hid hfin
    clear hfin
    by_cases hl : rdLeft s = 0
    · have h1 : (((rdLeft s : Nat) : Int) == 0) = true := by rw [hl]; rfl
      have HL := Lib.hid hl
      clear hl
      by_cases he : rdEnd s = 0
      · have h2 : (rdEnd s == 0) = true := by rw [he]; rfl
        have HE := Lib.hid he
        clear he
        go_enter Try.func56, Try.ntmps56
        go_wp2_with (first | (go_at_call 57; refine HC.out.mono ?_; rintro e w1 ⟨rfl, h1⟩) | (go_at_call 34; refine (rdend_any _ _ _ _ h1.1).mono ?_; rintro e w' ⟨rfl, rfl⟩) | (go_at_call 32; refine (rdleft_any _ _ _ _ h1.1).mono ?_; rintro e w' ⟨rfl, rfl⟩))
        go_ret
        exact ⟨HF.out _ (by rw [HL.out, HE.out]; rfl), h1.2⟩
      · have h2 : (rdEnd s == 0) = false := by simpa using he
        have HE := Lib.hid he
        clear he
        go_enter Try.func56, Try.ntmps56
        go_wp2_with (first | (go_at_call 57; refine HC.out.mono ?_; rintro e w1 ⟨rfl, h1⟩) | (go_at_call 34; refine (rdend_any _ _ _ _ h1.1).mono ?_; rintro e w' ⟨rfl, rfl⟩) | (go_at_call 32; refine (rdleft_any _ _ _ _ h1.1).mono ?_; rintro e w' ⟨rfl, rfl⟩))
        go_ret
        exact ⟨HF.out _ (by rw [HL.out, decide_eq_false HE.out]; rfl), h1.2⟩
    · have h1 : (((rdLeft s : Nat) : Int) == 0) = false := by
        have : ¬ ((rdLeft s : Nat) : Int) = 0 := by omega
        simpa using this
      have HL := Lib.hid hl
      clear hl
      go_enter Try.func56, Try.ntmps56
      go_wp2_with (first | (go_at_call 57; refine HC.out.mono ?_; rintro e w1 ⟨rfl, h1⟩) | (go_at_call 34; refine (rdend_any _ _ _ _ h1.1).mono ?_; rintro e w' ⟨rfl, rfl⟩) | (go_at_call 32; refine (rdleft_any _ _ _ _ h1.1).mono ?_; rintro e w' ⟨rfl, rfl⟩))
      go_ret
      exact ⟨HF.out _ (by rw [decide_eq_false HL.out]; rfl), h1.2⟩
end Go.Proofs.Ytoapobgnfgfobaa
