/- Past: rows of names told right or not. -/
import Derived.Test.YtoapobgnfgfobaaPsA
namespace Go.Proofs.Ytoapobgnfgfobaa
open Go Go.RowKit

/-- Names as cells. -/
def nmCells (l : List Nm) : List Value := (l.map fun x => [I64 x.1, I64 x.2]).flatten
theorem nmCells_len (l : List Nm) : (nmCells l).length = l.length * 2 := by
  unfold nmCells
  induction l with
  | nil => rfl
  | cons x l ih => simp only [List.map_cons, List.flatten_cons, List.length_append, ih, List.length_cons]; simp; omega
theorem nmCells_at (l : List Nm) (k : Nat) (h : k < l.length) : (nmCells l)[k * 2]? = some (I64 l[k].1) ∧ (nmCells l)[k * 2 + 1]? = some (I64 l[k].2) := by
  unfold nmCells
  induction l generalizing k with
  | nil => simp at h
  | cons x l ih =>
    cases k with
    | zero => simp
    | succ k =>
      have := ih k (by simpa using h)
      simp only [List.map_cons, List.flatten_cons, List.getElem_cons_succ]
      rw [show (k + 1) * 2 = k * 2 + 2 by omega]
      simpa using this
theorem Sl.name {w : World} {F : Nat → Prop} {A : Option Addr} {l : List Nm} (h : Sl w F A (nmCells l)) {k : Nat} (hk : k < l.length) :
    ∃ b o, A = some ⟨b, o, none⟩ ∧ F b ∧ w.cell? ⟨b, o + k * 2, none⟩ = some (I64 l[k].1) ∧ w.cell? ⟨b, o + k * 2 + 1, none⟩ = some (I64 l[k].2) := by
  obtain ⟨b, o, hA, hF, _, hc⟩ := h.at_ (by intro e; have := congrArg List.length e; rw [nmCells_len] at this; simp at this; omega)
  obtain ⟨h1, h2⟩ := nmCells_at l k hk
  exact ⟨b, o, hA, hF, hc _ _ h1, by rw [Nat.add_assoc]; exact hc _ _ h2⟩

/-- All names before the k-th are right; nothing that was there has turned. -/
def RightTo (w : World) (l : List Nm) (i : Value) (wx : World) : Prop := ∃ k : Nat, k ≤ l.length ∧ i = .int .i64 k ∧ (∀ j (h : j < l.length), j < k → nmOk l[j]) ∧ Nw w wx

set_option maxRecDepth 100000 in
theorem indexName_any (w : World) (F : Nat → Prop) (A : Option Addr) (c : Nat) (l : List Nm) (hs : Sl w F A (nmCells l)) (hl : l.length ≤ 1000000000) :
    Calls Try.prog 85 #[.slice A l.length c, .func (.func 63) #[] #[]] w
      fun e w' => ∃ i : Int, e = .returned (.int .i64 i) ∧ (0 ≤ i ↔ ¬ ∀ x ∈ l, nmOk x) ∧ Nw w w' := by
  go_enter Try.func85, Try.ntmps85
  go_wp2_with fail
  go_loopw [8] (fun i wx => RightTo w l i wx) (fun i _ => l.length - (intOf i).toNat)
  case atStart => exact ⟨0, Nat.zero_le _, rfl, fun _ _ h => by omega, Fr.refl _ _⟩
  case round =>
    obtain ⟨k, hk, rfl, hok, hq⟩ := hrel
    have HK := Lib.hid hok
    clear hok
    by_cases hlt : k < l.length
    · obtain ⟨b, o, rfl, hF, hc1, hc2⟩ := (hs.fr hq (fun _ _ h => h)).name hlt
      have hcon := fun w => rightc_any w l[k]
      by_cases hx : nmOk l[k]
      · rw [decide_eq_true hx] at hcon
        have HX := Lib.hid hx
        clear hx
        go_wp2_with (go_at_call 63; refine (hcon _).mono ?_; rintro e w1 ⟨rfl, q1⟩)
        go_roundw
        case rel =>
          refine ⟨k + 1, by omega, rfl, fun j hj hjk => ?_, hq.tr q1⟩
          by_cases hjk2 : j < k
          · exact HK.out j hj hjk2
          · obtain rfl : j = k := by omega
            exact HX.out
        case measure => simp [intOf]; omega
      · rw [decide_eq_false hx] at hcon
        have HX := Lib.hid hx
        clear hx
        go_wp2_with (go_at_call 63; refine (hcon _).mono ?_; rintro e w1 ⟨rfl, q1⟩)
        go_ret
        exact ⟨k, rfl, ⟨fun _ h => HX.out (h _ (List.getElem_mem hlt)), fun _ => by omega⟩, hq.tr q1⟩
    · go_wp2_with fail
      go_ret
      refine ⟨-1, rfl, ⟨fun h => by omega, fun h => (h fun x hx => ?_).elim⟩, hq⟩
      obtain ⟨j, hj, rfl⟩ := List.mem_iff_getElem.1 hx
      exact HK.out j hj (by omega)

theorem containsName_any (w : World) (F : Nat → Prop) (A : Option Addr) (c : Nat) (l : List Nm) (hs : Sl w F A (nmCells l)) (hl : l.length ≤ 1000000000) :
    Calls Try.prog 62 #[.slice A l.length c, .func (.func 63) #[] #[]] w
      fun e w' => e = .returned (.bool (!allOk l)) ∧ Nw w w' := by
  go_enter Try.func62, Try.ntmps62
  go_wp2_with fail
  refine (indexName_any w F A c l hs hl).mono ?_
  rintro e w1 ⟨i, rfl, hi, q1⟩
  have HI := Lib.hid hi
  clear hi
  have hd : decide (0 ≤ i) = !allOk l := by
    have h := HI.out
    unfold allOk
    by_cases h0 : 0 ≤ i
    · rw [decide_eq_true h0, decide_eq_false (h.1 h0)]; rfl
    · have hn : ¬ ¬ ∀ x ∈ l, nmOk x := fun hh => h0 (h.2 hh)
      rw [decide_eq_false h0, decide_eq_true (Classical.not_not.1 hn)]; rfl
  have HD := Lib.hid hd
  clear hd
  go_wp2_with fail
  go_ret
  exact ⟨congrArg (fun b => Ending.returned (.bool b)) HD.out, q1⟩
theorem pastRight_any (w : World) (F : Nat → Prop) (A : Option Addr) (c : Nat) (l : List Nm) (hs : Sl w F A (nmCells l)) (hl : l.length ≤ 1000000000) :
    Calls Try.prog 14 #[.slice A l.length c] w fun e w' => e = .returned (.bool (allOk l)) ∧ Nw w w' := by
  have hcon := containsName_any w F A c l hs hl
  generalize allOk l = b at hcon ⊢
  go_enter Try.func14, Try.ntmps14
  cases b
  · go_wp2_with (go_at_call 62; refine hcon.mono ?_; rintro e w1 ⟨rfl, q1⟩)
    go_ret
    exact ⟨rfl, q1⟩
  · go_wp2_with (go_at_call 62; refine hcon.mono ?_; rintro e w1 ⟨rfl, q1⟩)
    go_ret
    exact ⟨rfl, q1⟩
set_option maxRecDepth 100000 in
/-- The law's own look. -/
theorem lawAll_any (w : World) (F : Nat → Prop) (A : Option Addr) (c : Nat) (l : List Nm) (hs : Sl w F A (nmCells l)) (hl : l.length ≤ 1000000000) :
    Calls Try.prog 15 #[.slice A l.length c] w fun e w' => e = .returned (.bool (allOk l)) ∧ Nw w w' := by
  go_enter Try.func15, Try.ntmps15
  go_wp2_with fail
  go_loopw [3] (fun i wx => RightTo w l i wx) (fun i _ => l.length - (intOf i).toNat)
  case atStart => exact ⟨0, Nat.zero_le _, rfl, fun _ _ h => by omega, Fr.refl _ _⟩
  case round =>
    obtain ⟨k, hk, rfl, hok, hq⟩ := hrel
    have HK := Lib.hid hok
    clear hok
    by_cases hlt : k < l.length
    · obtain ⟨b, o, rfl, hF, hc1, hc2⟩ := (hs.fr hq (fun _ _ h => h)).name hlt
      have hcon := fun w => rright_any w l[k]
      by_cases hx : nmOk l[k]
      · rw [decide_eq_true hx] at hcon
        have HX := Lib.hid hx
        clear hx
        go_wp2_with (go_at_call 65; refine (hcon _).mono ?_; rintro e w1 ⟨rfl, q1⟩)
        go_roundw
        case rel =>
          refine ⟨k + 1, by omega, rfl, fun j hj hjk => ?_, hq.tr q1⟩
          by_cases hjk2 : j < k
          · exact HK.out j hj hjk2
          · obtain rfl : j = k := by omega
            exact HX.out
        case measure => simp [intOf]; omega
      · rw [decide_eq_false hx] at hcon
        have HX := Lib.hid hx
        clear hx
        go_wp2_with (go_at_call 65; refine (hcon _).mono ?_; rintro e w1 ⟨rfl, q1⟩)
        go_ret
        have e : allOk l = false := decide_eq_false fun h => HX.out (h _ (List.getElem_mem hlt))
        exact ⟨congrArg (fun b => Ending.returned (.bool b)) e.symm, hq.tr q1⟩
    · go_wp2_with fail
      go_ret
      have e : allOk l = true := decide_eq_true fun x hx => by
        obtain ⟨j, hj, rfl⟩ := List.mem_iff_getElem.1 hx
        exact HK.out j hj (by omega)
      exact ⟨congrArg (fun b => Ending.returned (.bool b)) e.symm, hq⟩
end Go.Proofs.Ytoapobgnfgfobaa
