/- Rulings: verdicts told right or not, by the program and by the document. -/
import Derived.Test.YtgmcjfjdjnoljaaRuD
namespace Go.Proofs.Ytgmcjfjdjnoljaa
open Go Go.RowKit

/-- All reads before the k-th are right. -/
def RdgTo (w : World) (l : List Rdg) (i : Value) (wx : World) : Prop := ∃ k : Nat, k ≤ l.length ∧ i = .int .i64 k ∧ (∀ j (h : j < l.length), j < k → rdgOk l[j] = true) ∧ Nw w wx
set_option maxRecDepth 100000 in
theorem indexRead_any (w : World) (F : Nat → Prop) (A : Option Addr) (c : Nat) (l : List Rdg) (hs : Sl w F A (rdgsCells l)) (hz : RdgSz l) (hl : l.length ≤ 1000000000) :
    Calls Try.prog 73 #[.slice A l.length c, .func (.func 50) #[] #[]] w
      fun e w' => ∃ i : Int, e = .returned (.int .i64 i) ∧ (0 ≤ i ↔ l.all rdgOk = false) ∧ Nw w w' := by
  go_enter Try.func73, Try.ntmps73
  go_wp2_with fail
  go_loopw [8] (fun i wx => RdgTo w l i wx) (fun i _ => l.length - (intOf i).toNat)
  case atStart => exact ⟨0, Nat.zero_le _, rfl, fun _ _ h => by omega, Fr.refl _ _⟩
  case round =>
    obtain ⟨k, hk, rfl, hok, hq⟩ := hrel
    have HK := Lib.hid hok
    clear hok
    by_cases hlt : k < l.length
    · obtain ⟨b, o, rfl, hF, hc1, hc2, hc3⟩ := (hs.fr hq (fun _ _ h => h)).rdg hlt
      have hzk := hz _ (List.getElem_mem hlt)
      have hcon := fun w => wrong_any w l[k] hzk.1 hzk.2
      have HX := Lib.hid (rfl : rdgOk l[k] = rdgOk l[k])
      clear hzk
      obtain ⟨p, hp⟩ : ∃ p, rdgOk l[k] = p := ⟨_, rfl⟩
      rw [hp] at hcon HX
      have HP := Lib.hid hp
      clear hp
      cases p
      · go_wp2_with (go_at_call 50; refine (hcon _).mono ?_; rintro e w1 ⟨rfl, q1⟩)
        go_ret
        refine ⟨k, rfl, ⟨fun _ => ?_, fun _ => by omega⟩, hq.tr q1⟩
        refine Bool.eq_false_iff.2 fun h => ?_
        have := List.all_eq_true.1 h _ (List.getElem_mem hlt)
        rw [HP.out] at this
        cases this
      · go_wp2_with (go_at_call 50; refine (hcon _).mono ?_; rintro e w1 ⟨rfl, q1⟩)
        go_roundw
        case rel =>
          refine ⟨k + 1, by omega, rfl, fun j hj hjk => ?_, hq.tr q1⟩
          by_cases hjk2 : j < k
          · exact HK.out j hj hjk2
          · obtain rfl : j = k := by omega
            exact HP.out
        case measure => simp [intOf]; omega
    · go_wp2_with fail
      go_ret
      have e : l.all rdgOk = true := List.all_eq_true.2 fun x hx => by
        obtain ⟨j, hj, rfl⟩ := List.mem_iff_getElem.1 hx
        exact HK.out j hj (by omega)
      exact ⟨-1, rfl, ⟨fun h => by omega, fun h => by rw [e] at h; cases h⟩, hq⟩
theorem containsRead_any (w : World) (F : Nat → Prop) (A : Option Addr) (c : Nat) (l : List Rdg) (hs : Sl w F A (rdgsCells l)) (hz : RdgSz l) (hl : l.length ≤ 1000000000) :
    Calls Try.prog 49 #[.slice A l.length c, .func (.func 50) #[] #[]] w
      fun e w' => e = .returned (.bool (!l.all rdgOk)) ∧ Nw w w' := by
  go_enter Try.func49, Try.ntmps49
  go_wp2_with fail
  refine (indexRead_any w F A c l hs hz hl).mono ?_
  rintro e w1 ⟨i, rfl, hi, q1⟩
  have hd : decide (0 ≤ i) = !l.all rdgOk := by
    by_cases h0 : 0 ≤ i
    · rw [decide_eq_true h0, hi.1 h0]; rfl
    · have hn : l.all rdgOk = true := by
        cases h : l.all rdgOk with
        | true => rfl
        | false => exact (h0 (hi.2 h)).elim
      rw [decide_eq_false h0, hn]; rfl
  have HD := Lib.hid hd
  clear hd hi
  go_wp2_with fail
  go_ret
  exact ⟨congrArg (fun b => Ending.returned (.bool b)) HD.out, q1⟩
/-- What is asked of a verdict ahead of its reads. -/
def verHead (v : Ver) : Bool := decide (nmOk v.1) && (decide (1 ≤ v.2.2.1 ∧ v.2.2.1 ≤ 1073741824) && (decide (v.2.2.2.length ≤ 6) && (v.2.1 || decide (v.2.2.2.length = 0))))
theorem verOk_eq (v : Ver) : verOk v = (verHead v && v.2.2.2.all rdgOk) := by
  unfold verOk verHead
  simp only [Bool.and_assoc]
theorem verHead_no {v : Ver} (h : ¬ (nmOk v.1 ∧ (1 ≤ v.2.2.1 ∧ v.2.2.1 ≤ 1073741824) ∧ v.2.2.2.length ≤ 6 ∧ (v.2.1 = true ∨ v.2.2.2.length = 0))) : verHead v = false := by
  refine Bool.eq_false_iff.2 fun hh => h ?_
  unfold verHead at hh
  simp only [Bool.and_eq_true, Bool.or_eq_true, decide_eq_true_eq] at hh
  exact hh
theorem verHead_yes {v : Ver} (h : nmOk v.1 ∧ (1 ≤ v.2.2.1 ∧ v.2.2.1 ≤ 1073741824) ∧ v.2.2.2.length ≤ 6 ∧ (v.2.1 = true ∨ v.2.2.2.length = 0)) : verHead v = true := by
  unfold verHead
  simp only [Bool.and_eq_true, Bool.or_eq_true, decide_eq_true_eq]
  exact h
set_option maxRecDepth 100000 in
set_option maxHeartbeats 1000000 in
theorem rightc_any (w : World) (F : Nat → Prop) (v : Ver) (A : Option Addr) (c : Nat) (hs : Sl w F A (rdgsCells v.2.2.2)) (hz : RdgSz v.2.2.2) (hl : v.2.2.2.length ≤ 1000000000) :
    Calls Try.prog 47 #[VerV v A c] w fun e w' => e = .returned (.bool (!verOk v)) ∧ Nw w w' := by
  have hno := verHead_no (v := v)
  have hyes := verHead_yes (v := v)
  have heq := verOk_eq v
  generalize verOk v = res at heq ⊢
  generalize verHead v = hd at heq hno hyes
  have HN := Lib.hid hno
  have HY := Lib.hid hyes
  have HE := Lib.hid heq
  clear hno hyes heq
  obtain ⟨⟨a, b⟩, m, t, l⟩ := v
  have hcon2 := fun (w1 : World) (q : Nw w w1) => containsRead_any w1 F A c l (hs.fr q (fun _ _ h => h)) hz hl
  have hcon := fun w => actName_any w (a, b)
  show Calls Try.prog 47 #[.agg #[I64 a, I64 b, .bool m, I64 t, .slice A l.length c]] w fun e w' => e = .returned (.bool (!res)) ∧ Nw w w'
  have hcon2 : ∀ (w1 : World) (q : Nw w w1), Calls Try.prog 49 #[.slice A l.length c, .func (.func 50) #[] #[]] w1 fun e w' => e = .returned (.bool (!l.all rdgOk)) ∧ Nw w1 w' := hcon2
  have HN : Hid (¬ (nmOk (a, b) ∧ (1 ≤ t ∧ t ≤ 1073741824) ∧ l.length ≤ 6 ∧ (m = true ∨ l.length = 0)) → hd = false) := HN
  have HY : Hid (nmOk (a, b) ∧ (1 ≤ t ∧ t ≤ 1073741824) ∧ l.length ≤ 6 ∧ (m = true ∨ l.length = 0) → hd = true) := HY
  have HE : Hid (res = (hd && l.all rdgOk)) := HE
  clear hs hz hl
  generalize l.all rdgOk = p at hcon2 HE
  generalize l.length = n at hcon2 HN HY ⊢
  have hB := Blk.new w 38 #[I64 a, I64 b, .bool m, I64 t, .slice A n c]
  have hk : ∀ w1, Nw (w.alloc (.cells #[I64 a, I64 b, .bool m, I64 t, .slice A n c] 38)) w1 → w1.cell? ⟨w.heap.size, 2, none⟩ = some (.bool m) ∧ w1.cell? ⟨w.heap.size, 3, none⟩ = some (I64 t) ∧ w1.cell? ⟨w.heap.size, 4, none⟩ = some (.slice A n c) := fun w1 q => by
    have h := hB.fr q (fun h => h)
    exact ⟨by simpa using h.cell 2, by simpa using h.cell 3, by simpa using h.cell 4⟩
  have q0 : Nw w (w.alloc (.cells #[I64 a, I64 b, .bool m, I64 t, .slice A n c] 38)) := (Fr.refl _ w).alloc _
  by_cases hn : nmOk (a, b)
  · rw [decide_eq_true hn] at hcon
    have H1 := Lib.hid hn
    clear hn
    by_cases h1 : 1 ≤ t
    · have h1i : decide (t < 1) = false := decide_eq_false (by omega)
      by_cases h2 : t ≤ 1073741824
      · have h2i : decide (1073741824 < t) = false := decide_eq_false (by omega)
        by_cases h6 : n ≤ 6
        · have h6i : decide ((6 : Int) < (n : Int)) = false := decide_eq_false (by omega)
          have go : ∀ (h : m = true ∨ n = 0), res = p := fun h => by rw [HE.out, HY.out ⟨H1.out, ⟨h1, h2⟩, h6, h⟩]; rfl
          have GO := Lib.hid go
          clear go
          cases m
          · by_cases h0 : n = 0
            · have h0i : decide ((0 : Int) < (n : Int)) = false := decide_eq_false (by omega)
              have h0n : decide (0 < n) = false := decide_eq_false (by omega)
              have G := Lib.hid (GO.out (.inr h0))
              have HL := Lib.hid h0
              clear h0
              cases p <;>
              · go_enter Try.func47, Try.ntmps47
                go_wp2_with (first | (go_at_call 48; refine (hcon _).mono ?_; rintro e w1 ⟨rfl, q1⟩; obtain ⟨k2, k3, k4⟩ := hk w1 q1) | (go_at_call 49; refine (hcon2 _ (q0.tr q1)).mono ?_; rintro e w2 ⟨rfl, q2⟩))
                go_ret
                exact ⟨retB (by rw [G.out]; rfl), (q0.tr q1).tr q2⟩
            · have h0i : decide ((0 : Int) < (n : Int)) = true := decide_eq_true (by omega)
              have h0n : decide (0 < n) = true := decide_eq_true (by omega)
              go_enter Try.func47, Try.ntmps47
              go_wp2_with (go_at_call 48; refine (hcon _).mono ?_; rintro e w1 ⟨rfl, q1⟩; obtain ⟨k2, k3, k4⟩ := hk w1 q1)
              go_ret
              exact ⟨retB (by rw [HE.out, HN.out (fun h => h.2.2.2.elim (fun h => by cases h) h0)]; rfl), q0.tr q1⟩
          · have G := Lib.hid (GO.out (.inl rfl))
            cases p <;>
            · go_enter Try.func47, Try.ntmps47
              go_wp2_with (first | (go_at_call 48; refine (hcon _).mono ?_; rintro e w1 ⟨rfl, q1⟩; obtain ⟨k2, k3, k4⟩ := hk w1 q1) | (go_at_call 49; refine (hcon2 _ (q0.tr q1)).mono ?_; rintro e w2 ⟨rfl, q2⟩))
              go_ret
              exact ⟨retB (by rw [G.out]; rfl), (q0.tr q1).tr q2⟩
        · have h6i : decide ((6 : Int) < (n : Int)) = true := decide_eq_true (by omega)
          go_enter Try.func47, Try.ntmps47
          go_wp2_with (go_at_call 48; refine (hcon _).mono ?_; rintro e w1 ⟨rfl, q1⟩; obtain ⟨k2, k3, k4⟩ := hk w1 q1)
          go_ret
          exact ⟨retB (by rw [HE.out, HN.out (fun h => h6 h.2.2.1)]; rfl), q0.tr q1⟩
      · have h2i : decide (1073741824 < t) = true := decide_eq_true (by omega)
        go_enter Try.func47, Try.ntmps47
        go_wp2_with (go_at_call 48; refine (hcon _).mono ?_; rintro e w1 ⟨rfl, q1⟩; obtain ⟨k2, k3, k4⟩ := hk w1 q1)
        go_ret
        exact ⟨retB (by rw [HE.out, HN.out (fun h => absurd h.2.1.2 (by omega))]; rfl), q0.tr q1⟩
    · have h1i : decide (t < 1) = true := decide_eq_true (by omega)
      go_enter Try.func47, Try.ntmps47
      go_wp2_with (go_at_call 48; refine (hcon _).mono ?_; rintro e w1 ⟨rfl, q1⟩; obtain ⟨k2, k3, k4⟩ := hk w1 q1)
      go_ret
      exact ⟨retB (by rw [HE.out, HN.out (fun h => absurd h.2.1.1 (by omega))]; rfl), q0.tr q1⟩
  · rw [decide_eq_false hn] at hcon
    have H1 := Lib.hid hn
    clear hn
    go_enter Try.func47, Try.ntmps47
    go_wp2_with (go_at_call 48; refine (hcon _).mono ?_; rintro e w1 ⟨rfl, q1⟩; obtain ⟨k2, k3, k4⟩ := hk w1 q1)
    go_ret
    exact ⟨retB (by rw [HE.out, HN.out (fun h => H1.out h.1)]; rfl), q0.tr q1⟩
end Go.Proofs.Ytgmcjfjdjnoljaa
