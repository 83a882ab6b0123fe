/- Rulings: lists of verdicts told right or not; the document's look at one. -/
import Derived.Test.YtgmcjfjdjnoljaaRuE
namespace Go.Proofs.Ytgmcjfjdjnoljaa
open Go Go.RowKit

/-- Verdicts that are not beyond what a machine has. -/
def VerSz (v : Ver) : Prop := v.2.2.2.length ≤ 1000000000 ∧ RdgSz v.2.2.2
def VersSz (l : List Ver) : Prop := ∀ v ∈ l, VerSz v
/-- A verdict's five cells, in a list. -/
abbrev verL (v : Ver) (A : Option Addr) (c : Nat) : List Value := [I64 v.1.1, I64 v.1.2, .bool v.2.1, I64 v.2.2.1, .slice A v.2.2.2.length c]
theorem Sl.ver {w : World} {F I : Nat → Prop} {A : Option Addr} {l : List Ver} {cs : List Value} (h : Sl w F A cs) (hv : VersC w I l cs) {k : Nat} (hk : k < l.length) :
    ∃ b o A' c', A = some ⟨b, o, none⟩ ∧ F b ∧ (∀ j v, (verL l[k] A' c')[j]? = some v → w.cell? ⟨b, o + k * 5 + j, none⟩ = some v) ∧ l[k].2.2.2.length ≤ c' ∧ c' ≤ maxLen ∧ Sl w I A' (rdgsCells l[k].2.2.2) := by
  have hne : cs ≠ [] := by
    intro e
    have := hv.1
    rw [e] at this
    simp at this
    omega
  obtain ⟨b, o, hA, hF, _, hc⟩ := h.at_ hne
  obtain ⟨A', c', h1, h2, h3, h4⟩ := hv.2 k hk
  refine ⟨b, o, A', c', hA, hF, fun j v hj => ?_, h2, h3, h4⟩
  rw [Nat.add_assoc]
  refine hc _ _ ?_
  have hj5 : j < 5 := by
    rcases Nat.lt_or_ge j 5 with h | h
    · exact h
    · rw [List.getElem?_eq_none (by simpa using h)] at hj; cases hj
  rw [drop5 cs k j hj5, h1]
  exact hj
def VerTo (w : World) (l : List Ver) (i : Value) (wx : World) : Prop := ∃ k : Nat, k ≤ l.length ∧ i = .int .i64 k ∧ (∀ j (h : j < l.length), j < k → verOk l[j] = true) ∧ Nw w wx
set_option maxRecDepth 100000 in
theorem indexVer_any (w : World) (F I : Nat → Prop) (A : Option Addr) (c : Nat) (l : List Ver) (cs : List Value) (hs : Sl w F A cs) (hv : VersC w I l cs) (hz : VersSz l) (hl : l.length ≤ 1000000000) :
    Calls Try.prog 72 #[.slice A l.length c, .func (.func 47) #[] #[]] w
      fun e w' => ∃ i : Int, e = .returned (.int .i64 i) ∧ (0 ≤ i ↔ l.all verOk = false) ∧ Nw w w' := by
  go_enter Try.func72, Try.ntmps72
  go_wp2_with fail
  go_loopw [8] (fun i wx => VerTo w l i wx) (fun i _ => l.length - (intOf i).toNat)
  case atStart => exact ⟨0, Nat.zero_le _, rfl, fun _ _ h => by omega, Fr.refl _ _⟩
  case round =>
    obtain ⟨k, hk, rfl, hok, hq⟩ := hrel
    have HK := Lib.hid hok
    clear hok
    by_cases hlt : k < l.length
    · obtain ⟨b, o, A', c', rfl, hF, hc, _, _, hs'⟩ := (hs.fr hq (fun _ _ h => h)).ver (hv.fr hq (fun _ _ h => h)) hlt
      have hzk := hz _ (List.getElem_mem hlt)
      have hcon := rightc_any _ I l[k] A' c' hs' hzk.2 hzk.1
      obtain ⟨p, hp⟩ : ∃ p, verOk l[k] = p := ⟨_, rfl⟩
      rw [hp] at hcon
      have HP := Lib.hid hp
      clear hp hzk
      cases p
      · go_wp2_with (first | (refine wl_load_cells rfl 38 _ rfl b (o + k * 5) rfl (verL l[k] A' c') _ hc Try.underlying38 rfl ver_size ?_) | (go_at_call 47; refine hcon.mono ?_; rintro e w1 ⟨rfl, q1⟩))
        go_ret
        refine ⟨k, rfl, ⟨fun _ => ?_, fun _ => by omega⟩, hq.tr q1⟩
        refine Bool.eq_false_iff.2 fun h => ?_
        have := List.all_eq_true.1 h _ (List.getElem_mem hlt)
        rw [HP.out] at this
        cases this
      · go_wp2_with (first | (refine wl_load_cells rfl 38 _ rfl b (o + k * 5) rfl (verL l[k] A' c') _ hc Try.underlying38 rfl ver_size ?_) | (go_at_call 47; refine hcon.mono ?_; rintro e w1 ⟨rfl, q1⟩))
        go_roundw
        case rel =>
          refine ⟨k + 1, by omega, rfl, fun j hj hjk => ?_, hq.tr q1⟩
          by_cases hjk2 : j < k
          · exact HK.out j hj hjk2
          · obtain rfl : j = k := by omega
            exact HP.out
        case measure => simp [intOf]; omega
    · go_wp2_with fail
      go_ret
      have e : l.all verOk = true := List.all_eq_true.2 fun x hx => by
        obtain ⟨j, hj, rfl⟩ := List.mem_iff_getElem.1 hx
        exact HK.out j hj (by omega)
      exact ⟨-1, rfl, ⟨fun h => by omega, fun h => by rw [e] at h; cases h⟩, hq⟩
theorem containsVer_any (w : World) (F I : Nat → Prop) (A : Option Addr) (c : Nat) (l : List Ver) (cs : List Value) (hs : Sl w F A cs) (hv : VersC w I l cs) (hz : VersSz l) (hl : l.length ≤ 1000000000) :
    Calls Try.prog 46 #[.slice A l.length c, .func (.func 47) #[] #[]] w
      fun e w' => e = .returned (.bool (!l.all verOk)) ∧ Nw w w' := by
  go_enter Try.func46, Try.ntmps46
  go_wp2_with fail
  refine (indexVer_any w F I A c l cs hs hv hz hl).mono ?_
  rintro e w1 ⟨i, rfl, hi, q1⟩
  have hd : decide (0 ≤ i) = !l.all verOk := by
    by_cases h0 : 0 ≤ i
    · rw [decide_eq_true h0, hi.1 h0]; rfl
    · have hn : l.all verOk = true := by
        cases h : l.all verOk with
        | true => rfl
        | false => exact (h0 (hi.2 h)).elim
      rw [decide_eq_false h0, hn]; rfl
  have HD := Lib.hid hd
  clear hd hi
  go_wp2_with fail
  go_ret
  exact ⟨congrArg (fun b => Ending.returned (.bool b)) HD.out, q1⟩
theorem right_any (w : World) (F I : Nat → Prop) (A : Option Addr) (c : Nat) (l : List Ver) (cs : List Value) (hs : Sl w F A cs) (hv : VersC w I l cs) (hz : VersSz l) (hl : l.length ≤ 1000000000) :
    Calls Try.prog 19 #[.slice A l.length c] w fun e w' => e = .returned (.bool (l.all verOk)) ∧ Nw w w' := by
  have hcon := containsVer_any w F I A c l cs hs hv hz hl
  generalize l.all verOk = b at hcon ⊢
  cases b <;>
  · go_enter Try.func19, Try.ntmps19
    go_wp2_with (go_at_call 46; refine hcon.mono ?_; rintro e w1 ⟨rfl, q1⟩)
    go_ret
    exact ⟨rfl, q1⟩
/-- One verdict, by itself, in a fresh list. -/
theorem right_one (w : World) (F : Nat → Prop) (v : Ver) (A : Option Addr) (c : Nat) (hs : Sl w F A (rdgsCells v.2.2.2)) (hc1 : v.2.2.2.length ≤ c) (hc2 : c ≤ maxLen) (hz : VerSz v) (g : Nat) (hg : g = w.heap.size) :
    Calls Try.prog 19 #[.slice (some ⟨g, 0, none⟩) 1 1] (w.alloc (.cells #[I64 v.1.1, I64 v.1.2, .bool v.2.1, I64 v.2.2.1, .slice A v.2.2.2.length c] 38)) fun e w' => e = .returned (.bool (verOk v)) ∧ Nw w w' := by
  subst hg
  have q0 : Nw w (w.alloc (.cells #[I64 v.1.1, I64 v.1.2, .bool v.2.1, I64 v.2.2.1, .slice A v.2.2.2.length c] 38)) := (Fr.refl _ w).alloc _
  have h1 := sl_new w 38 (verL v A c) w.heap.size rfl
  have h2 : VersC (w.alloc (.cells #[I64 v.1.1, I64 v.1.2, .bool v.2.1, I64 v.2.2.1, .slice A v.2.2.2.length c] 38)) F [v] (verL v A c) := (VersC.nil _ _).snoc ⟨A, c, rfl, hc1, hc2, hs.fr q0 (fun _ _ h => h)⟩
  refine (right_any _ _ F (some ⟨w.heap.size, 0, none⟩) 1 [v] (verL v A c) h1 h2 (fun x hx => by rw [List.mem_singleton.1 hx]; exact hz) (by simp)).mono ?_
  rintro e w' ⟨rfl, q⟩
  exact ⟨retB (by simp), q0.tr q⟩

set_option maxRecDepth 100000 in
set_option maxHeartbeats 1000000 in
theorem rright_any (w : World) (F : Nat → Prop) (v : Ver) (A : Option Addr) (c : Nat) (hs : Sl w F A (rdgsCells v.2.2.2)) (hz : RdgSz v.2.2.2) (hl : v.2.2.2.length ≤ 1000000000) :
    Calls Try.prog 13 #[VerV v A c] w fun e w' => e = .returned (.bool (verOk v)) ∧ Nw w w' := by
  have hno := verHead_no (v := v)
  have hyes := verHead_yes (v := v)
  have heq := verOk_eq v
  generalize verOk v = res at heq ⊢
  generalize verHead v = hd at heq hno hyes
  have HN := Lib.hid hno
  have HY := Lib.hid hyes
  have HE := Lib.hid heq
  clear hno hyes heq
  obtain ⟨⟨a, b⟩, m, t, l⟩ := v
  have hcon := fun w => refName_any w (a, b)
  show Calls Try.prog 13 #[.agg #[I64 a, I64 b, .bool m, I64 t, .slice A l.length c]] w fun e w' => e = .returned (.bool res) ∧ Nw w w'
  have HN : Hid (¬ (nmOk (a, b) ∧ (1 ≤ t ∧ t ≤ 1073741824) ∧ l.length ≤ 6 ∧ (m = true ∨ l.length = 0)) → hd = false) := HN
  have HY : Hid (nmOk (a, b) ∧ (1 ≤ t ∧ t ≤ 1073741824) ∧ l.length ≤ 6 ∧ (m = true ∨ l.length = 0) → hd = true) := HY
  have HE : Hid (res = (hd && l.all rdgOk)) := HE
  have hs : Sl w F A (rdgsCells l) := hs
  have hz : RdgSz l := hz
  obtain ⟨n, hn⟩ : ∃ n, l.length = n := ⟨_, rfl⟩
  rw [hn] at HN HY ⊢
  have hl : n ≤ 1000000000 := by rw [← hn]; exact hl
  have LN := Lib.hid hn
  clear hn
  have hB := Blk.new w 41 #[I64 a, I64 b, .bool m, I64 t, .slice A n c]
  have hk : ∀ w1, Nw (w.alloc (.cells #[I64 a, I64 b, .bool m, I64 t, .slice A n c] 41)) w1 → w1.cell? ⟨w.heap.size, 2, none⟩ = some (.bool m) ∧ w1.cell? ⟨w.heap.size, 3, none⟩ = some (I64 t) ∧ w1.cell? ⟨w.heap.size, 4, none⟩ = some (.slice A n c) := fun w1 q => by
    have h := hB.fr q (fun h => h)
    exact ⟨by simpa using h.cell 2, by simpa using h.cell 3, by simpa using h.cell 4⟩
  have q0 : Nw w (w.alloc (.cells #[I64 a, I64 b, .bool m, I64 t, .slice A n c] 41)) := (Fr.refl _ w).alloc _
  by_cases hnm : nmOk (a, b)
  · rw [decide_eq_true hnm] at hcon
    have H1 := Lib.hid hnm
    clear hnm
    by_cases h1 : 1 ≤ t
    · have h1i : decide (t < 1) = false := decide_eq_false (by omega)
      by_cases h2 : t ≤ 1073741824
      · have h2i : decide (1073741824 < t) = false := decide_eq_false (by omega)
        by_cases h6 : n ≤ 6
        · have h6i : decide ((6 : Int) < (n : Int)) = false := decide_eq_false (by omega)
          cases m
          · by_cases h0 : n = 0
            · have h0i : decide ((0 : Int) < (n : Int)) = false := decide_eq_false (by omega)
              have h0n : decide (0 < n) = false := decide_eq_false (by omega)
              have HM := Lib.hid (Or.inr h0 : false = true ∨ n = 0)
              clear h0
              have HR := Lib.hid (by rw [HE.out, HY.out ⟨H1.out, ⟨h1, h2⟩, h6, HM.out⟩]; rfl : res = l.all rdgOk)
              have hk0 := hk
              clear hk
              go_enter Try.func13, Try.ntmps13
              go_wp2_with (go_at_call 41; refine (hcon _).mono ?_; rintro e w1 ⟨rfl, q1⟩; obtain ⟨k2, k3, k4⟩ := hk0 w1 q1)
              have qW := q0.tr q1
              have hBW := hB.fr q1 (fun h => h)
              go_loopw [3] (fun i wx => RdgTo w1 l i wx) (fun i _ => l.length - (intOf i).toNat)
              case atStart => exact ⟨0, Nat.zero_le _, rfl, fun _ _ h => by omega, Fr.refl _ _⟩
              case round =>
                obtain ⟨k, hk, rfl, hok, hq⟩ := hrel
                have HK := Lib.hid hok
                clear hok k2 k3 k4
                have k4 : wr.cell? ⟨w.heap.size, 4, none⟩ = some (.slice A n c) := by simpa using (hBW.fr hq (fun h => h)).cell 4
                by_cases hlt : k < n
                · have hlt2 : k < l.length := by rw [LN.out]; exact hlt
                  obtain ⟨b', o', rfl, hF, hc1, hc2, hc3⟩ := (hs.fr (qW.tr hq) (fun _ _ h => h)).rdg hlt2
                  have hzk := hz _ (List.getElem_mem hlt2)
                  have hcon2 := fun w => readRight_any w l[k] hzk.1 hzk.2
                  clear hzk
                  obtain ⟨p, hp⟩ : ∃ p, rdgOk l[k] = p := ⟨_, rfl⟩
                  rw [hp] at hcon2
                  have HP := Lib.hid hp
                  clear hp
                  cases p
                  · go_wp2_with (go_at_call 42; refine (hcon2 _).mono ?_; rintro e w2 ⟨rfl, q2⟩)
                    go_ret
                    refine ⟨retB ?_, (qW.tr hq).tr q2⟩
                    rw [HR.out]
                    refine (Bool.eq_false_iff.2 fun h => ?_).symm
                    have := List.all_eq_true.1 h _ (List.getElem_mem hlt2)
                    rw [HP.out] at this
                    cases this
                  · go_wp2_with (go_at_call 42; refine (hcon2 _).mono ?_; rintro e w2 ⟨rfl, q2⟩)
                    go_roundw
                    case rel =>
                      refine ⟨k + 1, by omega, rfl, fun j hj hjk => ?_, hq.tr q2⟩
                      by_cases hjk2 : j < k
                      · exact HK.out j hj hjk2
                      · obtain rfl : j = k := by omega
                        exact HP.out
                    case measure => simp [intOf]; omega
                · go_wp2_with fail
                  go_ret
                  refine ⟨retB ?_, qW.tr hq⟩
                  rw [HR.out]
                  refine (List.all_eq_true.2 fun x hx => ?_).symm
                  obtain ⟨j, hj, rfl⟩ := List.mem_iff_getElem.1 hx
                  have := LN.out
                  exact HK.out j hj (by omega)
            · have h0i : decide ((0 : Int) < (n : Int)) = true := decide_eq_true (by omega)
              have h0n : decide (0 < n) = true := decide_eq_true (by omega)
              go_enter Try.func13, Try.ntmps13
              go_wp2_with (go_at_call 41; refine (hcon _).mono ?_; rintro e w1 ⟨rfl, q1⟩; obtain ⟨k2, k3, k4⟩ := hk w1 q1)
              go_ret
              exact ⟨retB (by rw [HE.out, HN.out (fun h => h.2.2.2.elim (fun h => by cases h) h0)]; rfl), q0.tr q1⟩
          · have HM := Lib.hid (Or.inl rfl : true = true ∨ n = 0)
            have HR := Lib.hid (by rw [HE.out, HY.out ⟨H1.out, ⟨h1, h2⟩, h6, HM.out⟩]; rfl : res = l.all rdgOk)
            have hk0 := hk
            clear hk
            go_enter Try.func13, Try.ntmps13
            go_wp2_with (go_at_call 41; refine (hcon _).mono ?_; rintro e w1 ⟨rfl, q1⟩; obtain ⟨k2, k3, k4⟩ := hk0 w1 q1)
            have qW := q0.tr q1
            have hBW := hB.fr q1 (fun h => h)
            go_loopw [3] (fun i wx => RdgTo w1 l i wx) (fun i _ => l.length - (intOf i).toNat)
            case atStart => exact ⟨0, Nat.zero_le _, rfl, fun _ _ h => by omega, Fr.refl _ _⟩
            case round =>
              obtain ⟨k, hk, rfl, hok, hq⟩ := hrel
              have HK := Lib.hid hok
              clear hok k2 k3 k4
              have k4 : wr.cell? ⟨w.heap.size, 4, none⟩ = some (.slice A n c) := by simpa using (hBW.fr hq (fun h => h)).cell 4
              by_cases hlt : k < n
              · have hlt2 : k < l.length := by rw [LN.out]; exact hlt
                obtain ⟨b', o', rfl, hF, hc1, hc2, hc3⟩ := (hs.fr (qW.tr hq) (fun _ _ h => h)).rdg hlt2
                have hzk := hz _ (List.getElem_mem hlt2)
                have hcon2 := fun w => readRight_any w l[k] hzk.1 hzk.2
                clear hzk
                obtain ⟨p, hp⟩ : ∃ p, rdgOk l[k] = p := ⟨_, rfl⟩
                rw [hp] at hcon2
                have HP := Lib.hid hp
                clear hp
                cases p
                · go_wp2_with (go_at_call 42; refine (hcon2 _).mono ?_; rintro e w2 ⟨rfl, q2⟩)
                  go_ret
                  refine ⟨retB ?_, (qW.tr hq).tr q2⟩
                  rw [HR.out]
                  refine (Bool.eq_false_iff.2 fun h => ?_).symm
                  have := List.all_eq_true.1 h _ (List.getElem_mem hlt2)
                  rw [HP.out] at this
                  cases this
                · go_wp2_with (go_at_call 42; refine (hcon2 _).mono ?_; rintro e w2 ⟨rfl, q2⟩)
                  go_roundw
                  case rel =>
                    refine ⟨k + 1, by omega, rfl, fun j hj hjk => ?_, hq.tr q2⟩
                    by_cases hjk2 : j < k
                    · exact HK.out j hj hjk2
                    · obtain rfl : j = k := by omega
                      exact HP.out
                  case measure => simp [intOf]; omega
              · go_wp2_with fail
                go_ret
                refine ⟨retB ?_, qW.tr hq⟩
                rw [HR.out]
                refine (List.all_eq_true.2 fun x hx => ?_).symm
                obtain ⟨j, hj, rfl⟩ := List.mem_iff_getElem.1 hx
                have := LN.out
                exact HK.out j hj (by omega)
        · have h6i : decide ((6 : Int) < (n : Int)) = true := decide_eq_true (by omega)
          go_enter Try.func13, Try.ntmps13
          go_wp2_with (go_at_call 41; refine (hcon _).mono ?_; rintro e w1 ⟨rfl, q1⟩; obtain ⟨k2, k3, k4⟩ := hk w1 q1)
          go_ret
          exact ⟨retB (by rw [HE.out, HN.out (fun h => h6 h.2.2.1)]; rfl), q0.tr q1⟩
      · have h2i : decide (1073741824 < t) = true := decide_eq_true (by omega)
        go_enter Try.func13, Try.ntmps13
        go_wp2_with (go_at_call 41; refine (hcon _).mono ?_; rintro e w1 ⟨rfl, q1⟩; obtain ⟨k2, k3, k4⟩ := hk w1 q1)
        go_ret
        exact ⟨retB (by rw [HE.out, HN.out (fun h => absurd h.2.1.2 (by omega))]; rfl), q0.tr q1⟩
    · have h1i : decide (t < 1) = true := decide_eq_true (by omega)
      go_enter Try.func13, Try.ntmps13
      go_wp2_with (go_at_call 41; refine (hcon _).mono ?_; rintro e w1 ⟨rfl, q1⟩; obtain ⟨k2, k3, k4⟩ := hk w1 q1)
      go_ret
      exact ⟨retB (by rw [HE.out, HN.out (fun h => absurd h.2.1.1 (by omega))]; rfl), q0.tr q1⟩
  · rw [decide_eq_false hnm] at hcon
    have H1 := Lib.hid hnm
    clear hnm
    go_enter Try.func13, Try.ntmps13
    go_wp2_with (go_at_call 41; refine (hcon _).mono ?_; rintro e w1 ⟨rfl, q1⟩; obtain ⟨k2, k3, k4⟩ := hk w1 q1)
    go_ret
    exact ⟨retB (by rw [HE.out, HN.out (fun h => H1.out h.1)]; rfl), q0.tr q1⟩
end Go.Proofs.Ytgmcjfjdjnoljaa
