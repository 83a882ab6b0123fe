/- Rulings: the law's own looks: verdicts held against each other, lists of them; the chapter's example. -/
import Derived.Test.YtgmcjfjdjnoljaaRuO
import Derived.Test.YtgmcjfjdjnoljaaRuJ
namespace Go.Proofs.Ytgmcjfjdjnoljaa
open Go Go.RowKit

def sameV (a b : Ver) : Bool := decide (a.1 = b.1) && (decide (a.2.1 = b.2.1) && (decide (a.2.2.1 = b.2.2.1) && decide (a.2.2.2 = b.2.2.2)))
theorem sameV_iff {a b : Ver} : sameV a b = true ↔ a = b := by
  obtain ⟨n, m, t, r⟩ := a
  obtain ⟨n', m', t', r'⟩ := b
  unfold sameV
  simp only [Bool.and_eq_true, decide_eq_true_eq, Prod.mk.injEq]
theorem sameV_refl (a : Ver) : sameV a a = true := sameV_iff.2 rfl
set_option maxRecDepth 100000 in
set_option maxHeartbeats 2000000 in
theorem same_any (w : World) (F1 F2 : Nat → Prop) (a b : Ver) (A A' : Option Addr) (c c' : Nat) (h1 : Sl w F1 A (rdgsCells a.2.2.2)) (h2 : Sl w F2 A' (rdgsCells b.2.2.2)) (hl : a.2.2.2.length ≤ 1000000000) :
    Calls Try.prog 17 #[VerV a A c, VerV b A' c'] w fun e w' => e = .returned (.bool (sameV a b)) ∧ Nw w w' := by
  have hd : sameV a b = (decide (a.1 = b.1) && (decide (a.2.1 = b.2.1) && (decide (a.2.2.1 = b.2.2.1) && decide (a.2.2.2 = b.2.2.2)))) := rfl
  generalize sameV a b = res at hd ⊢
  obtain ⟨n, m, t, r⟩ := a
  obtain ⟨n', m', t', r'⟩ := b
  have hd2 : res = (decide (n = n') && (decide (m = m') && (decide (t = t') && decide (r = r')))) := hd
  clear hd
  have hne := fun w => name_eql w n n'
  have hcon := fun (w1 : World) (q : Nw w w1) => sameReads_any w1 F1 F2 A A' c c' r r' (h1.fr q (fun _ _ h => h)) (h2.fr q (fun _ _ h => h)) hl
  generalize decide (n = n') = p1 at hd2 hne
  generalize decide (r = r') = p4 at hd2 hcon
  have HD := Lib.hid hd2
  clear hd2
  have q0 : Nw w ((w.alloc (.cells #[I64 n.1, I64 n.2, .bool m, I64 t, .slice A r.length c] 38)).alloc (.cells #[I64 n'.1, I64 n'.2, .bool m', I64 t', .slice A' r'.length c'] 41)) := ((Fr.refl _ w).alloc _).alloc _
  cases p1
  · go_enter Try.func17, Try.ntmps17
    go_wp2_with fail
    go_ret
    exact ⟨retB (by rw [HD.out]; rfl), q0⟩
  · by_cases hm : m = m'
    · subst hm
      have hmb : (m == m) = true := by simp
      by_cases ht : t = t'
      · have ht1 : (t == t') = true := by simp [ht]
        have ht2 : decide (t = t') = true := decide_eq_true ht
        have HT := Lib.hid ht2
        clear ht
        cases p4 <;>
        · go_enter Try.func17, Try.ntmps17
          go_wp2_with (go_at_call 45; refine (hcon _ q0).mono ?_; rintro e w1 ⟨rfl, q1⟩)
          go_ret
          exact ⟨retB (by rw [HD.out, HT.out]; simp), q0.tr q1⟩
      · have ht1 : (t == t') = false := by simp [ht]
        have ht2 : decide (t = t') = false := decide_eq_false ht
        have HT := Lib.hid ht2
        clear ht
        go_enter Try.func17, Try.ntmps17
        go_wp2_with fail
        go_ret
        exact ⟨retB (by rw [HD.out, HT.out]; simp), q0⟩
    · have hmb : (m == m') = false := by simp [hm]
      have HM := Lib.hid (decide_eq_false hm : decide (m = m') = false)
      clear hm
      go_enter Try.func17, Try.ntmps17
      go_wp2_with fail
      go_ret
      exact ⟨retB (by rw [HD.out, HM.out]; simp), q0⟩
/-- All verdicts before the k-th are the same. -/
def AllSame (w : World) (a b : List Ver) (i : Value) (wx : World) : Prop := ∃ k : Nat, k ≤ a.length ∧ i = .int .i64 k ∧ (∀ j (h : j < a.length) (h' : j < b.length), j < k → a[j] = b[j]) ∧ Nw w wx
/-- Are lists of verdicts the same? -/
def sameVs (a b : List Ver) : Bool := decide (a.length = b.length) && (List.zipWith sameV a b).all id
theorem sameVs_iff {a b : List Ver} : sameVs a b = true ↔ a = b := by
  unfold sameVs
  rw [Bool.and_eq_true, decide_eq_true_eq]
  constructor
  · rintro ⟨h1, h2⟩
    refine List.ext_getElem h1 fun j h3 h4 => ?_
    rw [List.all_eq_true] at h2
    have := h2 (sameV a[j] b[j]) (List.mem_iff_getElem.2 ⟨j, by simp; omega, by simp⟩)
    exact sameV_iff.1 this
  · rintro rfl
    refine ⟨rfl, List.all_eq_true.2 fun x hx => ?_⟩
    obtain ⟨j, hj, rfl⟩ := List.mem_iff_getElem.1 hx
    simp [sameV_refl]
set_option maxRecDepth 100000 in
set_option maxHeartbeats 2000000 in
theorem allSame_any (w : World) (F1 F2 I1 I2 : Nat → Prop) (a b : List Ver) (A A' : Option Addr) (c c' : Nat) (cs cs' : List Value) (h1 : Sl w F1 A cs) (v1 : VersC w I1 a cs) (h2 : Sl w F2 A' cs') (v2 : VersC w I2 b cs') (hz : VersSz a) (hl : a.length ≤ 2000000000) :
    Calls Try.prog 29 #[.slice A a.length c, .slice A' b.length c'] w fun e w' => e = .returned (.bool (sameVs a b)) ∧ Nw w w' := by
  have hiff := @sameVs_iff a b
  generalize sameVs a b = res at hiff ⊢
  have HI := Lib.hid hiff
  clear hiff
  by_cases hlen : a.length = b.length
  · obtain ⟨n, hn⟩ : ∃ n, n = a.length := ⟨_, rfl⟩
    have hnb : n = b.length := hn.trans hlen
    rw [← hlen, ← hn]
    have HA := Lib.hid hn
    have HB := Lib.hid hnb
    have hl : n ≤ 2000000000 := by omega
    clear hn hnb hlen
    go_enter Try.func29, Try.ntmps29
    go_wp2_with fail
    go_loopw [5] (fun i wx => AllSame w a b i wx) (fun i _ => n - (intOf i).toNat)
    case atStart => exact ⟨0, Nat.zero_le _, rfl, fun _ _ _ h => by omega, Fr.refl _ _⟩
    case round =>
      obtain ⟨k, hk, rfl, hok, hq⟩ := hrel
      have HK := Lib.hid hok
      have hkn : k ≤ n := by rw [HA.out]; exact hk
      clear hok hk
      by_cases hlt : k < n
      · have hka : k < a.length := by rw [← HA.out]; exact hlt
        have hkb : k < b.length := by rw [← HB.out]; exact hlt
        obtain ⟨b1, o1, B1, d1, rfl, _, x1, _, _, s1⟩ := (h1.fr hq (fun _ _ h => h)).ver (v1.fr hq (fun _ _ h => h)) hka
        obtain ⟨b2, o2, B2, d2, rfl, _, y1, _, _, s2⟩ := (h2.fr hq (fun _ _ h => h)).ver (v2.fr hq (fun _ _ h => h)) hkb
        have hzk := hz _ (List.getElem_mem hka)
        have hcon := fun (w1 : World) (q : Nw wr w1) => same_any w1 I1 I2 a[k] b[k] B1 B2 d1 d2 (s1.fr q (fun _ _ h => h)) (s2.fr q (fun _ _ h => h)) hzk.1
        have hpi := @sameV_iff a[k] b[k]
        generalize sameV a[k] b[k] = p at hcon hpi
        have HP := Lib.hid hpi
        clear hpi hzk
        generalize a[k] = x at x1 hcon
        generalize b[k] = y at y1 hcon
        have e0 : wr.cell? ⟨b1, o1 + k * 5, none⟩ = some (I64 x.1.1) := by simpa using x1 0 _ rfl
        have f0 : wr.cell? ⟨b2, o2 + k * 5, none⟩ = some (I64 y.1.1) := by simpa using y1 0 _ rfl
        have X0 := fun (n : Later wr) => n.cell e0
        have X1 := fun (n : Later wr) => n.cell (x1 1 _ rfl)
        have X2 := fun (n : Later wr) => n.cell (x1 2 _ rfl)
        have X3 := fun (n : Later wr) => n.cell (x1 3 _ rfl)
        have X4 := fun (n : Later wr) => n.cell (x1 4 _ rfl)
        have Y0 := fun (n : Later wr) => n.cell f0
        have Y1 := fun (n : Later wr) => n.cell (y1 1 _ rfl)
        have Y2 := fun (n : Later wr) => n.cell (y1 2 _ rfl)
        have Y3 := fun (n : Later wr) => n.cell (y1 3 _ rfl)
        have Y4 := fun (n : Later wr) => n.cell (y1 4 _ rfl)
        clear x1 y1 s1 s2 e0 f0
        go_wp2_with fail
        refine wp_region_later (by kernel_rfl) (by kernel_rfl) ?_
        repeat (go_big_quiet_step ((first | (go_at_call 17; exact Later.call (hcon _ (Later.nw _))))))
        refine wpQuiet_later fun w5 q5 => ?_
        cases p
        · go_wp2_with fail
          go_ret
          refine ⟨retB (Eq.symm (Bool.eq_false_iff.2 fun e => ?_)), hq.tr q5⟩
          have hab := HI.out.1 e
          have h3 : a[k] = b[k] := by simp only [hab]
          have := HP.out.2 h3
          cases this
        · go_wp2_with fail
          go_roundw
          case rel =>
            refine ⟨k + 1, by omega, by go_num, fun j h3 h4 hjk => ?_, hq.tr q5⟩
            by_cases hjk2 : j < k
            · exact HK.out j h3 h4 hjk2
            · obtain rfl : j = k := by omega
              exact HP.out.1 rfl
          case measure => simp [intOf]; omega
      · go_wp2_with fail
        go_ret
        refine ⟨retB ((HI.out.2 (List.ext_getElem (by rw [← HA.out, ← HB.out]) fun j h3 h4 => HK.out j h3 h4 (by have := HA.out; omega))).symm), hq⟩
  · have hne : ¬ (a.length : Int) = (b.length : Int) := by omega
    go_enter Try.func29, Try.ntmps29
    go_wp2_with fail
    go_ret
    refine ⟨retB (Eq.symm (Bool.eq_false_iff.2 fun e => hlen (by rw [HI.out.1 e]))), Fr.refl _ _⟩
end Go.Proofs.Ytgmcjfjdjnoljaa
