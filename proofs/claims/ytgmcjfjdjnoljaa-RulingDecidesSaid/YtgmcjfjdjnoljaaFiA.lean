/- Rulings: the first of a name stands: plain laws. -/
import Derived.Test.YtgmcjfjdjnoljaaRuR
import Derived.Test.YtgmcjfjdjnoljaaRuQ
import Derived.Test.YtgmcjfjdjnoljaaRuO
import Derived.Test.YtgmcjfjdjnoljaaRuS
import Derived.Test.YtgmcjfjdjnoljaaPick
import Derived.Test.YtgmcjfjdjnoljaaL19A
namespace Go.Proofs.Ytgmcjfjdjnoljaa
open Go Go.RowKit

/-- The table of the first ones: its verdicts' reads lie in the argument's memory. -/
def TabOk (w : World) (f : Nm → Option Value) (B : List Ver) : Prop :=
  ∀ n, (findV n B = none → f n = none) ∧ ∀ v, findV n B = some v → ∃ A c, f n = some (VerV v A c) ∧ Sl w (· < w.heap.size) A (rdgsCells v.2.2.2)
theorem TabOk.nil (w : World) : TabOk w (fun _ => none) [] := fun _ => ⟨fun _ => rfl, fun _ h => by cases h⟩
theorem findV_snoc (n : Nm) (B : List Ver) (v : Ver) : findV n (B ++ [v]) = match findV n B with
    | some u => some u
    | none => if v.1 = n then some v else none := by
  induction B with
  | nil => rfl
  | cons u B ih =>
    rw [List.cons_append]
    unfold findV
    split
    · rfl
    · exact ih
theorem TabOk.snoc {w : World} {f : Nm → Option Value} {B : List Ver} (h : TabOk w f B) {v : Ver} {A : Option Addr} {c : Nat} (hs : Sl w (· < w.heap.size) A (rdgsCells v.2.2.2)) (hf : findV v.1 B = none) :
    TabOk w (fun x => if x = v.1 then some (VerV v A c) else f x) (B ++ [v]) := by
  intro n
  have hn := findV_snoc n B v
  refine ⟨fun h0 => ?_, fun u h0 => ?_⟩
  · rw [hn] at h0
    cases hb : findV n B with
    | some u => rw [hb] at h0; cases h0
    | none =>
      rw [hb] at h0
      by_cases he : v.1 = n
      · simp [he] at h0
      · show (if n = v.1 then _ else _) = _
        rw [if_neg (fun e => he e.symm)]
        exact (h n).1 hb
  · rw [hn] at h0
    cases hb : findV n B with
    | some x =>
      rw [hb] at h0
      injection h0 with h0
      subst h0
      have hne : n ≠ v.1 := by rintro rfl; rw [hf] at hb; cases hb
      obtain ⟨A1, c1, h1, h2⟩ := (h n).2 _ hb
      exact ⟨A1, c1, by show (if n = v.1 then _ else _) = _; rw [if_neg hne]; exact h1, h2⟩
    | none =>
      rw [hb] at h0
      by_cases he : v.1 = n
      · simp only [he, if_true, Option.some.injEq] at h0
        subst h0
        exact ⟨A, c, by show (if n = v.1 then _ else _) = _; rw [if_pos he.symm], hs⟩
      · simp [he] at h0
theorem findV_here {B : List Ver} (h : BookOk B) {i : Nat} (hi : i < B.length) : findV B[i].1 B = some B[i] := by
  have h3 := h.2.2
  clear h
  induction B generalizing i with
  | nil => simp at hi
  | cons u B ih =>
    cases i with
    | zero => simp [findV]
    | succ i =>
      have h4 := List.pairwise_cons.1 h3
      have hi2 : i < B.length := by simpa using hi
      simp only [List.getElem_cons_succ]
      unfold findV
      rw [if_neg (h4.1 _ (List.getElem_mem hi2))]
      exact ih hi2 h4.2
theorem at_less {B : List Ver} (h : BookOk B) {i : Nat} (hi : i + 1 < B.length) : ¬ (B[i]'(by omega)).2.2.1 ≥ B[i + 1].2.2.1 := by
  have := List.pairwise_iff_getElem.1 h.2.1 i (i + 1) (by omega) hi (by omega)
  omega
theorem at_less' {B : List Ver} (h : BookOk B) {t : Nat} (ht : t < B.length) (t2 : Nat) (h2 : t2 + 1 = t) : ¬ (B[t2]'(by omega)).2.2.1 ≥ B[t].2.2.1 := by
  subst h2; exact at_less h ht
/-- What a decision is. -/
theorem dec_ways {B : List Ver} {v : Ver} {d : Ver × Int × List Ver} (hd : decV B v = d) (hb : BookOk B) : BookOk d.2.2 ∧ d.2.2.length ≤ B.length + 1 ∧
    ((d.2.1 = 2 ∧ d.2.2 = B) ∨ (d.2.1 = 0 ∧ findV v.1 B = some d.1 ∧ d.2.2 = B) ∨ (d.2.1 = 0 ∧ findV v.1 B = none ∧ d.1 = v ∧ d.2.2 = B ++ [v])) := by
  have h1 := decV_ok v hb
  have h2 := decV_len B v
  refine ⟨hd ▸ h1, hd ▸ h2, ?_⟩
  cases hv : verOk v with
  | false => rw [decV_bad hv] at hd; subst hd; exact .inl ⟨rfl, rfl⟩
  | true =>
    cases hf : findV v.1 B with
    | some u => rw [decV_old hv hf] at hd; subst hd; exact .inr (.inl ⟨rfl, rfl, rfl⟩)
    | none =>
      by_cases ha : v.2.2.1 ≤ lastAt B
      · rw [decV_low hv hf ha] at hd; subst hd; exact .inl ⟨rfl, rfl⟩
      · rw [decV_new hv hf ha] at hd; subst hd; exact .inr (.inr ⟨rfl, rfl, rfl, rfl⟩)
theorem dec_told {B B2 : List Ver} {v xv : Ver} {er : Int} (hd : decV B v = (xv, er, B2)) (hb : BookOk B) (hv : v.2.2.2.length ≤ 1000000000) : xv.2.2.2.length ≤ 1000000000 := by
  cases hk : verOk v with
  | false => rw [decV_bad hk] at hd; injection hd with h1 _; subst h1; exact Nat.zero_le _
  | true =>
    cases hf : findV v.1 B with
    | some u =>
      rw [decV_old hk hf] at hd; injection hd with h1 _; subst h1
      have := (verOk_parts (hb.1 u (findV_some hf).1)).2.2.1
      omega
    | none =>
      by_cases ha : v.2.2.1 ≤ lastAt B
      · rw [decV_low hk hf ha] at hd; injection hd with h1 _; subst h1; exact Nat.zero_le _
      · rw [decV_new hk hf ha] at hd; injection hd with h1 _; subst h1; exact hv
theorem allV_nil (B : List Ver) : allV [] B = B := by simp [allV]
theorem allV_both (B : List Ver) : allV [true, false] B = B := by
  simp [allV, List.filter_eq_self]
theorem allV_split (B : List Ver) : (allV [true] B).length + (allV [false] B).length = B.length := by
  induction B with
  | nil => rfl
  | cons v B ih =>
    obtain ⟨n, m, t, r⟩ := v
    unfold allV at ih ⊢
    cases m <;> simp at ih ⊢ <;> omega
theorem small_sz {v : Ver} (h : VerSmall v) : VerSz v := ⟨by have := h.1; omega, fun r hr => by have := h.2 r hr; unfold RdgSmall at this; omega⟩
theorem bookB_len {B : List Ver} (h : BookOk B) (hl : B.length ≤ 1000) : (bookB B).length ≤ 1000000 := by
  have h1 := versB_len B h.1
  have h2 := enc_len B.length
  have e : bookB B = enc B.length ++ versB B := rfl
  rw [e, List.length_append]
  omega
theorem verNm {l : List Ver} {x : Ver} (h : x ∈ l) (hz : ∀ v ∈ l, NmWf v.1) : NmWf x.1 := hz x h
end Go.Proofs.Ytgmcjfjdjnoljaa
