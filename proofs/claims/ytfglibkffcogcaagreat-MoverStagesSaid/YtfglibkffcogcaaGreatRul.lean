/- Rulings in plain Lean: reads, verdicts, a book of them, its bytes, and bytes read as a book. No program in sight. -/
import Derived.Test.YtfglibkffcogcaaGreatPastB
namespace Go.Proofs.YtfglibkffcogcaaGreat
open Go Go.RowKit

/-- A read: its key, is there one, its value. -/
abbrev Rdg := List UInt8 × Bool × List UInt8
/-- A verdict: the name, is it committed, its index, its reads. -/
abbrev Ver := Nm × Bool × Int × List Rdg
def keyCh (b : UInt8) : Bool := (decide (97 ≤ b.toNat) && decide (b.toNat ≤ 122)) || (decide (48 ≤ b.toNat) && decide (b.toNat ≤ 57))
def keyOk (s : List UInt8) : Bool := (decide (1 ≤ s.length) && decide (s.length ≤ 20)) && s.all keyCh
def rdgOk (r : Rdg) : Bool := keyOk r.1 && (decide (r.2.2.length ≤ 20) && (r.2.1 || decide (r.2.2 = [])))
def verOk (v : Ver) : Bool := decide (nmOk v.1) && (decide (1 ≤ v.2.2.1 ∧ v.2.2.1 ≤ 1073741824) && (decide (v.2.2.2.length ≤ 6) && ((v.2.1 || decide (v.2.2.2.length = 0)) && v.2.2.2.all rdgOk)))
def verZero : Ver := ((0, 0), false, 0, [])
def findV (n : Nm) : List Ver → Option Ver
  | [] => none
  | v :: l => if v.1 = n then some v else findV n l
def lastAt (l : List Ver) : Int := match l.getLast? with
  | none => 0
  | some v => v.2.2.1
/-- What is told, the error, and the book behind it. -/
def decV (l : List Ver) (x : Ver) : Ver × Int × List Ver :=
  if verOk x = true then match findV x.1 l with
    | some v => (v, 0, l)
    | none => if x.2.2.1 ≤ lastAt l then (verZero, 2, l) else (x, 0, l ++ [x])
  else (verZero, 2, l)
theorem decV_bad {l : List Ver} {x : Ver} (h : verOk x = false) : decV l x = (verZero, 2, l) := by simp [decV, h]
theorem decV_old {l : List Ver} {x v : Ver} (h : verOk x = true) (hf : findV x.1 l = some v) : decV l x = (v, 0, l) := by simp [decV, h, hf]
theorem decV_low {l : List Ver} {x : Ver} (h : verOk x = true) (hf : findV x.1 l = none) (ha : x.2.2.1 ≤ lastAt l) : decV l x = (verZero, 2, l) := by simp [decV, h, hf, ha]
theorem decV_new {l : List Ver} {x : Ver} (h : verOk x = true) (hf : findV x.1 l = none) (ha : ¬ x.2.2.1 ≤ lastAt l) : decV l x = (x, 0, l ++ [x]) := by simp [decV, h, hf, ha]

/-- A book: no name is there twice; all are right; the indexes rise. -/
def BookOk (l : List Ver) : Prop := (∀ v ∈ l, verOk v = true) ∧ l.Pairwise (fun a b => a.2.2.1 < b.2.2.1) ∧ l.Pairwise (fun a b => a.1 ≠ b.1)
theorem bookOk_nil : BookOk [] := ⟨by simp, .nil, .nil⟩
theorem findV_none {n : Nm} {l : List Ver} : findV n l = none ↔ ∀ v ∈ l, v.1 ≠ n := by
  induction l with
  | nil => simp [findV]
  | cons v l ih =>
    unfold findV
    split
    · rename_i h; simp [h]
    · rename_i h; rw [ih]; simp [h]
theorem findV_some {n : Nm} {l : List Ver} {v : Ver} (h : findV n l = some v) : v ∈ l ∧ v.1 = n := by
  induction l with
  | nil => cases h
  | cons u l ih =>
    unfold findV at h
    split at h
    · injection h with h; subst h; rename_i h; exact ⟨by simp, h⟩
    · have := ih h; exact ⟨by simp [this.1], this.2⟩
theorem lastAt_snoc (l : List Ver) (x : Ver) : lastAt (l ++ [x]) = x.2.2.1 := by simp [lastAt]
theorem lastAt_ge {l : List Ver} (h : l.Pairwise (fun a b => a.2.2.1 < b.2.2.1)) : ∀ v ∈ l, v.2.2.1 ≤ lastAt l := by
  intro v hv
  rcases List.eq_nil_or_concat l with rfl | ⟨m, y, rfl⟩
  · cases hv
  · rw [List.concat_eq_append] at *
    rw [lastAt_snoc]
    rcases List.mem_append.1 hv with h1 | h1
    · have := (List.pairwise_append.1 h).2.2 v h1 y (by simp)
      omega
    · simp at h1; subst h1; omega
theorem BookOk.snoc {l : List Ver} {x : Ver} (h : BookOk l) (hx : verOk x = true) (hf : findV x.1 l = none) (ha : ¬ x.2.2.1 ≤ lastAt l) : BookOk (l ++ [x]) := by
  refine ⟨?_, ?_, ?_⟩
  · intro v hv
    rcases List.mem_append.1 hv with h1 | h1
    · exact h.1 v h1
    · simp at h1; subst h1; exact hx
  · refine List.pairwise_append.2 ⟨h.2.1, List.pairwise_singleton _ _, fun a ha' b hb => ?_⟩
    simp at hb; subst hb
    have := lastAt_ge h.2.1 a ha'
    omega
  · refine List.pairwise_append.2 ⟨h.2.2, List.pairwise_singleton _ _, fun a ha' b hb => ?_⟩
    simp at hb; subst hb
    exact findV_none.1 hf a ha'
theorem decV_ok {l : List Ver} (x : Ver) (h : BookOk l) : BookOk (decV l x).2.2 := by
  cases hv : verOk x with
  | false => rw [decV_bad hv]; exact h
  | true =>
    cases hf : findV x.1 l with
    | some v => rw [decV_old hv hf]; exact h
    | none =>
      by_cases ha : x.2.2.1 ≤ lastAt l
      · rw [decV_low hv hf ha]; exact h
      · rw [decV_new hv hf ha]; exact h.snoc hv hf ha
theorem decV_len (l : List Ver) (x : Ver) : (decV l x).2.2.length ≤ l.length + 1 := by
  cases hv : verOk x with
  | false => rw [decV_bad hv]; simp
  | true =>
    cases hf : findV x.1 l with
    | some v => rw [decV_old hv hf]; simp
    | none =>
      by_cases ha : x.2.2.1 ≤ lastAt l
      · rw [decV_low hv hf ha]; simp
      · rw [decV_new hv hf ha]; simp

/-- A read of bytes. -/
def rdRdg (s : Rd) : Rdg × Rd :=
  (((rdRow 20 s).1, (rdFlag (rdRow 20 s).2).1, (rdRow 20 (rdFlag (rdRow 20 s).2).2).1), (rdRow 20 (rdFlag (rdRow 20 s).2).2).2)
def rdRdgs : Nat → Rd → List Rdg × Rd
  | 0, s => ([], s)
  | k + 1, s => ((rdRdgs k s).1 ++ [(rdRdg (rdRdgs k s).2).1], (rdRdg (rdRdgs k s).2).2)
theorem rdRdgs_len (k : Nat) (s : Rd) : (rdRdgs k s).1.length = k := by
  induction k with
  | zero => rfl
  | succ k ih => simp [rdRdgs, ih]
/-- Behind the name, the index and the flag: so many reads. -/
def rdVerN (s : Rd) : (Int × Int × Int × Bool × Int) × Rd :=
  (((rdNum 1073741824 s).1, (rdNum 1073741824 (rdNum 1073741824 s).2).1, (rdNum 1073741824 (rdNum 1073741824 (rdNum 1073741824 s).2).2).1,
    (rdFlag (rdNum 1073741824 (rdNum 1073741824 (rdNum 1073741824 s).2).2).2).1,
    (rdNum 6 (rdFlag (rdNum 1073741824 (rdNum 1073741824 (rdNum 1073741824 s).2).2).2).2).1),
   (rdNum 6 (rdFlag (rdNum 1073741824 (rdNum 1073741824 (rdNum 1073741824 s).2).2).2).2).2)
def rdVer (s : Rd) : Ver × Rd :=
  ((((rdVerN s).1.1, (rdVerN s).1.2.1), (rdVerN s).1.2.2.2.1, (rdVerN s).1.2.2.1, (rdRdgs (rdVerN s).1.2.2.2.2.toNat (rdVerN s).2).1), (rdRdgs (rdVerN s).1.2.2.2.2.toNat (rdVerN s).2).2)
/-- A book's next verdict. -/
def bkStep (st : Option (List Ver × Rd)) : Option (List Ver × Rd) := match st with
  | none => none
  | some (l, s) => if findV (rdVer s).1.1 l = none ∧ (rdVer s).2 ≠ none ∧ (decV l (rdVer s).1).2.1 = 0 then some ((decV l (rdVer s).1).2.2, (rdVer s).2) else none
def bkN : Nat → Option (List Ver × Rd) → Option (List Ver × Rd)
  | 0, st => st
  | k + 1, st => bkStep (bkN k st)
theorem bkN_none {k n : Nat} {st : Option (List Ver × Rd)} (h : bkN k st = none) (hk : k ≤ n) : bkN n st = none := by
  induction n with
  | zero =>
    have : k = 0 := by omega
    subst this; exact h
  | succ n ih =>
    rcases Nat.lt_or_ge k (n + 1) with h1 | h1
    · rw [bkN, ih (by omega)]; rfl
    · have : k = n + 1 := by omega
      subst this; exact h
/-- The book that is read, and what is left, or none. -/
def rdBook (s : Rd) : Option (List Ver × Rd) := match bkN (rdNum 1073741824 s).1.toNat (some ([], (rdNum 1073741824 s).2)) with
  | none => none
  | some (l, t) => if t = none then none else some (l, t)
theorem bkStep_inv {st : Option (List Ver × Rd)} {l : List Ver} {t : Rd} (h : bkStep st = some (l, t)) : ∃ m s, st = some (m, s) ∧ findV (rdVer s).1.1 m = none ∧ (rdVer s).2 ≠ none ∧ (decV m (rdVer s).1).2.1 = 0 ∧ l = (decV m (rdVer s).1).2.2 ∧ t = (rdVer s).2 := by
  unfold bkStep at h
  split at h
  · cases h
  · rename_i m s
    split at h
    · rename_i hc
      injection h with h; injection h with h1 h2
      exact ⟨m, s, rfl, hc.1, hc.2.1, hc.2.2, h1.symm, h2.symm⟩
    · cases h
theorem bkStep_no {l : List Ver} {s : Rd} (h : ¬ (findV (rdVer s).1.1 l = none ∧ (rdVer s).2 ≠ none ∧ (decV l (rdVer s).1).2.1 = 0)) : bkStep (some (l, s)) = none := by
  unfold bkStep; simp only; rw [if_neg h]
theorem bkStep_yes {l : List Ver} {s : Rd} (h : findV (rdVer s).1.1 l = none) (h2 : (rdVer s).2 ≠ none) (h3 : (decV l (rdVer s).1).2.1 = 0) : bkStep (some (l, s)) = some ((decV l (rdVer s).1).2.2, (rdVer s).2) := by
  unfold bkStep; simp only; rw [if_pos ⟨h, h2, h3⟩]
theorem bkN_ok {k : Nat} {s : Rd} {l : List Ver} {t : Rd} (h : bkN k (some ([], s)) = some (l, t)) : BookOk l ∧ l.length ≤ k := by
  induction k generalizing l t with
  | zero =>
    injection h with h; injection h with h1 h2
    subst h1; exact ⟨bookOk_nil, by simp⟩
  | succ k ih =>
    obtain ⟨m, u, h0, _, _, _, rfl, rfl⟩ := bkStep_inv h
    have h1 := ih h0
    exact ⟨decV_ok _ h1.1, by have := decV_len m (rdVer u).1; omega⟩

/-- As bytes. -/
def flagB (b : Bool) : List UInt8 := [if b then 1 else 0]
def rowB (s : List UInt8) : List UInt8 := enc s.length ++ s
def rdgB (r : Rdg) : List UInt8 := rowB r.1 ++ (flagB r.2.1 ++ rowB r.2.2)
def rdgsB (l : List Rdg) : List UInt8 := (l.map rdgB).flatten
def verB (v : Ver) : List UInt8 := encAll [v.1.1, v.1.2, v.2.2.1] ++ (flagB v.2.1 ++ (enc v.2.2.2.length ++ rdgsB v.2.2.2))
def versB (l : List Ver) : List UInt8 := (l.map verB).flatten
def bookB (l : List Ver) : List UInt8 := enc l.length ++ versB l
/-- Those of a flag. -/
def allV (cs : List Bool) (l : List Ver) : List Ver := l.filter fun v => decide (cs.length = 0) || cs.contains v.2.1
end Go.Proofs.YtfglibkffcogcaaGreat
