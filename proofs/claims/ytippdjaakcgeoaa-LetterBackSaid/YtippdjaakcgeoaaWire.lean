/- The wire in plain Lean: numbers as bytes, and bytes read as numbers, flags, rows. No program in sight. -/
import Derived.Test.YtippdjaakcgeoaaMem
namespace Go.Proofs.Ytippdjaakcgeoaa
open Go Go.RowKit

/-- The greatest number: 2^62 - 1. -/
def topN : Nat := 4611686018427387903

/-- The bytes of a number, by fuel. -/
def encF : Nat → Nat → List UInt8
  | 0, _ => []
  | f + 1, n => if n < 128 then [UInt8.ofNat n] else UInt8.ofNat (n % 128 + 128) :: encF f (n / 128)
def enc (n : Nat) : List UInt8 := encF 9 n

theorem encF_small (f n : Nat) (h : n < 128) : encF (f + 1) n = [UInt8.ofNat n] := by simp [encF, h]
theorem encF_big (f n : Nat) (h : 128 ≤ n) : encF (f + 1) n = UInt8.ofNat (n % 128 + 128) :: encF f (n / 128) := by
  simp [encF, Nat.not_lt.2 h]
/-- More fuel than is wanted turns nothing. -/
theorem encF_more : ∀ (f g n : Nat), 0 < f → n < 128 ^ f → encF (f + g) n = encF f n := by
  intro f
  induction f with
  | zero => intro g n h; omega
  | succ f ih =>
    intro g n _ hn
    have e : f + 1 + g = (f + g) + 1 := by omega
    rw [e]
    by_cases h : n < 128
    · rw [encF_small _ _ h, encF_small _ _ h]
    · rw [encF_big _ _ (by omega), encF_big _ _ (by omega)]
      have hf : 0 < f := by
        rcases Nat.eq_zero_or_pos f with h0 | h0
        · subst h0; simp at hn; omega
        · exact h0
      rw [ih g (n / 128) hf (by rw [Nat.div_lt_iff_lt_mul (by omega)]; rw [Nat.pow_succ] at hn; exact hn)]
theorem encF_len : ∀ (f n : Nat), (encF f n).length ≤ f := by
  intro f
  induction f with
  | zero => intro n; simp [encF]
  | succ f ih =>
    intro n
    by_cases h : n < 128
    · rw [encF_small _ _ h]; simp
    · rw [encF_big _ _ (by omega)]; have := ih (n / 128); simp; omega
theorem enc_big (n : Nat) (h : 128 ≤ n) (hn : n ≤ topN) : enc n = UInt8.ofNat (n % 128 + 128) :: enc (n / 128) := by
  unfold enc
  rw [encF_big _ _ h, encF_more 8 1 (n / 128) (by omega) (by unfold topN at hn; omega)]
theorem enc_small (n : Nat) (h : n < 128) : enc n = [UInt8.ofNat n] := encF_small 8 n h
theorem enc_len (n : Nat) : (enc n).length ≤ 9 := encF_len 9 n
theorem enc_ne (n : Nat) : enc n ≠ [] := by
  unfold enc
  by_cases h : n < 128
  · rw [encF_small _ _ h]; simp
  · rw [encF_big _ _ (by omega)]; simp

/-- The number that bytes begin with, and what is behind it; the flag: is it the first byte? -/
def decF : Nat → Bool → List UInt8 → Option (Nat × List UInt8)
  | 0, _, _ => none
  | _ + 1, _, [] => none
  | f + 1, first, b :: r =>
    if b.toNat < 128 then (if first = false ∧ b.toNat = 0 then none else some (b.toNat, r))
    else match decF f false r with
      | none => none
      | some (n, s) => some (b.toNat - 128 + 128 * n, s)

/-- A reader: what is left, or none where it has failed. -/
abbrev Rd := Option (List UInt8)
def decN (bs : List UInt8) : Option (Nat × List UInt8) :=
  match decF 9 true bs with
  | none => none
  | some (n, r) => if topN < n then none else some (n, r)
def rdNum (most : Int) : Rd → Int × Rd
  | none => (0, none)
  | some bs => match decN bs with
    | none => (0, none)
    | some (n, r) => if most < (n : Int) then (0, none) else ((n : Int), some r)
theorem rdNum_none {bs : List UInt8} (most : Int) (h : decN bs = none) : rdNum most (some bs) = (0, none) := by simp [rdNum, h]
theorem rdNum_big {bs r : List UInt8} {n : Nat} (most : Int) (h : decN bs = some (n, r)) (hm : most < (n : Int)) : rdNum most (some bs) = (0, none) := by simp [rdNum, h, hm]
theorem rdNum_ok {bs r : List UInt8} {n : Nat} (most : Int) (h : decN bs = some (n, r)) (hm : ¬ most < (n : Int)) : rdNum most (some bs) = ((n : Int), some r) := by simp [rdNum, h, hm]
def rdFlag : Rd → Bool × Rd
  | none => (false, none)
  | some [] => (false, none)
  | some (b :: r) => if 1 < b.toNat then (false, none) else (((b.toNat : Int) == 1), some r)
def rdRow (most : Int) (s : Rd) : List UInt8 × Rd :=
  match rdNum most s with
  | (_, none) => ([], none)
  | (n, some r) => if r.length < n.toNat then ([], none) else (r.take n.toNat, some (r.drop n.toNat))
theorem rdRow_none {s : Rd} {most n : Int} (h : rdNum most s = (n, none)) : rdRow most s = ([], none) := by simp [rdRow, h]
theorem rdRow_some {s : Rd} {most : Int} {m : Nat} {r : List UInt8} (h : rdNum most s = ((m : Int), some r)) : rdRow most s = if r.length < m then ([], none) else (r.take m, some (r.drop m)) := by simp [rdRow, h]
def rdLeft : Rd → Nat
  | none => 0
  | some bs => bs.length
def rdEnd : Rd → Int
  | none => 4
  | some bs => if bs = [] then 0 else 4

/-- A writer: is all right; the bytes. -/
structure Wr where
  ok : Bool
  bs : List UInt8
def wrNum (n : Int) (s : Wr) : Wr := if n < 0 ∨ (topN : Int) < n then { s with ok := false } else { s with bs := s.bs ++ enc n.toNat }
def wrNums (l : List Int) (s : Wr) : Wr := l.foldl (fun s n => wrNum n s) s
def wrFlag (b : Bool) (s : Wr) : Wr := { s with bs := s.bs ++ [if b then 1 else 0] }
def wrFlags (l : List Bool) (s : Wr) : Wr := l.foldl (fun s n => wrFlag n s) s
def wrRow (b : List UInt8) (s : Wr) : Wr := { s with bs := s.bs ++ (enc b.length ++ b) }
def wrRows (l : List (List UInt8)) (s : Wr) : Wr := l.foldl (fun s n => wrRow n s) s

theorem wrNums_succ (l : List Int) (k : Nat) (h : k < l.length) (s : Wr) : wrNums (l.take (k + 1)) s = wrNum l[k] (wrNums (l.take k) s) := foldl_take_succ _ l k h s
theorem wrFlags_succ (l : List Bool) (k : Nat) (h : k < l.length) (s : Wr) : wrFlags (l.take (k + 1)) s = wrFlag l[k] (wrFlags (l.take k) s) := foldl_take_succ _ l k h s
theorem wrRows_succ (l : List (List UInt8)) (k : Nat) (h : k < l.length) (s : Wr) : wrRows (l.take (k + 1)) s = wrRow l[k] (wrRows (l.take k) s) := foldl_take_succ _ l k h s
theorem wrNums_len (l : List Int) (s : Wr) : (wrNums l s).bs.length ≤ s.bs.length + 9 * l.length := by
  unfold wrNums
  induction l generalizing s with
  | nil => simp
  | cons n l ih =>
    have h := ih (wrNum n s)
    have h1 : (wrNum n s).bs.length ≤ s.bs.length + 9 := by
      unfold wrNum; split
      · simp
      · have := enc_len n.toNat; simp; omega
    simp only [List.foldl_cons, List.length_cons]; omega
theorem wrFlags_len (l : List Bool) (s : Wr) : (wrFlags l s).bs.length = s.bs.length + l.length := by
  unfold wrFlags
  induction l generalizing s with
  | nil => simp
  | cons n l ih =>
    have h := ih (wrFlag n s)
    simp only [List.foldl_cons, List.length_cons]
    rw [h]; simp [wrFlag]; omega
/-- How many bytes rows have. -/
def rowsLen (l : List (List UInt8)) : Nat := (l.map List.length).sum
theorem wrRows_len (l : List (List UInt8)) (s : Wr) : (wrRows l s).bs.length ≤ s.bs.length + 9 * l.length + rowsLen l := by
  unfold wrRows rowsLen
  induction l generalizing s with
  | nil => simp
  | cons n l ih =>
    have h := ih (wrRow n s)
    have h1 : (wrRow n s).bs.length ≤ s.bs.length + 9 + n.length := by
      have := enc_len n.length; simp [wrRow]; omega
    simp only [List.foldl_cons, List.length_cons, List.map_cons, List.sum_cons]; omega
theorem rowsLen_take (l : List (List UInt8)) (k : Nat) : rowsLen (l.take k) ≤ rowsLen l := by
  unfold rowsLen
  induction l generalizing k with
  | nil => simp
  | cons a l ih =>
    cases k with
    | zero => simp
    | succ k => have := ih k; simp only [List.take_succ_cons, List.map_cons, List.sum_cons]; omega
theorem rowsLen_get (l : List (List UInt8)) (k : Nat) (h : k < l.length) : l[k].length + rowsLen (l.take k) ≤ rowsLen l := by
  unfold rowsLen
  induction l generalizing k with
  | nil => simp at h
  | cons a l ih =>
    cases k with
    | zero => simp
    | succ k => have := ih k (by simpa using h); simp only [List.take_succ_cons, List.map_cons, List.sum_cons, List.getElem_cons_succ]; omega

/-- A byte as a value. -/
abbrev B8 (b : UInt8) : Value := .int .u8 (b.toNat : Int)
theorem B8_oneCell (bs : List UInt8) : ∀ u ∈ bs.map B8, u.oneCell' = true := by
  intro u hu
  obtain ⟨_, _, rfl⟩ := List.mem_map.1 hu
  rfl

theorem orByte (k : Nat) : bits BinOp.or IntKind.u8 ((k : Int) % 256) 128 = ((UInt8.ofNat (k % 128 + 128)).toNat : Int) := by
  have h : ∀ m : Fin 256, bits BinOp.or IntKind.u8 ((m.val : Nat) : Int) 128 = (((m.val % 128 + 128 : Nat)) : Int) := by decide +kernel
  have e : (UInt8.ofNat (k % 128 + 128)).toNat = k % 128 + 128 := by rw [UInt8.toNat_ofNat']; omega
  have h1 := h ⟨k % 256, Nat.mod_lt _ (by omega)⟩
  simp only at h1
  have e2 : ((k : Int) % 256) = ((k % 256 : Nat) : Int) := by omega
  rw [e, e2, h1]
  have : k % 256 % 128 = k % 128 := by omega
  rw [this]
theorem lowByte (k : Nat) (h : k < 128) : ((k : Int) % 256) = ((UInt8.ofNat k).toNat : Int) := by
  have e : (UInt8.ofNat k).toNat = k := by rw [UInt8.toNat_ofNat']; omega
  rw [e]; omega

theorem andByte (b : UInt8) : bits BinOp.and IntKind.u8 (b.toNat : Int) 127 = ((b.toNat % 128 : Nat) : Int) := by
  have h : ∀ m : Fin 256, bits BinOp.and IntKind.u8 ((m.val : Nat) : Int) 127 = ((m.val % 128 : Nat) : Int) := by decide +kernel
  have h1 := h ⟨b.toNat, b.toNat_lt⟩
  simpa using h1
theorem ofInt_i64_nat (a : Nat) (ha : a < 9223372036854775808) : (BitVec.ofInt 64 (a : Int)).toNat = a := by
  rw [BitVec.ofInt_natCast, BitVec.toNat_ofNat]; exact Nat.mod_eq_of_lt (by omega)
theorem orAdd (k acc d : Nat) (hk : k < 9) (ha : acc < 128 ^ k) (hd : d < 128) :
    bits BinOp.or IntKind.i64 (acc : Int) ((d : Int) * 2 ^ (7 * k)) = ((acc + 128 ^ k * d : Nat) : Int) := by
  have e128 : (128 : Nat) ^ k = 2 ^ (7 * k) := by rw [show (128 : Nat) = 2 ^ 7 from rfl, ← Nat.pow_mul]
  have hb : (128 : Nat) ^ k ≤ 128 ^ 8 := Nat.pow_le_pow_right (by omega) (by omega)
  have hb2 : 128 ^ k * d ≤ 128 ^ k * 127 := Nat.mul_le_mul_left _ (by omega)
  have hor : acc ||| (2 ^ (7 * k) * d) = acc + 2 ^ (7 * k) * d := by
    rw [Nat.or_comm, Nat.add_comm, Nat.two_pow_add_eq_or_of_lt (by rw [← e128]; exact ha)]
  have ed : ((d : Int) * 2 ^ (7 * k)) = ((2 ^ (7 * k) * d : Nat) : Int) := by
    rw [Int.natCast_mul, Int.natCast_pow, Int.mul_comm]; rfl
  rw [ed]
  have h8 : (128 : Nat) ^ 8 = 72057594037927936 := by decide
  show IntKind.i64.wrap ((BitVec.ofInt 64 (acc : Int) ||| BitVec.ofInt 64 ((2 ^ (7 * k) * d : Nat) : Int)).toNat : Int) = _
  rw [BitVec.toNat_or, ofInt_i64_nat acc (by omega), ofInt_i64_nat _ (by rw [← e128]; omega), hor, IntKind.wrap_i64, ← e128]
  omega
theorem numByte (k acc : Nat) (b : UInt8) (hk : k < 9) (ha : acc < 128 ^ k) :
    bits BinOp.or IntKind.i64 (acc : Int) (wrap64 (wrap64 (bits BinOp.and IntKind.u8 (b.toNat : Int) 127) * 2 ^ (7 * k))) = ((acc + 128 ^ k * (b.toNat % 128) : Nat) : Int) := by
  have e128 : (128 : Nat) ^ k = 2 ^ (7 * k) := by rw [show (128 : Nat) = 2 ^ 7 from rfl, ← Nat.pow_mul]
  have hb : (128 : Nat) ^ k ≤ 128 ^ 8 := Nat.pow_le_pow_right (by omega) (by omega)
  have h8 : (128 : Nat) ^ 8 = 72057594037927936 := by decide
  have hb2 : 128 ^ k * (b.toNat % 128) ≤ 128 ^ k * 127 := Nat.mul_le_mul_left _ (by omega)
  have ed : (((b.toNat % 128 : Nat) : Int) * 2 ^ (7 * k)) = ((2 ^ (7 * k) * (b.toNat % 128) : Nat) : Int) := by
    rw [Int.natCast_mul, Int.natCast_pow, Int.mul_comm]; rfl
  rw [andByte, show wrap64 ((b.toNat % 128 : Nat) : Int) = ((b.toNat % 128 : Nat) : Int) from IntWalk.wrap64_in _ (by omega), IntWalk.wrap64_in _ (by rw [ed, ← e128]; omega)]
  exact orAdd k acc _ hk ha (by omega)

/-- Reading on behind some bytes of a number. -/
theorem decF_step (f : Nat) (first : Bool) (b : UInt8) (r : List UInt8) (h : 128 ≤ b.toNat) :
    decF (f + 1) first (b :: r) = (match decF f false r with | none => none | some (n, s) => some (b.toNat - 128 + 128 * n, s)) := by
  simp [decF, Nat.not_lt.2 h]
theorem decF_last (f : Nat) (first : Bool) (b : UInt8) (r : List UInt8) (h : b.toNat < 128) :
    decF (f + 1) first (b :: r) = if first = false ∧ b.toNat = 0 then none else some (b.toNat, r) := by
  simp [decF, h]
theorem decF_nil (f : Nat) (first : Bool) : decF f first [] = none := by cases f <;> rfl
theorem decF_bound : ∀ (f : Nat) (first : Bool) (bs : List UInt8) (n : Nat) (r : List UInt8), decF f first bs = some (n, r) → n < 128 ^ f := by
  intro f
  induction f with
  | zero => intro _ _ _ _ h; simp [decF] at h
  | succ f ih =>
    intro first bs n r h
    cases bs with
    | nil => simp [decF] at h
    | cons b s =>
      by_cases hb : b.toNat < 128
      · rw [decF_last _ _ _ _ hb] at h
        split at h
        · cases h
        · injection h with h; injection h with h1 h2
          have : 0 < 128 ^ f := Nat.pow_pos (by omega)
          rw [Nat.pow_succ]; omega
      · rw [decF_step _ _ _ _ (by omega)] at h
        cases hd : decF f false s with
        | none => rw [hd] at h; cases h
        | some q =>
          obtain ⟨m, t⟩ := q
          rw [hd] at h
          injection h with h; injection h with h1 h2
          have hm := ih false s m t hd
          have hb' : b.toNat < 256 := b.toNat_lt
          rw [Nat.pow_succ]; omega

/-- A number, k bytes of which were read, which were acc. -/
structure NumAt (bs : List UInt8) (k acc : Nat) (rest : List UInt8) : Prop where
  le : k ≤ 9
  lt : acc < 128 ^ k
  is : decF 9 true bs = (match decF (9 - k) (decide (k = 0)) rest with | none => none | some (m, r) => some (acc + 128 ^ k * m, r))
theorem NumAt.start (bs : List UInt8) : NumAt bs 0 0 bs := by
  refine ⟨by omega, by simp, ?_⟩
  simp only [Nat.sub_zero, decide_true, Nat.pow_zero, Nat.one_mul, Nat.zero_add]
  cases decF 9 true bs <;> rfl
theorem NumAt.next {bs r : List UInt8} {k acc : Nat} {b : UInt8} (h : NumAt bs k acc (b :: r)) (hk : k < 9) (hb : 128 ≤ b.toNat) : NumAt bs (k + 1) (acc + 128 ^ k * (b.toNat - 128)) r := by
  have hb' : b.toNat < 256 := b.toNat_lt
  refine ⟨hk, ?_, ?_⟩
  · have h1 := h.lt
    have : 128 ^ k * (b.toNat - 128) ≤ 128 ^ k * 127 := Nat.mul_le_mul_left _ (by omega)
    rw [Nat.pow_succ]; omega
  · rw [h.is]
    have e : 9 - k = (9 - (k + 1)) + 1 := by omega
    rw [e, decF_step _ _ _ _ hb]
    have e2 : decide (k + 1 = 0) = false := by simp
    rw [e2]
    cases decF (9 - (k + 1)) false r with
    | none => rfl
    | some q =>
      obtain ⟨m, s⟩ := q
      simp only [Option.some.injEq, Prod.mk.injEq, and_true]
      rw [Nat.pow_succ, Nat.mul_add, Nat.mul_assoc, Nat.add_assoc]
theorem NumAt.none_ {bs : List UInt8} {k acc : Nat} (h : NumAt bs k acc []) : decN bs = none := by
  unfold decN; rw [h.is, decF_nil]
theorem NumAt.far {bs r : List UInt8} {acc : Nat} (h : NumAt bs 9 acc r) : decN bs = none := by
  unfold decN; rw [h.is]; rfl
theorem NumAt.last {bs r : List UInt8} {k acc : Nat} {b : UInt8} (h : NumAt bs k acc (b :: r)) (hk : k < 9) (hb : b.toNat < 128) :
    decN bs = if 0 < k ∧ b.toNat = 0 then none else if topN < acc + 128 ^ k * b.toNat then none else some (acc + 128 ^ k * b.toNat, r) := by
  unfold decN
  rw [h.is]
  have e : 9 - k = (9 - (k + 1)) + 1 := by omega
  rw [e, decF_last _ _ _ _ hb]
  by_cases h0 : 0 < k ∧ b.toNat = 0
  · rw [if_pos (show decide (k = 0) = false ∧ b.toNat = 0 from ⟨by simp; omega, h0.2⟩), if_pos h0]
  · rw [if_neg (show ¬ (decide (k = 0) = false ∧ b.toNat = 0) from fun h => h0 ⟨by have := h.1; simp at this; omega, h.2⟩), if_neg h0]

/-- What was read is what the number is as bytes, and the rest. -/
theorem decF_enc : ∀ (f : Nat) (first : Bool) (bs : List UInt8) (n : Nat) (r : List UInt8), decF f first bs = some (n, r) → (first = true ∨ 0 < n) ∧ bs = encF f n ++ r := by
  intro f
  induction f with
  | zero => intro _ _ _ _ h; simp [decF] at h
  | succ f ih =>
    intro first bs n r h
    cases bs with
    | nil => simp [decF] at h
    | cons b s =>
      by_cases hb : b.toNat < 128
      · rw [decF_last _ _ _ _ hb] at h
        split at h
        · cases h
        · rename_i hne
          injection h with h; injection h with h1 h2
          subst h1; subst h2
          rw [encF_small _ _ hb]
          refine ⟨?_, by simp⟩
          cases first <;> simp_all <;> omega
      · rw [decF_step _ _ _ _ (by omega)] at h
        cases hd : decF f false s with
        | none => rw [hd] at h; cases h
        | some q =>
          obtain ⟨m, t⟩ := q
          rw [hd] at h
          injection h with h; injection h with h1 h2
          subst h2
          obtain ⟨hm, hs⟩ := ih false s m t hd
          have hm' : 0 < m := by simpa using hm
          have hb' : b.toNat < 256 := b.toNat_lt
          have hn : 128 ≤ n := by omega
          have e1 : n % 128 + 128 = b.toNat := by omega
          have e2 : n / 128 = m := by omega
          rw [encF_big _ _ hn, e1, e2]
          exact ⟨.inr (by omega), by simp [hs]⟩
/-- A number as bytes is read as it was. -/
theorem decF_of_enc : ∀ (f : Nat) (first : Bool) (n : Nat) (r : List UInt8), n < 128 ^ f → 0 < f → (first = true ∨ 0 < n) → decF f first (encF f n ++ r) = some (n, r) := by
  intro f
  induction f with
  | zero => intro _ n _ h h0; omega
  | succ f ih =>
    intro first n r hn _ hf
    by_cases h : n < 128
    · rw [encF_small _ _ h, List.singleton_append]
      have e : (UInt8.ofNat n).toNat = n := by rw [UInt8.toNat_ofNat']; omega
      rw [decF_last _ _ _ _ (by omega), e, if_neg]
      rcases hf with hf | hf
      · simp [hf]
      · omega
    · rw [encF_big _ _ (by omega), List.cons_append]
      have e : (UInt8.ofNat (n % 128 + 128)).toNat = n % 128 + 128 := by rw [UInt8.toNat_ofNat']; omega
      rw [decF_step _ _ _ _ (by omega), e]
      have h0 : 0 < f := by
        rcases Nat.eq_zero_or_pos f with h0 | h0
        · subst h0; simp at hn; omega
        · exact h0
      rw [ih false (n / 128) r (by rw [Nat.div_lt_iff_lt_mul (by omega)]; rw [Nat.pow_succ] at hn; exact hn) h0 (.inr (by omega))]
      simp only [Option.some.injEq, Prod.mk.injEq, and_true]
      omega
theorem decN_enc {bs r : List UInt8} {n : Nat} (h : decN bs = some (n, r)) : n ≤ topN ∧ bs = enc n ++ r := by
  unfold decN at h
  split at h
  · cases h
  · rename_i m s hd
    split at h
    · cases h
    · rename_i ht
      injection h with h; injection h with h1 h2
      subst h1; subst h2
      exact ⟨by omega, (decF_enc 9 true bs m s hd).2⟩
theorem decN_of_enc (n : Nat) (r : List UInt8) (h : n ≤ topN) : decN (enc n ++ r) = some (n, r) := by
  unfold decN enc
  rw [decF_of_enc 9 true n r (by unfold topN at h; omega) (by omega) (.inl rfl)]
  simp only
  rw [if_neg (by omega)]
/-- Nothing is read of less than a number's bytes. -/
theorem decF_less : ∀ (f : Nat) (first : Bool) (n k : Nat), k < (encF f n).length → decF f first ((encF f n).take k) = none := by
  intro f
  induction f with
  | zero => intro _ n k h; simp [encF] at h
  | succ f ih =>
    intro first n k hk
    by_cases h : n < 128
    · rw [encF_small _ _ h] at hk ⊢
      have : k = 0 := by simp at hk; omega
      subst this
      simp [decF_nil]
    · rw [encF_big _ _ (by omega)] at hk ⊢
      cases k with
      | zero => simp [decF_nil]
      | succ k =>
        have e : (UInt8.ofNat (n % 128 + 128)).toNat = n % 128 + 128 := by rw [UInt8.toNat_ofNat']; omega
        rw [List.take_succ_cons, decF_step _ _ _ _ (by omega), ih false (n / 128) k (by simpa using hk)]

theorem rdNum_cases (most : Int) (s : Rd) : rdNum most s = (0, none) ∨ ∃ (bs : List UInt8) (m : Nat) (r : List UInt8), s = some bs ∧ rdNum most s = ((m : Int), some r) ∧ m ≤ topN ∧ (m : Int) ≤ most ∧ bs = enc m ++ r := by
  cases s with
  | none => exact .inl rfl
  | some bs =>
    cases hd : decN bs with
    | none => exact .inl (rdNum_none most hd)
    | some q =>
      obtain ⟨m, r⟩ := q
      by_cases hm : most < (m : Int)
      · exact .inl (rdNum_big most hd hm)
      · obtain ⟨h1, h2⟩ := decN_enc hd
        exact .inr ⟨bs, m, r, rfl, rdNum_ok most hd hm, h1, by omega, h2⟩

/-- Right numbers as bytes, one behind the other. -/
def encAll (l : List Int) : List UInt8 := (l.map fun n => enc n.toNat).flatten
theorem encAll_snoc (l : List Int) (n : Int) : encAll (l ++ [n]) = encAll l ++ enc n.toNat := by simp [encAll]
theorem encAll_len (l : List Int) : l.length ≤ (encAll l).length := by
  unfold encAll
  induction l with
  | nil => simp
  | cons n l ih =>
    have : 0 < (enc n.toNat).length := by
      have := enc_ne n.toNat
      cases h : enc n.toNat with
      | nil => exact (this h).elim
      | cons _ _ => simp
    simp only [List.map_cons, List.flatten_cons, List.length_cons, List.length_append]
    omega
def Right (n : Int) : Prop := 0 ≤ n ∧ n ≤ (topN : Int)
theorem wrNums_right (l : List Int) (s : Wr) (h : ∀ n ∈ l, Right n) : wrNums l s = ⟨s.ok, s.bs ++ encAll l⟩ := by
  unfold wrNums
  induction l generalizing s with
  | nil => simp [encAll]
  | cons n l ih =>
    have hn := h n (by simp)
    have hs : wrNum n s = ⟨s.ok, s.bs ++ enc n.toNat⟩ := by
      unfold wrNum
      rw [if_neg (by unfold Right at hn; omega)]
    rw [List.foldl_cons, hs, ih _ (fun m hm => h m (by simp [hm]))]
    simp [encAll]

end Go.Proofs.Ytippdjaakcgeoaa
