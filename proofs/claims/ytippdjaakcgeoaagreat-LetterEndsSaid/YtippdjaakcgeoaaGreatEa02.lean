/- Lemmas of the walks: LeP, MemB, LeM, WrA. (Laid together by shake.py.) -/
import Derived.StillTailTactics
import Derived.Laws.Rows
import Derived.Deep.QuietTactic
import Derived.BigQuiet
import Derived.Test.YtippdjaakcgeoaaGreatProg
import Derived.Test.YtippdjaakcgeoaaGreatEa01
set_option linter.unusedVariables false
set_option linter.unusedSimpArgs false
set_option maxRecDepth 100000
set_option maxHeartbeats 16000000
namespace Go.Proofs.YtippdjaakcgeoaaGreat
open Go Go.RowKit
theorem zc4 (m : Int) (n : Nat) (r : List UInt8) (h : (n : Int) ≤ m) (ht : n ≤ topN) : za1 m (some (enc n ++ r)) = ((n : Int), some r) := zf3 m (ziR n r ht) (by omega)
theorem zhY (m : Int) (s r : List UInt8) (h : (s.length : Int) ≤ m) (ht : s.length ≤ topN) : zb1 m (some (rowB s ++ r)) = (s, some r) := by
 unfold rowB
 rw [List.append_assoc, zd0 (zc4 m s.length (s ++ r) h ht), if_neg (by simp), List.take_left, List.drop_left]
theorem zkM (b : Bool) (r : List UInt8) : zaK (some (zcl b ++ r)) = (b, some r) := by cases b <;> rfl
theorem zc0 {m : Int} {s : Rd} {n : Int} {r : List UInt8} (h : za1 m s = (n, some r)) : s = some (enc n.toNat ++ r) ∧ 0 ≤ n ∧ n ≤ m ∧ n ≤ (topN : Int) := by
 rcases zbO m s with h1 | ⟨bs, k, r', rfl, h1, h2, h3, h4⟩
 ·rw [h1] at h; cases h
 ·rw [h1] at h
  injection h with e1 e2
  injection e2 with e2
  subst e1; subst e2
  exact ⟨by rw [h4, Int.toNat_natCast], by omega, h3, by omega⟩
theorem zjQ {s : Rd} {b : Bool} {r : List UInt8} (h : zaK s = (b, some r)) : s = some (zcl b ++ r) := by
 unfold zaK at h
 split at h
 ·cases h
 ·cases h
 ·rename_i c t
  split at h
  ·cases h
  ·rename_i hc
   injection h with e1 e2
   injection e2 with e2
   subst e1; subst e2
   have h2 : c = 0 ∨ c = 1 := by
    have h3 : c.toNat = 0 ∨ c.toNat = 1 := by omega
    rcases h3 with h3 | h3
    ·exact .inl (UInt8.toNat_inj.1 (by simpa using h3))
    ·exact .inr (UInt8.toNat_inj.1 (by simpa using h3))
   rcases h2 with rfl | rfl <;> rfl
theorem zhm {m : Int} {s : Rd} {x r : List UInt8} (h : zb1 m s = (x, some r)) : s = some (rowB x ++ r) ∧ (x.length : Int) ≤ m := by
 rcases zbO m s with h1 | ⟨bs, k, r', rfl, h1, h2, h3, h4⟩
 ·rw [zdt h1] at h; cases h
 ·rw [zd0 h1] at h
  split at h
  ·cases h
  ·rename_i hk
   injection h with e1 e2
   injection e2 with e2
   have hl : x.length = k := by rw [← e1, List.length_take]; omega
   refine ⟨?_, by omega⟩
   rw [h4]
   congr 1
   unfold rowB
   rw [hl, List.append_assoc, ← e1, ← e2, List.take_append_drop]
theorem zc6 {m : Int} {s : Rd} {r : List UInt8} (h : (za1 m s).2 = some r) : za1 m s = ((za1 m s).1, some r) := by rw [← h]
theorem zkh {s : Rd} {r : List UInt8} (h : (zaK s).2 = some r) : zaK s = ((zaK s).1, some r) := by rw [← h]
theorem zhb {m : Int} {s : Rd} {r : List UInt8} (h : (zb1 m s).2 = some r) : zb1 m s = ((zb1 m s).1, some r) := by rw [← h]
theorem zgA : zah [] = [] := rfl
theorem zd7 (l : List Int) (n : Int) : zah (n :: l) = enc n.toNat ++ zah l := by simp [zah]
theorem zeg (m : Int) (k : Nat) (s : Rd) : (rdNs m k s).1.length = k := by
 induction k with
 | zero => rfl
 | succ k ih => simp [rdNs, ih]
theorem zlL {m : Int} {k : Nat} {s : Rd} {r : List UInt8} (h : (rdNs m k s).2 = some r) : s = some (zah (rdNs m k s).1 ++ r) ∧ ∀ n ∈ (rdNs m k s).1, 0 ≤ n ∧ n ≤ m := by
 induction k generalizing r with
 | zero =>
  have h0 : s = some r := h
  exact ⟨by rw [h0]; rfl, by intro n hn; cases hn⟩
 | succ k ih =>
  have h1 := zc0 (zc6 (m := m) (s := (rdNs m k s).2) h)
  obtain ⟨h2, h3⟩ := ih h1.1
  refine ⟨h2.trans ?_, fun n hn => ?_⟩
  ·congr 1
   show _ = zah ((rdNs m k s).1 ++ [(za1 m (rdNs m k s).2).1]) ++ r
   rw [zfM, List.append_assoc]
  ·have hn : n ∈ (rdNs m k s).1 ++ [(za1 m (rdNs m k s).2).1] := hn
   rcases List.mem_append.1 hn with h | h
   ·exact h3 n h
   ·rw [List.mem_singleton.1 h]; exact ⟨h1.2.1, h1.2.2.1⟩
theorem zmn (m : Int) (l : List Int) (h : ∀ n ∈ l, 0 ≤ n ∧ n ≤ m) (hm : m ≤ topN) (r : List UInt8) (k : Nat) (hk : k ≤ l.length) : rdNs m k (some (zah l ++ r)) = (l.take k, some (zah (l.drop k) ++ r)) := by
 induction k with
 | zero => rfl
 | succ k ih =>
  have hlt : k < l.length := hk
  obtain ⟨h1, h2⟩ := h _ (List.getElem_mem hlt)
  have e : zah (l.drop k) ++ r = enc l[k].toNat ++ (zah (l.drop (k + 1)) ++ r) := by
   rw [List.drop_eq_getElem_cons hlt, zd7, List.append_assoc]
  rw [rdNs, ih (by omega), e]
  simp only
  rw [zc4 _ _ _ (by omega) (by omega), List.take_succ_eq_append_getElem hlt]
  simp only [Int.toNat_of_nonneg h1]
theorem zdN {s : Rd} {r : List UInt8} (h : (zaA s).2 = some r) : s = some (zbe (zaA s).1 ++ r) ∧ (zaA s).1.length ≤ 5 := by
 have h1 := zlL (m := 5) (k := (za1 5 s).1.toNat) (s := (za1 5 s).2) h
 have h2 := zc0 (zc6 h1.1)
 have e : (zaA s).1.length = (za1 5 s).1.toNat := zeg _ _ _
 refine ⟨h2.1.trans ?_, by omega⟩
 congr 1
 unfold zbe
 rw [e, List.append_assoc]
 rfl
theorem ze0 (l : List Int) (hl : l.length ≤ 5) (h : ∀ n ∈ l, 0 ≤ n ∧ n ≤ 5) (r : List UInt8) : zaA (some (zbe l ++ r)) = (l, some r) := by
 unfold zaA zbe
 rw [List.append_assoc, zc4 _ _ _ (by omega) (by unfold topN; omega)]
 simp only [Int.toNat_natCast]
 rw [zmn 5 l h (by unfold topN; omega) r _ (Nat.le_refl _), List.take_length, List.drop_length]
 rfl
theorem ze2 {l : List Int} (h : zaq l = true) {i : Nat} (hi : i < l.length) : (1 ≤ l.getD i 0 ∧ l.getD i 0 ≤ 5) ∧ (i = 0 ∨ l.getD (i - 1) 0 < l.getD i 0) := by
 unfold zaq at h
 have h1 := List.all_eq_true.1 h i (List.mem_range.2 hi)
 unfold ndAt at h1
 simpa only [Bool.and_eq_true, Bool.or_eq_true, decide_eq_true_eq] using h1
theorem zjx {l : List Int} (h : zaq l = true) : ∀ i, i < l.length → (i : Int) + 1 ≤ l.getD i 0 := by
 intro i
 induction i with
 | zero => intro hi; have := (ze2 h hi).1; omega
 | succ i ih =>
  intro hi
  have h1 := ih (by omega)
  have h2 := (ze2 h hi).2
  rcases h2 with h2 | h2
  ·omega
  ·have e : i + 1 - 1 = i := by omega
   rw [e] at h2
   push_cast
   omega
theorem zbq {l : List Int} (h : zaq l = true) : l.length ≤ 5 := by
 rcases Nat.lt_or_ge 5 l.length with hlt | hge
 ·have h1 := zjx h 5 hlt
  have h2 := (ze2 h hlt).1
  omega
 ·exact hge
theorem zda {l : List Int} (h : zaq l = true) : ∀ n ∈ l, 0 ≤ n ∧ n ≤ 5 := by
 intro n hn
 obtain ⟨i, hi, rfl⟩ := List.mem_iff_getElem.1 hn
 have := (ze2 h hi).1
 rw [List.getD_eq_getElem?_getD, List.getElem?_eq_getElem hi] at this
 simp only [Option.getD_some] at this
 omega
theorem zdO {c : Cfg} (h : zby c = true) : zaq c.v = true ∧ zaq c.o = true ∧ zaq c.l = true ∧ zaq c.w = true := by
 unfold zby at h
 simpa only [Bool.and_eq_true] using h
theorem zgI {c : Cfg} (h : zc8 c = true) : c = cfgZ := by
 unfold zc8 at h
 have h := of_decide_eq_true h
 obtain ⟨v, o, l, w⟩ := c
 simp only at h
 have h1 : v = [] := List.eq_nil_of_length_eq_zero (by omega)
 have h2 : o = [] := List.eq_nil_of_length_eq_zero (by omega)
 have h3 : l = [] := List.eq_nil_of_length_eq_zero (by omega)
 have h4 : w = [] := List.eq_nil_of_length_eq_zero (by omega)
 rw [h1, h2, h3, h4]; rfl
theorem zja : zby cfgZ = true := by decide
theorem zha {s : Rd} {r : List UInt8} (h : (zat s).2 = some r) : s = some (cfgB (zat s).1 ++ r) := by
 have h4 := zdN h
 have h3 := zdN h4.1
 have h2 := zdN h3.1
 have h1 := zdN h2.1
 refine h1.1.trans ?_
 unfold cfgB
 simp only [List.append_assoc]
 rfl
theorem zis {c : Cfg} (h : zby c = true) (r : List UInt8) : zat (some (cfgB c ++ r)) = (c, some r) := by
 obtain ⟨h1, h2, h3, h4⟩ := zdO h
 unfold zat cfgB
 simp only [List.append_assoc]
 rw [ze0 _ (zbq h1) (zda h1)]
 simp only
 rw [ze0 _ (zbq h2) (zda h2)]
 simp only
 rw [ze0 _ (zbq h3) (zda h3)]
 simp only
 rw [ze0 _ (zbq h4) (zda h4)]
theorem zfv (n : Int) : zbd n = true ↔ 0 ≤ n ∧ n ≤ 1073741824 := by unfold zbd; simp
theorem zeV {e : Ent} (h : zbm e = true) : (0 ≤ e.term ∧ e.term ≤ 1073741824) ∧ (1 ≤ e.kind ∧ e.kind ≤ 3) ∧ e.cmd.length ≤ 131072 ∧ zby e.cfg = true := by
 unfold zbm at h
 rw [Bool.and_eq_true, zfv] at h
 obtain ⟨h1, h2⟩ := h
 refine ⟨h1, ?_⟩
 split at h2
 ·rw [Bool.and_eq_true, decide_eq_true_eq] at h2
  exact ⟨by omega, by omega, by rw [zgI h2.2]; exact zja⟩
 ·split at h2
  ·rw [Bool.and_eq_true, decide_eq_true_eq] at h2
   exact ⟨by omega, by omega, by rw [zgI h2.2]; exact zja⟩
  ·simp only [Bool.and_eq_true, decide_eq_true_eq] at h2
   exact ⟨by omega, by omega, h2.2.2⟩
theorem zef {b : Bas} (h : zbi b = true) : (0 ≤ b.index ∧ b.index ≤ 1073741824) ∧ (0 ≤ b.term ∧ b.term ≤ 1073741824) ∧ zby b.cfg = true := by
 unfold zbi at h
 simpa only [Bool.and_eq_true, zfv] using h
theorem zk4 {s : Rd} {r : List UInt8} (h : (zb7 s).2 = some r) : s = some (entB (zb7 s).1 ++ r) := by
 have h4 := zha (s := (zb1 131072 (za1 255 (za1 1073741824 s).2).2).2) h
 have h3 := zhm (zhb h4)
 have h2 := zc0 (zc6 h3.1)
 have h1 := zc0 (zc6 h2.1)
 refine h1.1.trans ?_
 unfold entB
 simp only [List.append_assoc]
 rfl
theorem zfn {e : Ent} (h : zbm e = true) (r : List UInt8) : zb7 (some (entB e ++ r)) = (e, some r) := by
 obtain ⟨h1, h2, h3, h4⟩ := zeV h
 unfold zb7 entB
 simp only [List.append_assoc]
 rw [zc4 _ _ _ (by omega) (by unfold topN; omega)]
 simp only
 rw [zc4 _ _ _ (by omega) (by unfold topN; omega)]
 simp only
 rw [zhY _ _ _ (by omega) (by unfold topN; omega)]
 simp only
 rw [zis h4]
 simp only [Int.toNat_of_nonneg h1.1, Int.toNat_of_nonneg (show 0 ≤ e.kind by omega)]
theorem zjT {s : Rd} {r : List UInt8} (h : (zb8 s).2 = some r) : s = some (basB (zb8 s).1 ++ r) := by
 have h3 := zha (s := (za1 1073741824 (za1 1073741824 s).2).2) h
 have h2 := zc0 (zc6 h3)
 have h1 := zc0 (zc6 h2.1)
 refine h1.1.trans ?_
 unfold basB
 simp only [List.append_assoc]
 rfl
theorem zfm {b : Bas} (h : zbi b = true) (r : List UInt8) : zb8 (some (basB b ++ r)) = (b, some r) := by
 obtain ⟨h1, h2, h3⟩ := zef h
 unfold zb8 basB
 simp only [List.append_assoc]
 rw [zc4 _ _ _ (by omega) (by unfold topN; omega)]
 simp only
 rw [zc4 _ _ _ (by omega) (by unfold topN; omega)]
 simp only
 rw [zis h3]
 simp only [Int.toNat_of_nonneg h1.1, Int.toNat_of_nonneg h2.1]
theorem zla {s : Rd} (h : (zbb s).2 = true) : zbb s = ((zb7 s).1, true) ∧ zbm (zb7 s).1 = true ∧ ∃ r, (zb7 s).2 = some r := by
 unfold zbb at h ⊢
 split at h
 ·rename_i hk
  rw [if_pos hk]
  unfold zgT at hk
  rw [Bool.and_eq_true] at hk
  exact ⟨rfl, hk.2, Option.isSome_iff_exists.1 hk.1⟩
 ·cases h
theorem zkn {s : Rd} (h : (zbu s).2 = true) : zbu s = ((zb8 s).1, true) ∧ zbi (zb8 s).1 = true ∧ ∃ r, (zb8 s).2 = some r := by
 unfold zbu at h ⊢
 split at h
 ·rename_i hk
  rw [if_pos hk]
  unfold zh9 at hk
  rw [Bool.and_eq_true] at hk
  exact ⟨rfl, hk.2, Option.isSome_iff_exists.1 hk.1⟩
 ·cases h
theorem zlP {e : Ent} (h : zbm e = true) (r : List UInt8) : zbb (some (entB e ++ r)) = (e, true) := by
 unfold zbb
 rw [if_pos (by unfold zgT; rw [zfn h]; simp [h]), zfn h]
theorem zlp {b : Bas} (h : zbi b = true) (r : List UInt8) : zbu (some (basB b ++ r)) = (b, true) := by
 unfold zbu
 rw [if_pos (by unfold zh9; rw [zfm h]; simp [h]), zfm h]
theorem zk9 (k : Nat) (s : Rd) : (zam k s).1.1.length = k := by
 induction k with
 | zero => rfl
 | succ k ih => simp [zam, ih]
theorem zjE {k : Nat} {s : Rd} {r : List UInt8} (h : (zam k s).2 = some r) (hok : (zam k s).1.2 = true) : s = some (zaX (zam k s).1.1 ++ r) := by
 induction k generalizing r with
 | zero =>
  have h0 : s = some r := h
  rw [h0]; rfl
 | succ k ih =>
  have hok : ((zam k s).1.2 && (zbb (zam k s).2).2) = true := hok
  rw [Bool.and_eq_true] at hok
  have h1 := zk4 (s := (zam k s).2) h
  refine (ih h1 hok.1).trans ?_
  congr 1
  show _ = zaX ((zam k s).1.1 ++ [(zbb (zam k s).2).1]) ++ r
  rw [(zla hok.2).1]
  unfold zaX
  simp
theorem zjS {k n : Nat} {s : Rd} (h : (zam k s).1.2 = false) (hk : k ≤ n) : (zam n s).1.2 = false := by
 induction n with
 | zero =>
  obtain rfl : k = 0 := by omega
  exact h
 | succ n ih =>
  rcases Nat.lt_or_ge k (n + 1) with h1 | h1
  ·show ((zam n s).1.2 && _) = false
   rw [ih (by omega)]; rfl
  ·obtain rfl : k = n + 1 := by omega
   exact h
theorem zl1 (l : List Ent) (h : ∀ x ∈ l, zbm x = true) (r : List UInt8) (k : Nat) (hk : k ≤ l.length) : zam k (some (zaX l ++ r)) = ((l.take k, true), some (zaX (l.drop k) ++ r)) := by
 induction k with
 | zero => rfl
 | succ k ih =>
  have hlt : k < l.length := hk
  have e : zaX (l.drop k) ++ r = entB l[k] ++ (zaX (l.drop (k + 1)) ++ r) := by
   unfold zaX
   rw [List.drop_eq_getElem_cons hlt, List.map_cons, List.flatten_cons, List.append_assoc]
  rw [zam, ih (by omega), e]
  simp only
  rw [zlP (h _ (List.getElem_mem hlt)), zfn (h _ (List.getElem_mem hlt)), List.take_succ_eq_append_getElem hlt]
  rfl
structure zkj (x : LetF) : Prop where
 head : ((1 ≤ x.kind ∧ x.kind ≤ 8) ∧ (0 ≤ x.group ∧ x.group ≤ 4)) ∧ (1 ≤ x.src ∧ x.src ≤ 5) ∧ (1 ≤ x.dst ∧ x.dst ≤ 5)
 nums : ((0 ≤ x.term ∧ x.term ≤ 1073741824) ∧ (0 ≤ x.index ∧ x.index ≤ 1073741824)) ∧ ((0 ≤ x.logt ∧ x.logt ≤ 1073741824) ∧ (0 ≤ x.commit ∧ x.commit ≤ 1073741824)) ∧ (0 ≤ x.size ∧ x.size ≤ 1073741824) ∧ (0 ≤ x.at_ ∧ x.at_ ≤ 1073741824)
 tag : 0 ≤ x.tag ∧ x.tag ≤ 4611686018427387903
 ents : x.ents.length ≤ 30 ∧ ∀ e ∈ x.ents, zbm e = true
 base : zbi x.base = true
 bytes : x.bytes.length ≤ 131072
theorem zbw (x : LetF) : zaE x = true ↔ zkj x := by
 unfold zaE
 simp only [Bool.and_eq_true, decide_eq_true_eq, zfv, List.all_eq_true]
 constructor
 ·rintro ⟨⟨h1, h2, h3, h4, h5, h6⟩, h7, ⟨h8, h9, h10, h11⟩, ⟨h12, h13, h14⟩, h15⟩
  exact ⟨⟨⟨h8, h9⟩, h10, h11⟩, ⟨⟨h1, h2⟩, ⟨h3, h4⟩, h5, h6⟩, h7, ⟨h12, h15⟩, h14, h13⟩
 ·rintro ⟨⟨⟨h8, h9⟩, h10, h11⟩, ⟨⟨h1, h2⟩, ⟨h3, h4⟩, h5, h6⟩, h7, ⟨h12, h15⟩, h14, h13⟩
  exact ⟨⟨h1, h2, h3, h4, h5, h6⟩, h7, ⟨h8, h9, h10, h11⟩, ⟨h12, h13, h14⟩, h15⟩
theorem zlY (hd : List Int) (s : Rd) : (rdBy hd s).1.length = hd.length := by
 induction hd generalizing s with
 | nil => rfl
 | cons m l ih => simp [rdBy, ih]
theorem zm3 {hd : List Int} {s : Rd} {r : List UInt8} (h : (rdBy hd s).2 = some r) : s = some (zah (rdBy hd s).1 ++ r) := by
 induction hd generalizing s r with
 | nil =>
  have h0 : s = some r := h
  rw [h0]; rfl
 | cons m l ih =>
  have h1 := ih (s := (za1 m s).2) h
  have h2 := zc0 (zc6 h1)
  refine h2.1.trans ?_
  congr 1
  show _ = zah ((za1 m s).1 :: (rdBy l (za1 m s).2).1) ++ r
  rw [zd7, List.append_assoc]
def InB : List Int → List Int → Prop
 | [], [] => True
 | m :: hd, n :: l => (0 ≤ n ∧ n ≤ m ∧ n ≤ topN) ∧ InB hd l
 | _, _ => False
theorem zmg {hd l : List Int} (h : InB hd l) (r : List UInt8) : rdBy hd (some (zah l ++ r)) = (l, some r) := by
 induction hd generalizing l with
 | nil =>
  cases l with
  | nil => rfl
  | cons n l => cases h
 | cons m hd ih =>
  cases l with
  | nil => cases h
  | cons n l =>
   obtain ⟨⟨h1, h2, h3⟩, h4⟩ := h
   rw [zd7, List.append_assoc, rdBy, zc4 _ _ _ (by omega) (by omega)]
   simp only
   rw [ih h4, Int.toNat_of_nonneg h1]
theorem list8 {l : List Int} (h : l.length = 8) : l = [l.getD 0 0, l.getD 1 0, l.getD 2 0, l.getD 3 0, l.getD 4 0, l.getD 5 0, l.getD 6 0, l.getD 7 0] := by
 match l, h with
 | [_, _, _, _, _, _, _, _], _ => rfl
theorem zm7 {x : LetF} (h : zkj x) : InB zaS (zcd x) := by
 obtain ⟨⟨⟨h8, h9⟩, h10, h11⟩, ⟨⟨h1, h2⟩, ⟨h3, h4⟩, h5, h6⟩, h7, _⟩ := h
 unfold zaS zcd
 simp only [InB]
 refine ⟨?_, ?_, ?_, ?_, ?_, ?_, ?_, ?_, trivial⟩ <;> unfold topN <;> omega
theorem zlq {x : LetF} (h : zkj x) : InB zch (zcd x) := by
 obtain ⟨⟨⟨h8, h9⟩, h10, h11⟩, ⟨⟨h1, h2⟩, ⟨h3, h4⟩, h5, h6⟩, h7, _⟩ := h
 unfold zch zcd
 simp only [InB]
 refine ⟨?_, ?_, ?_, ?_, ?_, ?_, ?_, ?_, trivial⟩ <;> unfold topN <;> omega
theorem zfo {hd : List Int} (hh : hd.length = 8) {s : Rd} (h : (zbh hd s).1.2 = true) : zaE (zbh hd s).1.1 = true ∧ ∃ r, (zbh hd s).2 = some r ∧ s = some (letB (zbh hd s).1.1 ++ r) := by
 have h' := h
 unfold zbh at h'
 simp only [Bool.and_eq_true] at h'
 obtain ⟨e1, e2, e3, e4⟩ := h'
 obtain ⟨r, hr⟩ := Option.isSome_iff_exists.1 e3
 refine ⟨e4, r, hr, ?_⟩
 have g9 := zhm (zhb hr)
 have g8 := zc0 (zc6 g9.1)
 have g7 := zc0 (zc6 g8.1)
 have g6 := zc0 (zc6 g7.1)
 have g5 := zjT g6.1
 have g4 := zjE g5 e1
 have g3 := zc0 (zc6 g4)
 have g2 := zjQ (zkh g3.1)
 have g1 := zm3 g2
 refine g1.trans ?_
 congr 1
 have hb := (zkn e2).1
 have hl := list8 (show (rdBy hd s).1.length = 8 by rw [zlY, hh])
 have he := zk9 (za1 30 (zaK (rdBy hd s).2).2).1.toNat (za1 30 (zaK (rdBy hd s).2).2).2
 unfold letB zcd zbh
 simp only [List.append_assoc]
 rw [← hl, he, hb]
 simp only [zd7, zgA, List.append_assoc, List.append_nil]
theorem zln {hd : List Int} {x : LetF} (h : zaE x = true) (hi : InB hd (zcd x)) (r : List UInt8) : zbh hd (some (letB x ++ r)) = ((x, true), some r) := by
 have hs := (zbw x).1 h
 obtain ⟨_, ⟨⟨h1, h2⟩, ⟨h3, h4⟩, h5, h6⟩, h7, h8, h9, h10⟩ := hs
 unfold zbh letB
 simp only [List.append_assoc]
 rw [zmg hi]
 simp only
 rw [zkM]
 simp only
 rw [zc4 _ _ _ (by omega) (by unfold topN; omega)]
 simp only [Int.toNat_natCast]
 rw [zl1 _ h8.2 _ _ (Nat.le_refl _), List.take_length, List.drop_length]
 have e0 : zaX [] = [] := rfl
 simp only [e0, List.nil_append, zfm h9, zlp h9, zd7, zgA, List.append_assoc, List.append_nil]
 rw [zc4 _ _ _ (by omega) (by unfold topN; omega)]
 simp only
 rw [zc4 _ _ _ (by omega) (by unfold topN; omega)]
 simp only
 rw [zc4 _ _ _ (by omega) (by unfold topN; omega)]
 simp only
 rw [zhY _ _ _ (by omega) (by unfold topN; omega)]
 simp only [Int.toNat_of_nonneg h5.1, Int.toNat_of_nonneg h6.1, Int.toNat_of_nonneg h7.1, zcd, List.getD_cons_zero, List.getD_cons_succ, Option.isSome_some, Bool.true_and]
 rw [show (⟨x.kind, x.group, x.src, x.dst, x.term, x.index, x.logt, x.commit, x.ok, x.ents, x.base, x.size, x.at_, x.tag, x.bytes⟩ : LetF) = x from rfl, h]
theorem zk1 {hd : List Int} (hh : hd.length = 8) {k : Nat} {s r : List UInt8} {l : List LetF} (h : zbC hd k s = some (l, r)) : l.length = k ∧ (∀ x ∈ l, zaE x = true) ∧ s = (l.map letB).flatten ++ r := by
 induction k generalizing l r with
 | zero =>
  rw [zbC] at h
  injection h with h
  injection h with h1 h2
  subst h1; subst h2
  exact ⟨rfl, (by intro x hx; cases hx), rfl⟩
 | succ k ih =>
  rw [zbC] at h
  split at h
  ·cases h
  ·rename_i l0 r0 h0
   obtain ⟨i1, i2, i3⟩ := ih h0
   split at h
   ·rename_i x r' hx
    injection h with h
    injection h with h1 h2
    subst h1; subst h2
    obtain ⟨j1, r2, j2, j3⟩ := zfo hh (s := some r0) (by rw [hx])
    rw [hx] at j1 j2 j3
    simp only at j1 j2 j3
    injection j2 with j2
    subst j2
    injection j3 with j3
    refine ⟨by simp [i1], fun y hy => ?_, ?_⟩
    ·rcases List.mem_append.1 hy with h | h
     ·exact i2 y h
     ·rw [List.mem_singleton.1 h]; exact j1
    ·rw [i3, j3]
     simp
   ·cases h
theorem zkT {hd : List Int} (l : List LetF) (h : ∀ x ∈ l, zaE x = true ∧ InB hd (zcd x)) (r : List UInt8) (k : Nat) (hk : k ≤ l.length) : zbC hd k ((l.map letB).flatten ++ r) = some (l.take k, ((l.drop k).map letB).flatten ++ r) := by
 induction k with
 | zero => rfl
 | succ k ih =>
  have hlt : k < l.length := hk
  have e : ((l.drop k).map letB).flatten ++ r = letB l[k] ++ (((l.drop (k + 1)).map letB).flatten ++ r) := by
   rw [List.drop_eq_getElem_cons hlt, List.map_cons, List.flatten_cons, List.append_assoc]
  obtain ⟨h1, h2⟩ := h _ (List.getElem_mem hlt)
  rw [zbC, ih (by omega)]
  simp only
  rw [e, zln h1 h2]
  simp only
  rw [List.take_succ_eq_append_getElem hlt]
def zgi (hd : List Int) : Prop := hd.length = 8 ∧ ∀ x, zaE x = true → InB hd (zcd x)
theorem zeU : zgi zaS := ⟨rfl, fun x h => zm7 ((zbw x).1 h)⟩
theorem zg5 : zgi zch := ⟨rfl, fun x h => zlq ((zbw x).1 h)⟩
theorem zcJ (l : List LetF) : zbF l = true ↔ ∀ x ∈ l, zaE x = true := by unfold zbF; exact List.all_eq_true
theorem zew {hd : List Int} (hh : zgi hd) {b : List UInt8} {l : List LetF} (h : zbJ hd b = some l) : zbF l = true ∧ zcw l = b ∧ l.length ≤ 1073741824 := by
 unfold zbJ at h
 split at h
 ·cases h
 ·rename_i n r hn
  obtain ⟨h1, h2, h3, _⟩ := zc0 hn
  injection h1 with h1
  split at h
  ·rename_i l' hl
   injection h with h
   subst h
   obtain ⟨i1, i2, i3⟩ := zk1 hh.1 hl
   refine ⟨(zcJ _).2 i2, ?_, by omega⟩
   unfold zcw
   rw [h1, i3, i1, List.append_nil]
  ·cases h
theorem zgB {hd : List Int} (hh : zgi hd) {l : List LetF} (h : zbF l = true) (hl : l.length ≤ 1073741824) (r : List UInt8) : zbJ hd (zcw l ++ r) = if r = [] then some l else none := by
 have h := (zcJ l).1 h
 unfold zbJ zcw
 rw [List.append_assoc, zc4 _ _ _ (by omega) (by unfold topN; omega)]
 simp only [Int.toNat_natCast]
 rw [zkT l (fun x hx => ⟨h x hx, hh.2 x (h x hx)⟩) r _ (Nat.le_refl _), List.take_length, List.drop_length]
 simp only [List.map_nil, List.flatten_nil, List.nil_append]
 cases r with
 | nil => rfl
 | cons c r => rfl
theorem zjY (b : List UInt8) : zbJ zaS b = zbJ zch b := by
 cases h : zbJ zaS b with
 | some l =>
  obtain ⟨h1, h2, h3⟩ := zew zeU h
  have := zgB zg5 h1 h3 []
  rw [List.append_nil, h2] at this
  rw [this]; rfl
 | none =>
  cases h2 : zbJ zch b with
  | none => rfl
  | some l =>
   obtain ⟨i1, i2, i3⟩ := zew zg5 h2
   have := zgB zeU i1 i3 []
   rw [List.append_nil, i2, h] at this
   cases this
open Go Go.RowKit
theorem zh0 {P : Program} {id : Nat} {Q : Exit → Act → World → Prop} {a : Act} {w : World} {l : List Oper} (n : Nat) (hm : P.follows .mixedOrders = true) (hB : Region.lexTailB .any l.toArray n = true)
  (h : wpStill P l.toArray w.drew (fun a' => wpList P l.toArray Q (l.drop n) a' w.drew) (l.take n) a) : (Code.region id l.toArray true).wp P Q a w :=
 wp_region_still_tail n hm hB h
section
variable {P : Program}
theorem zd6 (w : World) (g o : Nat) (ty : TypeId) (cs : List Value) (d : TypeDesc) (hc : ∀ j v, cs[j]? = some v → w.cell? ⟨g, o + j, none⟩ = some v)
  (hu : P.underlying ty = some d) (hd : (match d with | .struct _ | .array _ _ => true | _ => false) = true) (hi : (P.info? ty).map (·.size) = some cs.length) :
  (loadVar ty ⟨g, o, none⟩).run P w = .ok (.agg cs.toArray) w := by
 have hl : (loadCells ⟨g, o, none⟩ cs.length).run P w = .ok cs.toArray w :=
  run_loadCells_list (P := P) w ⟨g, o, none⟩ cs (fun j v hv => by
   rw [Addr.add_lit]
   exact hc j v hv)
 cases hq : P.info? ty with
 | none => simp [hq] at hi
 | some i =>
  have hs : i.size = cs.length := by simpa [hq] using hi
  have hagg : (isAgg ty).run P w = .ok true w := by
   unfold isAgg
   rw [Sem.run_bind, run_underlying hu w]
   cases d <;> simp_all
  simp [loadVar, Sem.run_bind, hagg, sizeOf, typeInfo, hq, hs, hl]
theorem zf6 {o : Oper} {a : Act} {w : World} {K : Act → World → Prop} {Q : Exit → Act → World → Prop} (ty : TypeId) (x : Operand) (ho : o.op = .load ty x)
  (g off : Nat) (hx : a.eval x = .pointer (some ⟨g, off, none⟩)) (cs : List Value) (d : TypeDesc) (hc : ∀ j v, cs[j]? = some v → w.cell? ⟨g, off + j, none⟩ = some v)
  (hu : P.underlying ty = some d) (hd : (match d with | .struct _ | .array _ _ => true | _ => false) = true) (hi : (P.info? ty).map (·.size) = some cs.length)
  (h : K (a.put o.dst (.agg cs.toArray)) w) : o.wp P a w K Q := by
 unfold Oper.wp execOp
 simp only [ho, hx, Instr.loadAt, Instr.sureAddr, Sem.run_bind, Sem.run_pure, Result.andThen_ok, zd6 w g off ty cs d hc hu hd hi]
 exact h
theorem za5 {ops : Array Oper} {rest : List Oper} {o : Oper} {a : Act} {w : World} {Q : Exit → Act → World → Prop} (hgd : o.guard = none) (ty : TypeId) (x : Operand) (ho : o.op = .load ty x)
  (g off : Nat) (hx : a.eval x = .pointer (some ⟨g, off, none⟩)) (cs : List Value) (d : TypeDesc) (hc : ∀ j v, cs[j]? = some v → w.cell? ⟨g, off + j, none⟩ = some v)
  (hu : P.underlying ty = some d) (hd : (match d with | .struct _ | .array _ _ => true | _ => false) = true) (hi : (P.info? ty).map (·.size) = some cs.length)
  (h : wpList P ops Q rest (a.put o.dst (.agg cs.toArray)) w) : wpList P ops Q (o :: rest) a w :=
 wpList_plain hgd fun _ hK => zf6 ty x ho g off hx cs d hc hu hd hi (hK _ _ h)
end
theorem zaI (w : World) (t : TypeId) (cs : List Value) (n : Nat) (hn : w.heap.size = n) : Sl (w.alloc (.cells cs.toArray t)) (· = n) (some ⟨n, 0, none⟩) cs := by
 subst hn
 have h := (Blk.new w t cs.toArray).sl 0 cs.length
 simpa using h
def za0 (w : World) : Type := { w' : World // Nw w w' }
instance (w : World) : Nonempty (za0 w) := ⟨⟨w, Fr.refl _ _⟩⟩
def za0.at_ {w : World} (n : za0 w) : World := n.val
theorem za0.nw {w : World} (n : za0 w) : Nw w n.at_ := n.property
theorem za0.cell {w : World} {p : Addr} {v : Value} (h : w.cell? p = some v) (n : za0 w) : n.at_.cell? p = some v :=
 (n.nw.cell (World.block_lt_of_cell? _ _ h) (fun h => h)).trans h
theorem za0.call {P : Program} {f : FuncId} {args : Array Value} {w : World} {n : za0 w} {v : Value} (h : Calls P f args n.at_ fun e w' => e = .returned v ∧ Nw n.at_ w') :
  Calls P f args n.at_ fun e w'' => e = .returned v ∧ ∃ m : za0 w, w'' = m.at_ :=
 h.mono fun _ w' ⟨he, hq⟩ => ⟨he, ⟨w', n.nw.tr hq⟩, rfl⟩
theorem za0.same {P : Program} {f : FuncId} {args : Array Value} {w : World} {n : za0 w} {v : Value} (h : Calls P f args n.at_ fun e w' => e = .returned v ∧ n.at_ = w') :
  Calls P f args n.at_ fun e w'' => e = .returned v ∧ ∃ m : za0 w, w'' = m.at_ :=
 h.mono fun _ _ ⟨he, hq⟩ => ⟨he, n, hq.symm⟩
theorem zaj {P : Program} {ops : Array Oper} {w : World} {Q : Exit → Act → World → Prop} {a : Act} (h : ∀ w', Nw w w' → Q .normal a w') :
  wpQuiet P ops (fun w' => ∃ n : za0 w, w' = n.at_) (fun a' => ∀ w', (∃ n : za0 w, w' = n.at_) → Q .normal a' w') [] a :=
 wpQuiet_nil fun w' ⟨n, hn⟩ => h w' (by rw [hn]; exact n.nw)
theorem zae {P : Program} {id : Nat} {Q : Exit → Act → World → Prop} {a : Act} {w : World} {l : List Oper} (hm : P.follows .mixedOrders = true) (hB : Region.lexB .any l.toArray = true)
  (h : wpQuiet P l.toArray (fun w' => ∃ n : za0 w, w' = n.at_) (fun a' => ∀ w', (∃ n : za0 w, w' = n.at_) → Q .normal a' w') l a) : (Code.region id l.toArray true).wp P Q a w :=
 wp_region_quiet (C := fun w' => ∃ n : za0 w, w' = n.at_) hm hB ⟨⟨w.drew, (Fr.refl _ w).drew⟩, rfl⟩ (by simpa using h)
open Go Go.RowKit
structure Ls (α : Type) where
 a : Option Addr
 c : Nat
 l : List α
abbrev Ls.v {α : Type} (s : Ls α) : Value := .slice s.a s.l.length s.c
structure CfgM where
 v : Ls Int
 o : Ls Int
 l : Ls Int
 w : Ls Int
structure EntM where
 term : Int
 kind : Int
 cmd : Ls UInt8
 cfg : CfgM
structure BasM where
 index : Int
 term : Int
 cfg : CfgM
structure LetM where
 kind : Int
 group : Int
 src : Int
 dst : Int
 term : Int
 index : Int
 logt : Int
 commit : Int
 ok : Bool
 ents : Ls EntM
 base : BasM
 size : Int
 at_ : Int
 tag : Int
 bytes : Ls UInt8
def lsZ {α : Type} : Ls α := ⟨none, 0, []⟩
def zcS : CfgM := ⟨lsZ, lsZ, lsZ, lsZ⟩
def zcm : EntM := ⟨0, 0, lsZ, zcS⟩
def zcP : BasM := ⟨0, 0, zcS⟩
def zaP : LetM := ⟨0, 0, 0, 0, 0, 0, 0, 0, false, lsZ, zcP, 0, 0, 0, lsZ⟩
abbrev CfgM.x (c : CfgM) : Cfg := ⟨c.v.l, c.o.l, c.l.l, c.w.l⟩
abbrev EntM.x (e : EntM) : Ent := ⟨e.term, e.kind, e.cmd.l, e.cfg.x⟩
abbrev BasM.x (b : BasM) : Bas := ⟨b.index, b.term, b.cfg.x⟩
abbrev LetM.x (x : LetM) : LetF := ⟨x.kind, x.group, x.src, x.dst, x.term, x.index, x.logt, x.commit, x.ok, x.ents.l.map EntM.x, x.base.x, x.size, x.at_, x.tag, x.bytes.l⟩
abbrev U8V (n : Int) : Value := .int .u8 n
abbrev entL (e : EntM) : List Value := [I64 e.term, U8V e.kind, e.cmd.v, e.cfg.v.v, e.cfg.o.v, e.cfg.l.v, e.cfg.w.v]
abbrev letL (x : LetM) : List Value :=
 [U8V x.kind, I64 x.group, I64 x.src, I64 x.dst, I64 x.term, I64 x.index, I64 x.logt, I64 x.commit, .bool x.ok, x.ents.v, I64 x.base.index, I64 x.base.term, x.base.cfg.v.v, x.base.cfg.o.v, x.base.cfg.l.v, x.base.cfg.w.v, I64 x.size, I64 x.at_, I64 x.tag, x.bytes.v]
abbrev cfgA (c : CfgM) : Array Value := #[c.v.v, c.o.v, c.l.v, c.w.v]
abbrev entA (e : EntM) : Array Value := #[I64 e.term, U8V e.kind, e.cmd.v, e.cfg.v.v, e.cfg.o.v, e.cfg.l.v, e.cfg.w.v]
abbrev basA (b : BasM) : Array Value := #[I64 b.index, I64 b.term, b.cfg.v.v, b.cfg.o.v, b.cfg.l.v, b.cfg.w.v]
abbrev letA (x : LetM) : Array Value :=
 #[U8V x.kind, I64 x.group, I64 x.src, I64 x.dst, I64 x.term, I64 x.index, I64 x.logt, I64 x.commit, .bool x.ok, x.ents.v, I64 x.base.index, I64 x.base.term, x.base.cfg.v.v, x.base.cfg.o.v, x.base.cfg.l.v, x.base.cfg.w.v, I64 x.size, I64 x.at_, I64 x.tag, x.bytes.v]
abbrev cl9 (c : CfgM) : List Value := [.slice c.v.a c.v.l.length c.v.c, .slice c.o.a c.o.l.length c.o.c, .slice c.l.a c.l.l.length c.l.c, .slice c.w.a c.w.l.length c.w.c]
abbrev bl9 (b : BasM) : List Value := [I64 b.index, I64 b.term, .slice b.cfg.v.a b.cfg.v.l.length b.cfg.v.c, .slice b.cfg.o.a b.cfg.o.l.length b.cfg.o.c, .slice b.cfg.l.a b.cfg.l.l.length b.cfg.l.c, .slice b.cfg.w.a b.cfg.w.l.length b.cfg.w.c]
abbrev lv9A (a0 a1 a2 a3 a4 a5 a6 a7 : Int) (ok : Bool) (cur : Ls EntM) (y : BasM) (b0 b1 tg : Int) (A8 : Option Addr) (nb cp8 : Nat) : Array Value := #[U8V a0, I64 a1, I64 a2, I64 a3, I64 a4, I64 a5, I64 a6, I64 a7, .bool ok, .slice cur.a cur.l.length cur.c, I64 y.index, I64 y.term, .slice y.cfg.v.a y.cfg.v.l.length y.cfg.v.c, .slice y.cfg.o.a y.cfg.o.l.length y.cfg.o.c, .slice y.cfg.l.a y.cfg.l.l.length y.cfg.l.c, .slice y.cfg.w.a y.cfg.w.l.length y.cfg.w.c, I64 b0, I64 b1, I64 tg, .slice A8 nb cp8]
abbrev lv9L (a0 a1 a2 a3 a4 a5 a6 a7 : Int) (ok : Bool) (cur : Ls EntM) (y : BasM) (b0 b1 tg : Int) (A8 : Option Addr) (nb cp8 : Nat) : List Value := [U8V a0, I64 a1, I64 a2, I64 a3, I64 a4, I64 a5, I64 a6, I64 a7, .bool ok, .slice cur.a cur.l.length cur.c, I64 y.index, I64 y.term, .slice y.cfg.v.a y.cfg.v.l.length y.cfg.v.c, .slice y.cfg.o.a y.cfg.o.l.length y.cfg.o.c, .slice y.cfg.l.a y.cfg.l.l.length y.cfg.l.c, .slice y.cfg.w.a y.cfg.w.l.length y.cfg.w.c, I64 b0, I64 b1, I64 tg, .slice A8 nb cp8]
abbrev le9A (t k : Int) (A3 : Option Addr) (nb cp3 : Nat) (y4 : CfgM) : Array Value := #[I64 t, U8V k, .slice A3 nb cp3, .slice y4.v.a y4.v.l.length y4.v.c, .slice y4.o.a y4.o.l.length y4.o.c, .slice y4.l.a y4.l.l.length y4.l.c, .slice y4.w.a y4.w.l.length y4.w.c]
abbrev le9L (t k : Int) (A3 : Option Addr) (nb cp3 : Nat) (y4 : CfgM) : List Value := [I64 t, U8V k, .slice A3 nb cp3, .slice y4.v.a y4.v.l.length y4.v.c, .slice y4.o.a y4.o.l.length y4.o.c, .slice y4.l.a y4.l.l.length y4.l.c, .slice y4.w.a y4.w.l.length y4.w.c]
abbrev lb9A (t u : Int) (y4 : CfgM) : Array Value := #[I64 t, I64 u, .slice y4.v.a y4.v.l.length y4.v.c, .slice y4.o.a y4.o.l.length y4.o.c, .slice y4.l.a y4.l.l.length y4.l.c, .slice y4.w.a y4.w.l.length y4.w.c]
abbrev lb9L (t u : Int) (y4 : CfgM) : List Value := [I64 t, I64 u, .slice y4.v.a y4.v.l.length y4.v.c, .slice y4.o.a y4.o.l.length y4.o.c, .slice y4.l.a y4.l.l.length y4.l.c, .slice y4.w.a y4.w.l.length y4.w.c]
def entF (e : EntM) : List Value := entL e
def letF (x : LetM) : List Value := letL x
def zac (l : List Int) : List Value := l.map I64
def zal (l : List EntM) : List Value := (l.map entF).flatten
def zai (l : List LetM) : List Value := (l.map letF).flatten
theorem zfj (l : List EntM) : (zal l).length = l.length * 7 := by
 unfold zal
 induction l with
 | nil => rfl
 | cons a l ih => rw [List.map_cons, List.flatten_cons, List.length_append, ih, List.length_cons]; show 7 + _ = _; omega
theorem zcx (l m : List EntM) : zal (l ++ m) = zal l ++ zal m := by simp [zal]
theorem zcX (l m : List LetM) : zai (l ++ m) = zai l ++ zai m := by simp [zai]
theorem zck (l m : List Int) : zac (l ++ m) = zac l ++ zac m := by simp [zac]
theorem zdW (e : EntM) : zal [e] = entL e := by simp [zal, entF]
theorem zdQ (x : LetM) : zai [x] = letL x := by simp [zai, letF]
theorem zeO (l : List Int) : ∀ u ∈ zac l, u.oneCell' = true := by
 intro u hu
 obtain ⟨n, _, rfl⟩ := List.mem_map.1 hu
 rfl
theorem zcC (e : EntM) : ∀ u ∈ entL e, u.oneCell' = true := by
 intro u hu
 simp only [List.mem_cons, List.not_mem_nil, or_false] at hu
 rcases hu with rfl | rfl | rfl | rfl | rfl | rfl | rfl <;> rfl
theorem zjV (l : List EntM) : ∀ u ∈ zal l, u.oneCell' = true := by
 intro u hu
 obtain ⟨c, hc, hu⟩ := List.mem_flatten.1 hu
 obtain ⟨e, _, rfl⟩ := List.mem_map.1 hc
 exact zcC e u hu
theorem zdk (x : LetM) : ∀ u ∈ letL x, u.oneCell' = true := by
 intro u hu
 simp only [List.mem_cons, List.not_mem_nil, or_false] at hu
 rcases hu with rfl | rfl | rfl | rfl | rfl | rfl | rfl | rfl | rfl | rfl | rfl | rfl | rfl | rfl | rfl | rfl | rfl | rfl | rfl | rfl <;> rfl
theorem zdi (c : CfgM) : (cfgA c).all (·.oneCell') = true := by rw [List.all_toArray]; simp only [List.all_cons, List.all_nil]; rfl
theorem zbo (e : EntM) : (entA e).all (·.oneCell') = true := by rw [List.all_toArray]; simp only [List.all_cons, List.all_nil]; rfl
theorem zcY (b : BasM) : (basA b).all (·.oneCell') = true := by rw [List.all_toArray]; simp only [List.all_cons, List.all_nil]; rfl
theorem zbc (x : LetM) : (letA x).all (·.oneCell') = true := by rw [List.all_toArray]; simp only [List.all_cons, List.all_nil]; rfl
structure LsIn {α : Type} (w : World) (F : Nat → Prop) (f : List α → List Value) (s : Ls α) : Prop where
 sl : Sl w F s.a (f s.l)
 cap : s.l.length ≤ s.c ∧ s.c ≤ maxLen
def zaw (l : List UInt8) : List Value := l.map B8
structure zaD (w : World) (F : Nat → Prop) (c : CfgM) : Prop where
 v : LsIn w F zac c.v
 o : LsIn w F zac c.o
 l : LsIn w F zac c.l
 w : LsIn w F zac c.w
structure zau (w : World) (F : Nat → Prop) (e : EntM) : Prop where
 kind : 0 ≤ e.kind ∧ e.kind ≤ 255
 cmd : LsIn w F zaw e.cmd
 cfg : zaD w F e.cfg
structure za3 (w : World) (F : Nat → Prop) (x : LetM) : Prop where
 kind : 0 ≤ x.kind ∧ x.kind ≤ 255
 ents : LsIn w F zal x.ents
 each : ∀ e ∈ x.ents.l, zau w F e
 cfg : zaD w F x.base.cfg
 bytes : LsIn w F zaw x.bytes
section
variable {w w' : World} {F F' S : Nat → Prop} {α : Type} {f : List α → List Value}
theorem LsIn.fr {s : Ls α} (h : LsIn w F f s) (hf : Fr S w w') (hn : ∀ k, F k → ¬ S k) : LsIn w' F f s := ⟨h.sl.fr hf hn, h.cap⟩
theorem LsIn.mono {s : Ls α} (h : LsIn w F f s) (hF : ∀ k, F k → k < w.heap.size → F' k) : LsIn w F' f s := ⟨h.sl.mono hF, h.cap⟩
theorem zaD.fr {c : CfgM} (h : zaD w F c) (hf : Fr S w w') (hn : ∀ k, F k → ¬ S k) : zaD w' F c := ⟨h.v.fr hf hn, h.o.fr hf hn, h.l.fr hf hn, h.w.fr hf hn⟩
theorem zaD.mono {c : CfgM} (h : zaD w F c) (hF : ∀ k, F k → k < w.heap.size → F' k) : zaD w F' c := ⟨h.v.mono hF, h.o.mono hF, h.l.mono hF, h.w.mono hF⟩
theorem zau.fr {e : EntM} (h : zau w F e) (hf : Fr S w w') (hn : ∀ k, F k → ¬ S k) : zau w' F e := ⟨h.kind, h.cmd.fr hf hn, h.cfg.fr hf hn⟩
theorem zau.mono {e : EntM} (h : zau w F e) (hF : ∀ k, F k → k < w.heap.size → F' k) : zau w F' e := ⟨h.kind, h.cmd.mono hF, h.cfg.mono hF⟩
theorem za3.fr {x : LetM} (h : za3 w F x) (hf : Fr S w w') (hn : ∀ k, F k → ¬ S k) : za3 w' F x := ⟨h.kind, h.ents.fr hf hn, fun e he => (h.each e he).fr hf hn, h.cfg.fr hf hn, h.bytes.fr hf hn⟩
theorem za3.mono {x : LetM} (h : za3 w F x) (hF : ∀ k, F k → k < w.heap.size → F' k) : za3 w F' x := ⟨h.kind, h.ents.mono hF, fun e he => (h.each e he).mono hF, h.cfg.mono hF, h.bytes.mono hF⟩
theorem LsIn.nw {s : Ls α} (h : LsIn w F f s) (hf : Nw w w') : LsIn w' F f s := h.fr hf (fun _ _ h => h)
theorem zaD.nw {c : CfgM} (h : zaD w F c) (hf : Nw w w') : zaD w' F c := h.fr hf (fun _ _ h => h)
theorem zau.nw {e : EntM} (h : zau w F e) (hf : Nw w w') : zau w' F e := h.fr hf (fun _ _ h => h)
theorem za3.nw {x : LetM} (h : za3 w F x) (hf : Nw w w') : za3 w' F x := h.fr hf (fun _ _ h => h)
theorem LsIn.nil (w : World) (F : Nat → Prop) (f : List α → List Value) (hf : f [] = []) : LsIn w F f lsZ := ⟨by show Sl w F none (f []); rw [hf]; exact Sl.nil _ _ _, Nat.le_refl _, Nat.zero_le _⟩
theorem zaD.zero (w : World) (F : Nat → Prop) : zaD w F zcS := ⟨LsIn.nil w F zac rfl, LsIn.nil w F zac rfl, LsIn.nil w F zac rfl, LsIn.nil w F zac rfl⟩
theorem zau.zero (w : World) (F : Nat → Prop) : zau w F zcm := ⟨⟨by decide, by decide⟩, LsIn.nil w F zaw rfl, zaD.zero w F⟩
theorem za3.zero (w : World) (F : Nat → Prop) : za3 w F zaP := ⟨⟨by decide, by decide⟩, LsIn.nil w F zal rfl, (by intro e he; cases he), zaD.zero w F, LsIn.nil w F zaw rfl⟩
structure EntsIn (w : World) (F : Nat → Prop) (s : Ls EntM) : Prop where
 ls : LsIn w F zal s
 each : ∀ x ∈ s.l, zau w F x
structure LetsIn (w : World) (F : Nat → Prop) (s : Ls LetM) : Prop where
 ls : LsIn w F zai s
 each : ∀ x ∈ s.l, za3 w F x
theorem zm8 {α : Type} (f : α → List Value) (C : Nat) (l : List α) (hC : ∀ x ∈ l, (f x).length = C) (i j : Nat) (hi : i < l.length) (hj : j < C) : ((l.map f).flatten)[i * C + j]? = (f l[i])[j]? := by
 induction l generalizing i with
 | nil => simp at hi
 | cons x l ih =>
  rw [List.map_cons, List.flatten_cons]
  have hx := hC x List.mem_cons_self
  cases i with
  | zero =>
   rw [List.getElem?_append_left (by omega), Nat.zero_mul, Nat.zero_add]
   rfl
  | succ i =>
   rw [List.getElem?_append_right (by rw [hx, Nat.succ_mul]; omega), hx]
   have e : (i + 1) * C + j - C = i * C + j := by rw [Nat.succ_mul]; omega
   rw [e]
   exact ih (fun y hy => hC y (List.mem_cons_of_mem _ hy)) i (by simpa using hi)
theorem Sl.struct {A : Option Addr} {f : α → List Value} {C : Nat} (hC0 : 0 < C) {l : List α} (hC : ∀ x ∈ l, (f x).length = C) (h : Sl w F A ((l.map f).flatten)) {k : Nat} (hk : k < l.length) :
  ∃ b o, A = some ⟨b, o, none⟩ ∧ F b ∧ b < w.heap.size ∧ ∀ j u, (f l[k])[j]? = some u → w.cell? ⟨b, o + k * C + j, none⟩ = some u := by
 have hf := zm8 f C l hC k
 obtain ⟨u0, hu0⟩ : ∃ u, (f l[k])[0]? = some u := ⟨_, List.getElem?_eq_getElem (by rw [hC _ (List.getElem_mem hk)]; exact hC0)⟩
 have h0 := (hf 0 hk hC0).trans hu0
 obtain ⟨b, o, hA, hF, hb, hc⟩ := h.at_ (by intro e; rw [e] at h0; cases h0)
 refine ⟨b, o, hA, hF, hb, fun j u hu => ?_⟩
 have hj : j < C := by
  rcases Nat.lt_or_ge j C with h | h
  ·exact h
  ·rw [List.getElem?_eq_none (by rw [hC _ (List.getElem_mem hk)]; exact h)] at hu; cases hu
 rw [Nat.add_assoc]
 exact hc _ u ((hf j hk hj).trans hu)
theorem Sl.ent {A : Option Addr} {l : List EntM} (h : Sl w F A (zal l)) {k : Nat} (hk : k < l.length) :
  ∃ b o, A = some ⟨b, o, none⟩ ∧ F b ∧ b < w.heap.size ∧ ∀ j u, (entL l[k])[j]? = some u → w.cell? ⟨b, o + k * 7 + j, none⟩ = some u := Sl.struct (f := entF) (by omega) (fun _ _ => rfl) h hk
theorem Sl.let_ {A : Option Addr} {l : List LetM} (h : Sl w F A (zai l)) {k : Nat} (hk : k < l.length) :
  ∃ b o, A = some ⟨b, o, none⟩ ∧ F b ∧ b < w.heap.size ∧ ∀ j u, (letL l[k])[j]? = some u → w.cell? ⟨b, o + k * 20 + j, none⟩ = some u := Sl.struct (f := letF) (by omega) (fun _ _ => rfl) h hk
end
structure zaY (c : CfgM) : Prop where
 v : c.v.l.length ≤ 1000000
 o : c.o.l.length ≤ 1000000
 l : c.l.l.length ≤ 1000000
 w : c.w.l.length ≤ 1000000
structure zaW (e : EntM) : Prop where
 cmd : e.cmd.l.length ≤ 1000000
 cfg : zaY e.cfg
structure za8 (x : LetM) : Prop where
 ents : x.ents.l.length ≤ 1000000
 each : ∀ e ∈ x.ents.l, zaW e
 cfg : zaY x.base.cfg
 bytes : x.bytes.l.length ≤ 1000000
theorem zaY.zero : zaY zcS := ⟨by decide, by decide, by decide, by decide⟩
theorem za8.zero : za8 zaP := ⟨by decide, (by intro e he; cases he), zaY.zero, by decide⟩
open Go Go.RowKit
theorem zaL : (Tryz.prog.info? 5).map (fun i => (i.zero, i.size, i.bytes)) = some (some (.int .u8 0), 1, 1) := by kernel_rfl
theorem zcg (w : World) : (sizeOf (Tryz.prog.elem 48)).run Tryz.prog w = .ok 1 w := by kernel_rfl
theorem zc5 : Tryz.prog.underlying 48 = some (.slice (Tryz.prog.elem 48)) := by kernel_rfl
def IsWr (w : World) (F : Nat → Prop) (g : Nat) (s : Wr) : Prop :=
 ∃ A cap, Blk w g 185 #[.bool true, .bool (!s.ok), .slice A s.bs.length cap] ∧ Own w 5 1 A s.bs.length cap (s.bs.map B8) ∧ F g ∧ (∀ k, inA A k → F k) ∧ ∀ k, F k → k < w.heap.size
def WrTo (w : World) (F : Nat → Prop) (g : Nat) (s : Wr) (w' : World) : Prop :=
 ∃ F', IsWr w' F' g s ∧ Fr F w w' ∧ ∀ k, F' k → F k ∨ w.heap.size ≤ k
theorem IsWr.fr {w w' : World} {F S : Nat → Prop} {g : Nat} {s : Wr} (h : IsWr w F g s) (hf : Fr S w w') (hd : ∀ k, F k → ¬ S k) : IsWr w' F g s := by
 obtain ⟨A, cap, hb, hown, hF, hFA, hlt⟩ := h
 exact ⟨A, cap, hb.fr hf (hd _ hF), hown.fr hf (fun k hk => hd k (hFA k hk)), hF, hFA, fun k hk => Nat.lt_of_lt_of_le (hlt k hk) hf.size⟩
theorem IsWr.alloc {w : World} {F : Nat → Prop} {g : Nat} {s : Wr} (h : IsWr w F g s) (o : Obj) : IsWr (w.alloc o) F g s :=
 h.fr (S := fun _ => False) ((Fr.refl _ w).alloc o) (fun _ _ h => h)
theorem IsWr.bound {w : World} {F : Nat → Prop} {g : Nat} {s : Wr} (h : IsWr w F g s) : ∀ k, F k → k < w.heap.size := by
 obtain ⟨_, _, _, _, _, _, h⟩ := h
 exact h
theorem WrTo.alloc {w w2 : World} {F : Nat → Prop} {g : Nat} {s2 : Wr} {o : Obj} (h : WrTo (w.alloc o) F g s2 w2) : WrTo w F g s2 w2 := by
 obtain ⟨F2, h1, h2, h3⟩ := h
 exact ⟨F2, h1, ((Fr.refl F w).alloc o).tr h2, fun k hk => (h3 k hk).imp id fun h => by simp at h; omega⟩
theorem zeJ (w : World) (F F2 : Nat → Prop) (g : Nat) (s : Wr) (h : IsWr w F g s) (A2 : Option Addr) (m c : Nat) (bs : List UInt8) (hm : bs.length = m) (hsl : Sl w F2 A2 (bs.map B8))
  (hsz : s.bs.length + m ≤ 1000000000000) :
  Calls Tryz.prog 203 #[.pointer (some ⟨g, 0, none⟩), .slice A2 m c] w fun e w' => e = .returned (.tuple #[]) ∧ WrTo w F g { s with bs := s.bs ++ bs } w' := by
 obtain ⟨A, cap, hb, hown, hF, hFA, hFlt⟩ := h
 subst hm
 have c0 := hb.cell 0
 have c2 := hb.cell 2
 simp at c0 c2
 go_enter Tryz.func203, Tryz.ntmps203
 go_wp2_with (at_builtin; refine zdm rfl _ _ _ rfl 1 (.int .u8 0) Tryz.underlying48 zaL rfl (by decide) rfl hown rfl hsl (by simp) (zar bs) (by omega) (by unfold maxLen; omega) ?_; intro A' cap' w1 ho hf hin; have hb1 := hb.fr hf (fun hg => hown.ne_ hb (by decide) hg); have c21 := hb1.cell 2; have f21 := hb1.frozen 2; simp at c21)
 go_end0
 refine ⟨rfl, fun k => k = g ∨ inA A' k, ⟨A', cap', ?_, ?_, .inl rfl, fun k hk => .inr hk, ?_⟩, (hf.mono fun b hb' => .inl (hFA b hb')).setCell (.inl hF) _, ?_⟩
 ·have := hb1.set_ 2 (.slice A' (s.bs.length + bs.length) cap')
  simpa using this
 ·have := ho.setCell (p := ⟨g, 2, none⟩) (fun hk => ho.ne_ hb1 (by decide) hk) (.slice A' (s.bs.length + bs.length) cap')
  simpa using this
 ·have hz : (w1.setCell ⟨g, 2, none⟩ (.slice A' (s.bs.length + bs.length) cap')).heap.size = w1.heap.size := by simp [World.setCell]
  rw [hz]
  rintro k (rfl | hk)
  ·exact hb1.lt
  ·exact ho.lt k hk
 ·rintro k (rfl | hk)
  ·exact .inl hF
  ·rcases hin k hk with h | h
   ·exact .inl (hFA k h)
   ·exact .inr (by omega)
theorem WrTo.trans {w w1 w2 : World} {F F1 : Nat → Prop} {g : Nat} {s2 : Wr} (hf : Fr F w w1) (hn : ∀ k, F1 k → F k ∨ w.heap.size ≤ k) (h : WrTo w1 F1 g s2 w2) : WrTo w F g s2 w2 := by
 obtain ⟨F2, h1, h2, h3⟩ := h
 refine ⟨F2, h1, hf.trans h2 hn, fun k hk => ?_⟩
 rcases h3 k hk with h | h
 ·exact hn k h
 ·exact .inr (Nat.le_trans hf.size h)
theorem zjN (w : World) (F : Nat → Prop) (g : Nat) (s : Wr) (h : IsWr w F g s) (n : Int) (hn : n < 0 ∨ 4611686018427387903 < n) :
  Calls Tryz.prog 141 #[.pointer (some ⟨g, 0, none⟩), .int .i64 n] w fun e w' => e = .returned (.tuple #[]) ∧ WrTo w F g { s with ok := false } w' := by
 obtain ⟨A, cap, hb, hown, hF, hFA, hFlt⟩ := h
 have c1 := hb.cell 1
 have f1 := hb.frozen 1
 simp at c1
 have hfin : WrTo w F g { s with ok := false } (w.setCell ⟨g, 1, none⟩ (.bool true)) := by
  refine ⟨fun k => k = g ∨ inA A k, ⟨A, cap, ?_, hown.setCell (p := ⟨g, 1, none⟩) (fun hk => hown.ne_ hb (by decide) hk) _, .inl rfl, fun k hk => .inr hk, ?_⟩, (Fr.refl F w).setCell (.inl hF) _, ?_⟩
  ·have := hb.set_ 1 (.bool true)
   simpa using this
  ·have hz : (w.setCell ⟨g, 1, none⟩ (.bool true)).heap.size = w.heap.size := by simp [World.setCell]
   rw [hz]
   rintro k (rfl | hk)
   ·exact hb.lt
   ·exact hown.lt k hk
  ·rintro k (rfl | hk)
   ·exact .inl hF
   ·exact .inl (hFA k hk)
 by_cases h0 : n < 0
 ·go_enter Tryz.func141, Tryz.ntmps141
  go_wp2_with fail
  refine bodyPost_ret (results_none rfl _ _ _) rfl ?_
  exact ⟨rfl, hfin⟩
 ·have h1 : 4611686018427387903 < n := by omega
  go_enter Tryz.func141, Tryz.ntmps141
  go_wp2_with fail
  refine bodyPost_ret (results_none rfl _ _ _) rfl ?_
  exact ⟨rfl, hfin⟩
def NumRel (w : World) (F : Nat → Prop) (g : Nat) (s : Wr) (n : Nat) (v : Value) (wr : World) : Prop :=
 ∃ (k : Nat) (F' : Nat → Prop) (bs : List UInt8), v = .int .i64 k ∧ k ≤ topN ∧ bs.length + (enc k).length = s.bs.length + (enc n).length ∧ IsWr wr F' g { s with bs := bs } ∧ Fr F w wr ∧ (∀ k, F' k → F k ∨ w.heap.size ≤ k) ∧ bs ++ enc k = s.bs ++ enc n
theorem zl4 (w : World) (F : Nat → Prop) (g : Nat) (s : Wr) (h : IsWr w F g s) (n : Nat) (hn : n ≤ 4611686018427387903) (hsz : s.bs.length ≤ 900000000000) :
  Calls Tryz.prog 141 #[.pointer (some ⟨g, 0, none⟩), .int .i64 n] w fun e w' => e = .returned (.tuple #[]) ∧ WrTo w F g { s with bs := s.bs ++ enc n } w' := by
 go_enter Tryz.func141, Tryz.ntmps141
 go_wp2_with fail
 go_loopw [1] (fun v wr => NumRel w F g s n v wr) (fun v _ => (intOf v).toNat)
 case atStart => exact ⟨n, F, s.bs, rfl, hn, rfl, h, Fr.refl _ _, fun k hk => .inl hk, rfl⟩
 case round =>
  obtain ⟨k, F', bs, rfl, hk, hl, hw, hf, hF, he⟩ := hrel
  by_cases hb : 127 < k
  ·have HE := Lib.hid (zj9 k (by omega) hk)
   have HL := Lib.hid hl
   have HC := Lib.hid he
   clear hl he
   have hk' := hk
   unfold topN at hk'
   go_wp2_with fail
   rw [zkD k]
   refine (zeJ _ F' _ g _ (hw.alloc _) _ 1 1 [UInt8.ofNat (k % 128 + 128)] rfl ((Blk.new _ _ _).sl 0 1) ?_).mono ?_
   ·show bs.length + 1 ≤ _
    have := HL.out; have := zaR n; omega
   rintro e w2 ⟨rfl, h2⟩
   obtain ⟨F2, i2, f2, n2⟩ := h2.alloc
   go_wp2_with fail
   go_roundw
   case rel =>
    refine ⟨k / 128, F2, bs ++ [UInt8.ofNat (k % 128 + 128)], by go_num, by unfold topN; omega, ?_, i2, hf.trans f2 hF, fun j hj => ?_, ?_⟩
    ·have h1 := HL.out
     rw [HE.out] at h1
     simp at h1 ⊢
     omega
    ·rcases n2 j hj with h | h
     ·exact hF j h
     ·exact .inr (Nat.le_trans hf.size h)
    ·have h1 := HC.out
     rw [HE.out] at h1
     rw [← h1]
     simp
   case measure => simp [intOf]; omega
  ·have hk' := hk
   unfold topN at hk'
   have HL := Lib.hid hl
   have HC := Lib.hid he
   clear hl he
   go_wp2_with fail
   have hv : Value.int IntKind.u8 (k : Int) = B8 (UInt8.ofNat k) := by
    unfold B8; congr 1; rw [← zjd k (by omega)]; omega
   rw [hv]
   refine (zeJ _ F' _ g _ (hw.alloc _) _ 1 1 [UInt8.ofNat k] rfl ((Blk.new _ _ _).sl 0 1) ?_).mono ?_
   ·show bs.length + 1 ≤ _
    have := HL.out; have := zaR n; omega
   rintro e w2 ⟨rfl, h2⟩
   clear hv
   go_wp2_with fail
   go_end0
   refine ⟨rfl, ?_⟩
   have h1 := HC.out
   rw [zhv k (by omega)] at h1
   rw [← h1]
   exact (h2.alloc).trans hf hF
end Go.Proofs.YtippdjaakcgeoaaGreat
