/- Lemmas of the walks: LeP, MemB, LeM, WrA. (Laid together by shake.py.) -/
import Derived.StillTailTactics
import Derived.Laws.Rows
import Derived.Deep.QuietTactic
import Derived.BigQuiet
import Derived.Test.YtippdjaakcgeoaaGreatProg
import Derived.Test.YtippdjaakcgeoaaGreatGa01
set_option linter.unusedVariables false
set_option linter.unusedSimpArgs false
namespace Go.Proofs.YtippdjaakcgeoaaGreat
open Go Go.RowKit

theorem rdNum_of (m : Int) (n : Nat) (r : List UInt8) (h : (n : Int) ≤ m) (ht : n ≤ topN) : rdNum m (some (enc n ++ r)) = ((n : Int), some r) := rdNum_ok m (decN_of_enc n r ht) (by omega)
theorem rdRow_of (m : Int) (s r : List UInt8) (h : (s.length : Int) ≤ m) (ht : s.length ≤ topN) : rdRow m (some (rowB s ++ r)) = (s, some r) := by
  unfold rowB
  rw [List.append_assoc, rdRow_some (rdNum_of m s.length (s ++ r) h ht), if_neg (by simp), List.take_left, List.drop_left]
theorem rdFlag_of (b : Bool) (r : List UInt8) : rdFlag (some (flagB b ++ r)) = (b, some r) := by cases b <;> rfl
theorem rdNum_inv {m : Int} {s : Rd} {n : Int} {r : List UInt8} (h : rdNum m s = (n, some r)) : s = some (enc n.toNat ++ r) ∧ 0 ≤ n ∧ n ≤ m ∧ n ≤ (topN : Int) := by
  rcases rdNum_cases m s with h1 | ⟨bs, k, r', rfl, h1, h2, h3, h4⟩
  · rw [h1] at h; cases h
  · rw [h1] at h
    injection h with e1 e2
    injection e2 with e2
    subst e1; subst e2
    exact ⟨by rw [h4, Int.toNat_natCast], by omega, h3, by omega⟩
theorem rdFlag_inv {s : Rd} {b : Bool} {r : List UInt8} (h : rdFlag s = (b, some r)) : s = some (flagB b ++ r) := by
  unfold rdFlag at h
  split at h
  · cases h
  · cases h
  · rename_i c t
    split at h
    · cases h
    · rename_i hc
      injection h with e1 e2
      injection e2 with e2
      subst e1; subst e2
      have h2 : c = 0 ∨ c = 1 := by
        have h3 : c.toNat = 0 ∨ c.toNat = 1 := by omega
        rcases h3 with h3 | h3
        · exact .inl (UInt8.toNat_inj.1 (by simpa using h3))
        · exact .inr (UInt8.toNat_inj.1 (by simpa using h3))
      rcases h2 with rfl | rfl <;> rfl
theorem rdRow_inv {m : Int} {s : Rd} {x r : List UInt8} (h : rdRow m s = (x, some r)) : s = some (rowB x ++ r) ∧ (x.length : Int) ≤ m := by
  rcases rdNum_cases m s with h1 | ⟨bs, k, r', rfl, h1, h2, h3, h4⟩
  · rw [rdRow_none h1] at h; cases h
  · rw [rdRow_some h1] at h
    split at h
    · cases h
    · rename_i hk
      injection h with e1 e2
      injection e2 with e2
      have hl : x.length = k := by rw [← e1, List.length_take]; omega
      refine ⟨?_, by omega⟩
      rw [h4]
      congr 1
      unfold rowB
      rw [hl, List.append_assoc, ← e1, ← e2, List.take_append_drop]
/-- A state that is there was there ahead. -/
theorem rdNum_was {m : Int} {s : Rd} {r : List UInt8} (h : (rdNum m s).2 = some r) : rdNum m s = ((rdNum m s).1, some r) := by rw [← h]
theorem rdFlag_was {s : Rd} {r : List UInt8} (h : (rdFlag s).2 = some r) : rdFlag s = ((rdFlag s).1, some r) := by rw [← h]
theorem rdRow_was {m : Int} {s : Rd} {r : List UInt8} (h : (rdRow m s).2 = some r) : rdRow m s = ((rdRow m s).1, some r) := by rw [← h]
theorem encAll_nil : encAll [] = [] := rfl
theorem encAll_cons (l : List Int) (n : Int) : encAll (n :: l) = enc n.toNat ++ encAll l := by simp [encAll]

/-! Rows of numbers. -/
theorem rdNs_len (m : Int) (k : Nat) (s : Rd) : (rdNs m k s).1.length = k := by
  induction k with
  | zero => rfl
  | succ k ih => simp [rdNs, ih]
theorem rdNs_inv {m : Int} {k : Nat} {s : Rd} {r : List UInt8} (h : (rdNs m k s).2 = some r) : s = some (encAll (rdNs m k s).1 ++ r) ∧ ∀ n ∈ (rdNs m k s).1, 0 ≤ n ∧ n ≤ m := by
  induction k generalizing r with
  | zero =>
    have h0 : s = some r := h
    exact ⟨by rw [h0]; rfl, by intro n hn; cases hn⟩
  | succ k ih =>
    have h1 := rdNum_inv (rdNum_was (m := m) (s := (rdNs m k s).2) h)
    obtain ⟨h2, h3⟩ := ih h1.1
    refine ⟨h2.trans ?_, fun n hn => ?_⟩
    · congr 1
      show _ = encAll ((rdNs m k s).1 ++ [(rdNum m (rdNs m k s).2).1]) ++ r
      rw [encAll_snoc, List.append_assoc]
    · have hn : n ∈ (rdNs m k s).1 ++ [(rdNum m (rdNs m k s).2).1] := hn
      rcases List.mem_append.1 hn with h | h
      · exact h3 n h
      · rw [List.mem_singleton.1 h]; exact ⟨h1.2.1, h1.2.2.1⟩
theorem rdNs_of (m : Int) (l : List Int) (h : ∀ n ∈ l, 0 ≤ n ∧ n ≤ m) (hm : m ≤ topN) (r : List UInt8) (k : Nat) (hk : k ≤ l.length) : rdNs m k (some (encAll l ++ r)) = (l.take k, some (encAll (l.drop k) ++ r)) := by
  induction k with
  | zero => rfl
  | succ k ih =>
    have hlt : k < l.length := hk
    obtain ⟨h1, h2⟩ := h _ (List.getElem_mem hlt)
    have e : encAll (l.drop k) ++ r = enc l[k].toNat ++ (encAll (l.drop (k + 1)) ++ r) := by
      rw [List.drop_eq_getElem_cons hlt, encAll_cons, List.append_assoc]
    rw [rdNs, ih (by omega), e]
    simp only
    rw [rdNum_of _ _ _ (by omega) (by omega), List.take_succ_eq_append_getElem hlt]
    simp only [Int.toNat_of_nonneg h1]
theorem rdNodes_inv {s : Rd} {r : List UInt8} (h : (rdNodes s).2 = some r) : s = some (numsB (rdNodes s).1 ++ r) ∧ (rdNodes s).1.length ≤ 5 := by
  have h1 := rdNs_inv (m := 5) (k := (rdNum 5 s).1.toNat) (s := (rdNum 5 s).2) h
  have h2 := rdNum_inv (rdNum_was h1.1)
  have e : (rdNodes s).1.length = (rdNum 5 s).1.toNat := rdNs_len _ _ _
  refine ⟨h2.1.trans ?_, by omega⟩
  congr 1
  unfold numsB
  rw [e, List.append_assoc]
  rfl
theorem rdNodes_of (l : List Int) (hl : l.length ≤ 5) (h : ∀ n ∈ l, 0 ≤ n ∧ n ≤ 5) (r : List UInt8) : rdNodes (some (numsB l ++ r)) = (l, some r) := by
  unfold rdNodes numsB
  rw [List.append_assoc, rdNum_of _ _ _ (by omega) (by unfold topN; omega)]
  simp only [Int.toNat_natCast]
  rw [rdNs_of 5 l h (by unfold topN; omega) r _ (Nat.le_refl _), List.take_length, List.drop_length]
  rfl
/-- Nodes that rise are at most five. -/
theorem nodesOk_at {l : List Int} (h : nodesOk l = true) {i : Nat} (hi : i < l.length) : (1 ≤ l.getD i 0 ∧ l.getD i 0 ≤ 5) ∧ (i = 0 ∨ l.getD (i - 1) 0 < l.getD i 0) := by
  unfold nodesOk at h
  have h1 := List.all_eq_true.1 h i (List.mem_range.2 hi)
  unfold ndAt at h1
  simpa only [Bool.and_eq_true, Bool.or_eq_true, decide_eq_true_eq] using h1
theorem nodesOk_ge {l : List Int} (h : nodesOk l = true) : ∀ i, i < l.length → (i : Int) + 1 ≤ l.getD i 0 := by
  intro i
  induction i with
  | zero => intro hi; have := (nodesOk_at h hi).1; omega
  | succ i ih =>
    intro hi
    have h1 := ih (by omega)
    have h2 := (nodesOk_at h hi).2
    rcases h2 with h2 | h2
    · omega
    · have e : i + 1 - 1 = i := by omega
      rw [e] at h2
      push_cast
      omega
theorem nodesOk_len {l : List Int} (h : nodesOk l = true) : l.length ≤ 5 := by
  rcases Nat.lt_or_ge 5 l.length with hlt | hge
  · have h1 := nodesOk_ge h 5 hlt
    have h2 := (nodesOk_at h hlt).1
    omega
  · exact hge
theorem nodesOk_mem {l : List Int} (h : nodesOk l = true) : ∀ n ∈ l, 0 ≤ n ∧ n ≤ 5 := by
  intro n hn
  obtain ⟨i, hi, rfl⟩ := List.mem_iff_getElem.1 hn
  have := (nodesOk_at h hi).1
  rw [List.getD_eq_getElem?_getD, List.getElem?_eq_getElem hi] at this
  simp only [Option.getD_some] at this
  omega

/-! Configs, entries, bases. -/
theorem cfgOk_parts {c : Cfg} (h : cfgOk c = true) : nodesOk c.v = true ∧ nodesOk c.o = true ∧ nodesOk c.l = true ∧ nodesOk c.w = true := by
  unfold cfgOk at h
  simpa only [Bool.and_eq_true] using h
theorem cfgNone_eq {c : Cfg} (h : cfgNone c = true) : c = cfgZ := by
  unfold cfgNone at h
  have h := of_decide_eq_true h
  obtain ⟨v, o, l, w⟩ := c
  simp only at h
  have h1 : v = [] := List.eq_nil_of_length_eq_zero (by omega)
  have h2 : o = [] := List.eq_nil_of_length_eq_zero (by omega)
  have h3 : l = [] := List.eq_nil_of_length_eq_zero (by omega)
  have h4 : w = [] := List.eq_nil_of_length_eq_zero (by omega)
  rw [h1, h2, h3, h4]; rfl
theorem cfgZ_ok : cfgOk cfgZ = true := by decide
theorem rdCfg_inv {s : Rd} {r : List UInt8} (h : (rdCfg s).2 = some r) : s = some (cfgB (rdCfg s).1 ++ r) := by
  have h4 := rdNodes_inv h
  have h3 := rdNodes_inv h4.1
  have h2 := rdNodes_inv h3.1
  have h1 := rdNodes_inv h2.1
  refine h1.1.trans ?_
  unfold cfgB
  simp only [List.append_assoc]
  rfl
theorem rdCfg_of {c : Cfg} (h : cfgOk c = true) (r : List UInt8) : rdCfg (some (cfgB c ++ r)) = (c, some r) := by
  obtain ⟨h1, h2, h3, h4⟩ := cfgOk_parts h
  unfold rdCfg cfgB
  simp only [List.append_assoc]
  rw [rdNodes_of _ (nodesOk_len h1) (nodesOk_mem h1)]
  simp only
  rw [rdNodes_of _ (nodesOk_len h2) (nodesOk_mem h2)]
  simp only
  rw [rdNodes_of _ (nodesOk_len h3) (nodesOk_mem h3)]
  simp only
  rw [rdNodes_of _ (nodesOk_len h4) (nodesOk_mem h4)]
theorem topOk_iff (n : Int) : topOk n = true ↔ 0 ≤ n ∧ n ≤ 1073741824 := by unfold topOk; simp
/-- What holds of an entry that is one. -/
theorem entOk_sm {e : Ent} (h : entOk e = true) : (0 ≤ e.term ∧ e.term ≤ 1073741824) ∧ (1 ≤ e.kind ∧ e.kind ≤ 3) ∧ e.cmd.length ≤ 131072 ∧ cfgOk e.cfg = true := by
  unfold entOk at h
  rw [Bool.and_eq_true, topOk_iff] at h
  obtain ⟨h1, h2⟩ := h
  refine ⟨h1, ?_⟩
  split at h2
  · rw [Bool.and_eq_true, decide_eq_true_eq] at h2
    exact ⟨by omega, by omega, by rw [cfgNone_eq h2.2]; exact cfgZ_ok⟩
  · split at h2
    · rw [Bool.and_eq_true, decide_eq_true_eq] at h2
      exact ⟨by omega, by omega, by rw [cfgNone_eq h2.2]; exact cfgZ_ok⟩
    · simp only [Bool.and_eq_true, decide_eq_true_eq] at h2
      exact ⟨by omega, by omega, h2.2.2⟩
theorem basOk_sm {b : Bas} (h : basOk b = true) : (0 ≤ b.index ∧ b.index ≤ 1073741824) ∧ (0 ≤ b.term ∧ b.term ≤ 1073741824) ∧ cfgOk b.cfg = true := by
  unfold basOk at h
  simpa only [Bool.and_eq_true, topOk_iff] using h
theorem rdEnt0_inv {s : Rd} {r : List UInt8} (h : (rdEnt0 s).2 = some r) : s = some (entB (rdEnt0 s).1 ++ r) := by
  have h4 := rdCfg_inv (s := (rdRow 131072 (rdNum 255 (rdNum 1073741824 s).2).2).2) h
  have h3 := rdRow_inv (rdRow_was h4)
  have h2 := rdNum_inv (rdNum_was h3.1)
  have h1 := rdNum_inv (rdNum_was h2.1)
  refine h1.1.trans ?_
  unfold entB
  simp only [List.append_assoc]
  rfl
theorem rdEnt0_of {e : Ent} (h : entOk e = true) (r : List UInt8) : rdEnt0 (some (entB e ++ r)) = (e, some r) := by
  obtain ⟨h1, h2, h3, h4⟩ := entOk_sm h
  unfold rdEnt0 entB
  simp only [List.append_assoc]
  rw [rdNum_of _ _ _ (by omega) (by unfold topN; omega)]
  simp only
  rw [rdNum_of _ _ _ (by omega) (by unfold topN; omega)]
  simp only
  rw [rdRow_of _ _ _ (by omega) (by unfold topN; omega)]
  simp only
  rw [rdCfg_of h4]
  simp only [Int.toNat_of_nonneg h1.1, Int.toNat_of_nonneg (show 0 ≤ e.kind by omega)]
theorem rdBas0_inv {s : Rd} {r : List UInt8} (h : (rdBas0 s).2 = some r) : s = some (basB (rdBas0 s).1 ++ r) := by
  have h3 := rdCfg_inv (s := (rdNum 1073741824 (rdNum 1073741824 s).2).2) h
  have h2 := rdNum_inv (rdNum_was h3)
  have h1 := rdNum_inv (rdNum_was h2.1)
  refine h1.1.trans ?_
  unfold basB
  simp only [List.append_assoc]
  rfl
theorem rdBas0_of {b : Bas} (h : basOk b = true) (r : List UInt8) : rdBas0 (some (basB b ++ r)) = (b, some r) := by
  obtain ⟨h1, h2, h3⟩ := basOk_sm h
  unfold rdBas0 basB
  simp only [List.append_assoc]
  rw [rdNum_of _ _ _ (by omega) (by unfold topN; omega)]
  simp only
  rw [rdNum_of _ _ _ (by omega) (by unfold topN; omega)]
  simp only
  rw [rdCfg_of h3]
  simp only [Int.toNat_of_nonneg h1.1, Int.toNat_of_nonneg h2.1]
theorem rdEnt_yes {s : Rd} (h : (rdEnt s).2 = true) : rdEnt s = ((rdEnt0 s).1, true) ∧ entOk (rdEnt0 s).1 = true ∧ ∃ r, (rdEnt0 s).2 = some r := by
  unfold rdEnt at h ⊢
  split at h
  · rename_i hk
    rw [if_pos hk]
    unfold rdEntOk at hk
    rw [Bool.and_eq_true] at hk
    exact ⟨rfl, hk.2, Option.isSome_iff_exists.1 hk.1⟩
  · cases h
theorem rdBas_yes {s : Rd} (h : (rdBas s).2 = true) : rdBas s = ((rdBas0 s).1, true) ∧ basOk (rdBas0 s).1 = true ∧ ∃ r, (rdBas0 s).2 = some r := by
  unfold rdBas at h ⊢
  split at h
  · rename_i hk
    rw [if_pos hk]
    unfold rdBasOk at hk
    rw [Bool.and_eq_true] at hk
    exact ⟨rfl, hk.2, Option.isSome_iff_exists.1 hk.1⟩
  · cases h
theorem rdEnt_of {e : Ent} (h : entOk e = true) (r : List UInt8) : rdEnt (some (entB e ++ r)) = (e, true) := by
  unfold rdEnt
  rw [if_pos (by unfold rdEntOk; rw [rdEnt0_of h]; simp [h]), rdEnt0_of h]
theorem rdBas_of {b : Bas} (h : basOk b = true) (r : List UInt8) : rdBas (some (basB b ++ r)) = (b, true) := by
  unfold rdBas
  rw [if_pos (by unfold rdBasOk; rw [rdBas0_of h]; simp [h]), rdBas0_of h]
theorem rdEnts_len (k : Nat) (s : Rd) : (rdEnts k s).1.1.length = k := by
  induction k with
  | zero => rfl
  | succ k ih => simp [rdEnts, ih]
theorem rdEnts_inv {k : Nat} {s : Rd} {r : List UInt8} (h : (rdEnts k s).2 = some r) (hok : (rdEnts k s).1.2 = true) : s = some (entsB (rdEnts k s).1.1 ++ r) := by
  induction k generalizing r with
  | zero =>
    have h0 : s = some r := h
    rw [h0]; rfl
  | succ k ih =>
    have hok : ((rdEnts k s).1.2 && (rdEnt (rdEnts k s).2).2) = true := hok
    rw [Bool.and_eq_true] at hok
    have h1 := rdEnt0_inv (s := (rdEnts k s).2) h
    refine (ih h1 hok.1).trans ?_
    congr 1
    show _ = entsB ((rdEnts k s).1.1 ++ [(rdEnt (rdEnts k s).2).1]) ++ r
    rw [(rdEnt_yes hok.2).1]
    unfold entsB
    simp
/-- Once an entry is none, what is read is none. -/
theorem rdEnts_bad {k n : Nat} {s : Rd} (h : (rdEnts k s).1.2 = false) (hk : k ≤ n) : (rdEnts n s).1.2 = false := by
  induction n with
  | zero =>
    obtain rfl : k = 0 := by omega
    exact h
  | succ n ih =>
    rcases Nat.lt_or_ge k (n + 1) with h1 | h1
    · show ((rdEnts n s).1.2 && _) = false
      rw [ih (by omega)]; rfl
    · obtain rfl : k = n + 1 := by omega
      exact h
theorem rdEnts_of (l : List Ent) (h : ∀ x ∈ l, entOk x = true) (r : List UInt8) (k : Nat) (hk : k ≤ l.length) : rdEnts k (some (entsB l ++ r)) = ((l.take k, true), some (entsB (l.drop k) ++ r)) := by
  induction k with
  | zero => rfl
  | succ k ih =>
    have hlt : k < l.length := hk
    have e : entsB (l.drop k) ++ r = entB l[k] ++ (entsB (l.drop (k + 1)) ++ r) := by
      unfold entsB
      rw [List.drop_eq_getElem_cons hlt, List.map_cons, List.flatten_cons, List.append_assoc]
    rw [rdEnts, ih (by omega), e]
    simp only
    rw [rdEnt_of (h _ (List.getElem_mem hlt)), rdEnt0_of (h _ (List.getElem_mem hlt)), List.take_succ_eq_append_getElem hlt]
    rfl

/-! Letters. -/
/-- What holds of a letter that is right. -/
structure LetSm (x : LetF) : Prop where
  head : ((1 ≤ x.kind ∧ x.kind ≤ 8) ∧ (0 ≤ x.group ∧ x.group ≤ 4)) ∧ (1 ≤ x.src ∧ x.src ≤ 5) ∧ (1 ≤ x.dst ∧ x.dst ≤ 5)
  nums : ((0 ≤ x.term ∧ x.term ≤ 1073741824) ∧ (0 ≤ x.index ∧ x.index ≤ 1073741824)) ∧ ((0 ≤ x.logt ∧ x.logt ≤ 1073741824) ∧ (0 ≤ x.commit ∧ x.commit ≤ 1073741824)) ∧ (0 ≤ x.size ∧ x.size ≤ 1073741824) ∧ (0 ≤ x.at_ ∧ x.at_ ≤ 1073741824)
  tag : 0 ≤ x.tag ∧ x.tag ≤ 4611686018427387903
  ents : x.ents.length ≤ 30 ∧ ∀ e ∈ x.ents, entOk e = true
  base : basOk x.base = true
  bytes : x.bytes.length ≤ 131072
theorem letOk_iff (x : LetF) : letOk x = true ↔ LetSm x := by
  unfold letOk
  simp only [Bool.and_eq_true, decide_eq_true_eq, topOk_iff, List.all_eq_true]
  constructor
  · rintro ⟨⟨h1, h2, h3, h4, h5, h6⟩, h7, ⟨h8, h9, h10, h11⟩, ⟨h12, h13, h14⟩, h15⟩
    exact ⟨⟨⟨h8, h9⟩, h10, h11⟩, ⟨⟨h1, h2⟩, ⟨h3, h4⟩, h5, h6⟩, h7, ⟨h12, h15⟩, h14, h13⟩
  · rintro ⟨⟨⟨h8, h9⟩, h10, h11⟩, ⟨⟨h1, h2⟩, ⟨h3, h4⟩, h5, h6⟩, h7, ⟨h12, h15⟩, h14, h13⟩
    exact ⟨⟨h1, h2, h3, h4, h5, h6⟩, h7, ⟨h8, h9, h10, h11⟩, ⟨h12, h13, h14⟩, h15⟩
theorem rdBy_len (hd : List Int) (s : Rd) : (rdBy hd s).1.length = hd.length := by
  induction hd generalizing s with
  | nil => rfl
  | cons m l ih => simp [rdBy, ih]
theorem rdBy_inv {hd : List Int} {s : Rd} {r : List UInt8} (h : (rdBy hd s).2 = some r) : s = some (encAll (rdBy hd s).1 ++ r) := by
  induction hd generalizing s r with
  | nil =>
    have h0 : s = some r := h
    rw [h0]; rfl
  | cons m l ih =>
    have h1 := ih (s := (rdNum m s).2) h
    have h2 := rdNum_inv (rdNum_was h1)
    refine h2.1.trans ?_
    congr 1
    show _ = encAll ((rdNum m s).1 :: (rdBy l (rdNum m s).2).1) ++ r
    rw [encAll_cons, List.append_assoc]
/-- Numbers within bounds, one by one. -/
def InB : List Int → List Int → Prop
  | [], [] => True
  | m :: hd, n :: l => (0 ≤ n ∧ n ≤ m ∧ n ≤ topN) ∧ InB hd l
  | _, _ => False
theorem rdBy_of {hd l : List Int} (h : InB hd l) (r : List UInt8) : rdBy hd (some (encAll l ++ r)) = (l, some r) := by
  induction hd generalizing l with
  | nil =>
    cases l with
    | nil => rfl
    | cons n l => cases h
  | cons m hd ih =>
    cases l with
    | nil => cases h
    | cons n l =>
      obtain ⟨⟨h1, h2, h3⟩, h4⟩ := h
      rw [encAll_cons, List.append_assoc, rdBy, rdNum_of _ _ _ (by omega) (by omega)]
      simp only
      rw [ih h4, Int.toNat_of_nonneg h1]
theorem list8 {l : List Int} (h : l.length = 8) : l = [l.getD 0 0, l.getD 1 0, l.getD 2 0, l.getD 3 0, l.getD 4 0, l.getD 5 0, l.getD 6 0, l.getD 7 0] := by
  match l, h with
  | [_, _, _, _, _, _, _, _], _ => rfl
theorem headP_in {x : LetF} (h : LetSm x) : InB headP (headNs x) := by
  obtain ⟨⟨⟨h8, h9⟩, h10, h11⟩, ⟨⟨h1, h2⟩, ⟨h3, h4⟩, h5, h6⟩, h7, _⟩ := h
  unfold headP headNs
  simp only [InB]
  refine ⟨?_, ?_, ?_, ?_, ?_, ?_, ?_, ?_, trivial⟩ <;> unfold topN <;> omega
theorem headR_in {x : LetF} (h : LetSm x) : InB headR (headNs x) := by
  obtain ⟨⟨⟨h8, h9⟩, h10, h11⟩, ⟨⟨h1, h2⟩, ⟨h3, h4⟩, h5, h6⟩, h7, _⟩ := h
  unfold headR headNs
  simp only [InB]
  refine ⟨?_, ?_, ?_, ?_, ?_, ?_, ?_, ?_, trivial⟩ <;> unfold topN <;> omega
theorem rdLet_inv {hd : List Int} (hh : hd.length = 8) {s : Rd} (h : (rdLet hd s).1.2 = true) : letOk (rdLet hd s).1.1 = true ∧ ∃ r, (rdLet hd s).2 = some r ∧ s = some (letB (rdLet hd s).1.1 ++ r) := by
  have h' := h
  unfold rdLet at h'
  simp only [Bool.and_eq_true] at h'
  obtain ⟨e1, e2, e3, e4⟩ := h'
  obtain ⟨r, hr⟩ := Option.isSome_iff_exists.1 e3
  refine ⟨e4, r, hr, ?_⟩
  have g9 := rdRow_inv (rdRow_was hr)
  have g8 := rdNum_inv (rdNum_was g9.1)
  have g7 := rdNum_inv (rdNum_was g8.1)
  have g6 := rdNum_inv (rdNum_was g7.1)
  have g5 := rdBas0_inv g6.1
  have g4 := rdEnts_inv g5 e1
  have g3 := rdNum_inv (rdNum_was g4)
  have g2 := rdFlag_inv (rdFlag_was g3.1)
  have g1 := rdBy_inv g2
  refine g1.trans ?_
  congr 1
  have hb := (rdBas_yes e2).1
  have hl := list8 (show (rdBy hd s).1.length = 8 by rw [rdBy_len, hh])
  have he := rdEnts_len (rdNum 30 (rdFlag (rdBy hd s).2).2).1.toNat (rdNum 30 (rdFlag (rdBy hd s).2).2).2
  unfold letB headNs rdLet
  simp only [List.append_assoc]
  rw [← hl, he, hb]
  simp only [encAll_cons, encAll_nil, List.append_assoc, List.append_nil]
theorem rdLet_of {hd : List Int} {x : LetF} (h : letOk x = true) (hi : InB hd (headNs x)) (r : List UInt8) : rdLet hd (some (letB x ++ r)) = ((x, true), some r) := by
  have hs := (letOk_iff x).1 h
  obtain ⟨_, ⟨⟨h1, h2⟩, ⟨h3, h4⟩, h5, h6⟩, h7, h8, h9, h10⟩ := hs
  unfold rdLet letB
  simp only [List.append_assoc]
  rw [rdBy_of hi]
  simp only
  rw [rdFlag_of]
  simp only
  rw [rdNum_of _ _ _ (by omega) (by unfold topN; omega)]
  simp only [Int.toNat_natCast]
  rw [rdEnts_of _ h8.2 _ _ (Nat.le_refl _), List.take_length, List.drop_length]
  have e0 : entsB [] = [] := rfl
  simp only [e0, List.nil_append, rdBas0_of h9, rdBas_of h9, encAll_cons, encAll_nil, List.append_assoc, List.append_nil]
  rw [rdNum_of _ _ _ (by omega) (by unfold topN; omega)]
  simp only
  rw [rdNum_of _ _ _ (by omega) (by unfold topN; omega)]
  simp only
  rw [rdNum_of _ _ _ (by omega) (by unfold topN; omega)]
  simp only
  rw [rdRow_of _ _ _ (by omega) (by unfold topN; omega)]
  simp only [Int.toNat_of_nonneg h5.1, Int.toNat_of_nonneg h6.1, Int.toNat_of_nonneg h7.1, headNs, List.getD_cons_zero, List.getD_cons_succ, Option.isSome_some, Bool.true_and]
  rw [show (⟨x.kind, x.group, x.src, x.dst, x.term, x.index, x.logt, x.commit, x.ok, x.ents, x.base, x.size, x.at_, x.tag, x.bytes⟩ : LetF) = x from rfl, h]
theorem rdLets_inv {hd : List Int} (hh : hd.length = 8) {k : Nat} {s r : List UInt8} {l : List LetF} (h : rdLets hd k s = some (l, r)) : l.length = k ∧ (∀ x ∈ l, letOk x = true) ∧ s = (l.map letB).flatten ++ r := by
  induction k generalizing l r with
  | zero =>
    rw [rdLets] at h
    injection h with h
    injection h with h1 h2
    subst h1; subst h2
    exact ⟨rfl, (by intro x hx; cases hx), rfl⟩
  | succ k ih =>
    rw [rdLets] at h
    split at h
    · cases h
    · rename_i l0 r0 h0
      obtain ⟨i1, i2, i3⟩ := ih h0
      split at h
      · rename_i x r' hx
        injection h with h
        injection h with h1 h2
        subst h1; subst h2
        obtain ⟨j1, r2, j2, j3⟩ := rdLet_inv hh (s := some r0) (by rw [hx])
        rw [hx] at j1 j2 j3
        simp only at j1 j2 j3
        injection j2 with j2
        subst j2
        injection j3 with j3
        refine ⟨by simp [i1], fun y hy => ?_, ?_⟩
        · rcases List.mem_append.1 hy with h | h
          · exact i2 y h
          · rw [List.mem_singleton.1 h]; exact j1
        · rw [i3, j3]
          simp
      · cases h
theorem rdLets_of {hd : List Int} (l : List LetF) (h : ∀ x ∈ l, letOk x = true ∧ InB hd (headNs x)) (r : List UInt8) (k : Nat) (hk : k ≤ l.length) : rdLets hd k ((l.map letB).flatten ++ r) = some (l.take k, ((l.drop k).map letB).flatten ++ r) := by
  induction k with
  | zero => rfl
  | succ k ih =>
    have hlt : k < l.length := hk
    have e : ((l.drop k).map letB).flatten ++ r = letB l[k] ++ (((l.drop (k + 1)).map letB).flatten ++ r) := by
      rw [List.drop_eq_getElem_cons hlt, List.map_cons, List.flatten_cons, List.append_assoc]
    obtain ⟨h1, h2⟩ := h _ (List.getElem_mem hlt)
    rw [rdLets, ih (by omega)]
    simp only
    rw [e, rdLet_of h1 h2]
    simp only
    rw [List.take_succ_eq_append_getElem hlt]
/-- The two ways to bound a head. -/
def HeadOk (hd : List Int) : Prop := hd.length = 8 ∧ ∀ x, letOk x = true → InB hd (headNs x)
theorem headP_ok : HeadOk headP := ⟨rfl, fun x h => headP_in ((letOk_iff x).1 h)⟩
theorem headR_ok : HeadOk headR := ⟨rfl, fun x h => headR_in ((letOk_iff x).1 h)⟩
theorem letsOk_iff (l : List LetF) : letsOk l = true ↔ ∀ x ∈ l, letOk x = true := by unfold letsOk; exact List.all_eq_true
theorem letsGet_inv {hd : List Int} (hh : HeadOk hd) {b : List UInt8} {l : List LetF} (h : letsGet hd b = some l) : letsOk l = true ∧ letsB l = b ∧ l.length ≤ 1073741824 := by
  unfold letsGet at h
  split at h
  · cases h
  · rename_i n r hn
    obtain ⟨h1, h2, h3, _⟩ := rdNum_inv hn
    injection h1 with h1
    split at h
    · rename_i l' hl
      injection h with h
      subst h
      obtain ⟨i1, i2, i3⟩ := rdLets_inv hh.1 hl
      refine ⟨(letsOk_iff _).2 i2, ?_, by omega⟩
      unfold letsB
      rw [h1, i3, i1, List.append_nil]
    · cases h
theorem letsGet_of {hd : List Int} (hh : HeadOk hd) {l : List LetF} (h : letsOk l = true) (hl : l.length ≤ 1073741824) (r : List UInt8) : letsGet hd (letsB l ++ r) = if r = [] then some l else none := by
  have h := (letsOk_iff l).1 h
  unfold letsGet letsB
  rw [List.append_assoc, rdNum_of _ _ _ (by omega) (by unfold topN; omega)]
  simp only [Int.toNat_natCast]
  rw [rdLets_of l (fun x hx => ⟨h x hx, hh.2 x (h x hx)⟩) r _ (Nat.le_refl _), List.take_length, List.drop_length]
  simp only [List.map_nil, List.flatten_nil, List.nil_append]
  cases r with
  | nil => rfl
  | cons c r => rfl
/-- The program's way to read is the document's. -/
theorem letsGet_eq (b : List UInt8) : letsGet headP b = letsGet headR b := by
  cases h : letsGet headP b with
  | some l =>
    obtain ⟨h1, h2, h3⟩ := letsGet_inv headP_ok h
    have := letsGet_of headR_ok h1 h3 []
    rw [List.append_nil, h2] at this
    rw [this]; rfl
  | none =>
    cases h2 : letsGet headR b with
    | none => rfl
    | some l =>
      obtain ⟨i1, i2, i3⟩ := letsGet_inv headR_ok h2
      have := letsGet_of headP_ok i1 i3 []
      rw [List.append_nil, i2, h] at this
      cases this
end Go.Proofs.YtippdjaakcgeoaaGreat

namespace Go.Proofs.YtippdjaakcgeoaaGreat
open Go Go.RowKit

section
variable {P : Program}
/-- A struct's, or an array's, cells loaded at once. -/
theorem run_loadVar_cells (w : World) (g o : Nat) (ty : TypeId) (cs : List Value) (d : TypeDesc) (hc : ∀ j v, cs[j]? = some v → w.cell? ⟨g, o + j, none⟩ = some v)
    (hu : P.underlying ty = some d) (hd : (match d with | .struct _ | .array _ _ => true | _ => false) = true) (hi : (P.info? ty).map (·.size) = some cs.length) :
    (loadVar ty ⟨g, o, none⟩).run P w = .ok (.agg cs.toArray) w := by
  have hl : (loadCells ⟨g, o, none⟩ cs.length).run P w = .ok cs.toArray w :=
    run_loadCells_list (P := P) w ⟨g, o, none⟩ cs (fun j v hv => by
      rw [Addr.add_lit]
      exact hc j v hv)
  cases hq : P.info? ty with
  | none => simp [hq] at hi
  | some i =>
    have hs : i.size = cs.length := by simpa [hq] using hi
    have hagg : (isAgg ty).run P w = .ok true w := by
      unfold isAgg
      rw [Sem.run_bind, run_underlying hu w]
      cases d <;> simp_all
    simp [loadVar, Sem.run_bind, hagg, sizeOf, typeInfo, hq, hs, hl]
theorem wp_load_cells {o : Oper} {a : Act} {w : World} {K : Act → World → Prop} {Q : Exit → Act → World → Prop} (ty : TypeId) (x : Operand) (ho : o.op = .load ty x)
    (g off : Nat) (hx : a.eval x = .pointer (some ⟨g, off, none⟩)) (cs : List Value) (d : TypeDesc) (hc : ∀ j v, cs[j]? = some v → w.cell? ⟨g, off + j, none⟩ = some v)
    (hu : P.underlying ty = some d) (hd : (match d with | .struct _ | .array _ _ => true | _ => false) = true) (hi : (P.info? ty).map (·.size) = some cs.length)
    (h : K (a.put o.dst (.agg cs.toArray)) w) : o.wp P a w K Q := by
  unfold Oper.wp execOp
  simp only [ho, hx, Instr.loadAt, Instr.sureAddr, Sem.run_bind, Sem.run_pure, Result.andThen_ok, run_loadVar_cells w g off ty cs d hc hu hd hi]
  exact h
theorem wl_load_cells {ops : Array Oper} {rest : List Oper} {o : Oper} {a : Act} {w : World} {Q : Exit → Act → World → Prop} (hgd : o.guard = none) (ty : TypeId) (x : Operand) (ho : o.op = .load ty x)
    (g off : Nat) (hx : a.eval x = .pointer (some ⟨g, off, none⟩)) (cs : List Value) (d : TypeDesc) (hc : ∀ j v, cs[j]? = some v → w.cell? ⟨g, off + j, none⟩ = some v)
    (hu : P.underlying ty = some d) (hd : (match d with | .struct _ | .array _ _ => true | _ => false) = true) (hi : (P.info? ty).map (·.size) = some cs.length)
    (h : wpList P ops Q rest (a.put o.dst (.agg cs.toArray)) w) : wpList P ops Q (o :: rest) a w :=
  wpList_plain hgd fun _ hK => wp_load_cells ty x ho g off hx cs d hc hu hd hi (hK _ _ h)
end

/-- The cells of a block that was made just now. -/
theorem sl_new (w : World) (t : TypeId) (cs : List Value) (n : Nat) (hn : w.heap.size = n) : Sl (w.alloc (.cells cs.toArray t)) (· = n) (some ⟨n, 0, none⟩) cs := by
  subst hn
  have h := (Blk.new w t cs.toArray).sl 0 cs.length
  simpa using h

/-- A world in which only new blocks were made, or turned, since w. -/
def Later (w : World) : Type := { w' : World // Nw w w' }
instance (w : World) : Nonempty (Later w) := ⟨⟨w, Fr.refl _ _⟩⟩
def Later.at_ {w : World} (n : Later w) : World := n.val
theorem Later.nw {w : World} (n : Later w) : Nw w n.at_ := n.property
theorem Later.cell {w : World} {p : Addr} {v : Value} (h : w.cell? p = some v) (n : Later w) : n.at_.cell? p = some v :=
  (n.nw.cell (World.block_lt_of_cell? _ _ h) (fun h => h)).trans h
theorem Later.call {P : Program} {f : FuncId} {args : Array Value} {w : World} {n : Later w} {v : Value} (h : Calls P f args n.at_ fun e w' => e = .returned v ∧ Nw n.at_ w') :
    Calls P f args n.at_ fun e w'' => e = .returned v ∧ ∃ m : Later w, w'' = m.at_ :=
  h.mono fun _ w' ⟨he, hq⟩ => ⟨he, ⟨w', n.nw.tr hq⟩, rfl⟩
theorem Later.same {P : Program} {f : FuncId} {args : Array Value} {w : World} {n : Later w} {v : Value} (h : Calls P f args n.at_ fun e w' => e = .returned v ∧ n.at_ = w') :
    Calls P f args n.at_ fun e w'' => e = .returned v ∧ ∃ m : Later w, w'' = m.at_ :=
  h.mono fun _ _ ⟨he, hq⟩ => ⟨he, n, hq.symm⟩
theorem wpQuiet_later {P : Program} {ops : Array Oper} {w : World} {Q : Exit → Act → World → Prop} {a : Act} (h : ∀ w', Nw w w' → Q .normal a w') :
    wpQuiet P ops (fun w' => ∃ n : Later w, w' = n.at_) (fun a' => ∀ w', (∃ n : Later w, w' = n.at_) → Q .normal a' w') [] a :=
  wpQuiet_nil fun w' ⟨n, hn⟩ => h w' (by rw [hn]; exact n.nw)
/-- A drawn region whose operations read, and whose callees make new memory alone: one walk in the order of the text. -/
theorem wp_region_later {P : Program} {id : Nat} {Q : Exit → Act → World → Prop} {a : Act} {w : World} {l : List Oper} (hm : P.follows .mixedOrders = true) (hB : Region.lexB .any l.toArray = true)
    (h : wpQuiet P l.toArray (fun w' => ∃ n : Later w, w' = n.at_) (fun a' => ∀ w', (∃ n : Later w, w' = n.at_) → Q .normal a' w') l a) : (Code.region id l.toArray true).wp P Q a w :=
  wp_region_quiet (C := fun w' => ∃ n : Later w, w' = n.at_) hm hB ⟨⟨w.drew, (Fr.refl _ w).drew⟩, rfl⟩ (by simpa using h)
end Go.Proofs.YtippdjaakcgeoaaGreat

namespace Go.Proofs.YtippdjaakcgeoaaGreat
open Go Go.RowKit

/-- A list that lies somewhere. -/
structure Ls (α : Type) where
  a : Option Addr
  c : Nat
  l : List α
abbrev Ls.v {α : Type} (s : Ls α) : Value := .slice s.a s.l.length s.c
structure CfgM where
  v : Ls Int
  o : Ls Int
  l : Ls Int
  w : Ls Int
structure EntM where
  term : Int
  kind : Int
  cmd : Ls UInt8
  cfg : CfgM
structure BasM where
  index : Int
  term : Int
  cfg : CfgM
structure LetM where
  kind : Int
  group : Int
  src : Int
  dst : Int
  term : Int
  index : Int
  logt : Int
  commit : Int
  ok : Bool
  ents : Ls EntM
  base : BasM
  size : Int
  at_ : Int
  tag : Int
  bytes : Ls UInt8
def lsZ {α : Type} : Ls α := ⟨none, 0, []⟩
def cfgMZ : CfgM := ⟨lsZ, lsZ, lsZ, lsZ⟩
def entMZ : EntM := ⟨0, 0, lsZ, cfgMZ⟩
def basMZ : BasM := ⟨0, 0, cfgMZ⟩
def letMZ : LetM := ⟨0, 0, 0, 0, 0, 0, 0, 0, false, lsZ, basMZ, 0, 0, 0, lsZ⟩
/-- What they say, wherever they lie. -/
abbrev CfgM.x (c : CfgM) : Cfg := ⟨c.v.l, c.o.l, c.l.l, c.w.l⟩
abbrev EntM.x (e : EntM) : Ent := ⟨e.term, e.kind, e.cmd.l, e.cfg.x⟩
abbrev BasM.x (b : BasM) : Bas := ⟨b.index, b.term, b.cfg.x⟩
abbrev LetM.x (x : LetM) : LetF := ⟨x.kind, x.group, x.src, x.dst, x.term, x.index, x.logt, x.commit, x.ok, x.ents.l.map EntM.x, x.base.x, x.size, x.at_, x.tag, x.bytes.l⟩
abbrev U8V (n : Int) : Value := .int .u8 n
abbrev entL (e : EntM) : List Value := [I64 e.term, U8V e.kind, e.cmd.v, e.cfg.v.v, e.cfg.o.v, e.cfg.l.v, e.cfg.w.v]
abbrev letL (x : LetM) : List Value :=
  [U8V x.kind, I64 x.group, I64 x.src, I64 x.dst, I64 x.term, I64 x.index, I64 x.logt, I64 x.commit, .bool x.ok, x.ents.v, I64 x.base.index, I64 x.base.term, x.base.cfg.v.v, x.base.cfg.o.v, x.base.cfg.l.v, x.base.cfg.w.v, I64 x.size, I64 x.at_, I64 x.tag, x.bytes.v]
abbrev cfgA (c : CfgM) : Array Value := #[c.v.v, c.o.v, c.l.v, c.w.v]
abbrev entA (e : EntM) : Array Value := #[I64 e.term, U8V e.kind, e.cmd.v, e.cfg.v.v, e.cfg.o.v, e.cfg.l.v, e.cfg.w.v]
abbrev basA (b : BasM) : Array Value := #[I64 b.index, I64 b.term, b.cfg.v.v, b.cfg.o.v, b.cfg.l.v, b.cfg.w.v]
abbrev letA (x : LetM) : Array Value :=
  #[U8V x.kind, I64 x.group, I64 x.src, I64 x.dst, I64 x.term, I64 x.index, I64 x.logt, I64 x.commit, .bool x.ok, x.ents.v, I64 x.base.index, I64 x.base.term, x.base.cfg.v.v, x.base.cfg.o.v, x.base.cfg.l.v, x.base.cfg.w.v, I64 x.size, I64 x.at_, I64 x.tag, x.bytes.v]
def entF (e : EntM) : List Value := entL e
def letF (x : LetM) : List Value := letL x
def intsC (l : List Int) : List Value := l.map I64
def entsC (l : List EntM) : List Value := (l.map entF).flatten
def letsC (l : List LetM) : List Value := (l.map letF).flatten
theorem entsC_append (l m : List EntM) : entsC (l ++ m) = entsC l ++ entsC m := by simp [entsC]
theorem letsC_append (l m : List LetM) : letsC (l ++ m) = letsC l ++ letsC m := by simp [letsC]
theorem intsC_append (l m : List Int) : intsC (l ++ m) = intsC l ++ intsC m := by simp [intsC]
theorem entsC_one (e : EntM) : entsC [e] = entL e := by simp [entsC, entF]
theorem letsC_one (x : LetM) : letsC [x] = letL x := by simp [letsC, letF]
theorem entL_cell (e : EntM) : ∀ u ∈ entL e, u.oneCell' = true := by
  intro u hu
  simp only [List.mem_cons, List.not_mem_nil, or_false] at hu
  rcases hu with rfl | rfl | rfl | rfl | rfl | rfl | rfl <;> rfl
theorem letL_cell (x : LetM) : ∀ u ∈ letL x, u.oneCell' = true := by
  intro u hu
  simp only [List.mem_cons, List.not_mem_nil, or_false] at hu
  rcases hu with rfl | rfl | rfl | rfl | rfl | rfl | rfl | rfl | rfl | rfl | rfl | rfl | rfl | rfl | rfl | rfl | rfl | rfl | rfl | rfl <;> rfl
theorem cfgA_one (c : CfgM) : (cfgA c).all (·.oneCell') = true := by rw [List.all_toArray]; simp only [List.all_cons, List.all_nil]; rfl
theorem entA_one (e : EntM) : (entA e).all (·.oneCell') = true := by rw [List.all_toArray]; simp only [List.all_cons, List.all_nil]; rfl
theorem basA_one (b : BasM) : (basA b).all (·.oneCell') = true := by rw [List.all_toArray]; simp only [List.all_cons, List.all_nil]; rfl
theorem letA_one (x : LetM) : (letA x).all (·.oneCell') = true := by rw [List.all_toArray]; simp only [List.all_cons, List.all_nil]; rfl

/-- A list that lies in blocks of F. -/
structure LsIn {α : Type} (w : World) (F : Nat → Prop) (f : List α → List Value) (s : Ls α) : Prop where
  sl : Sl w F s.a (f s.l)
  cap : s.l.length ≤ s.c ∧ s.c ≤ maxLen
def bytesC (l : List UInt8) : List Value := l.map B8
structure CfgIn (w : World) (F : Nat → Prop) (c : CfgM) : Prop where
  v : LsIn w F intsC c.v
  o : LsIn w F intsC c.o
  l : LsIn w F intsC c.l
  w : LsIn w F intsC c.w
structure EntIn (w : World) (F : Nat → Prop) (e : EntM) : Prop where
  kind : 0 ≤ e.kind ∧ e.kind ≤ 255
  cmd : LsIn w F bytesC e.cmd
  cfg : CfgIn w F e.cfg
structure LetIn (w : World) (F : Nat → Prop) (x : LetM) : Prop where
  kind : 0 ≤ x.kind ∧ x.kind ≤ 255
  ents : LsIn w F entsC x.ents
  each : ∀ e ∈ x.ents.l, EntIn w F e
  cfg : CfgIn w F x.base.cfg
  bytes : LsIn w F bytesC x.bytes
section
variable {w w' : World} {F F' S : Nat → Prop} {α : Type} {f : List α → List Value}
theorem LsIn.fr {s : Ls α} (h : LsIn w F f s) (hf : Fr S w w') (hn : ∀ k, F k → ¬ S k) : LsIn w' F f s := ⟨h.sl.fr hf hn, h.cap⟩
theorem LsIn.mono {s : Ls α} (h : LsIn w F f s) (hF : ∀ k, F k → k < w.heap.size → F' k) : LsIn w F' f s := ⟨h.sl.mono hF, h.cap⟩
theorem CfgIn.fr {c : CfgM} (h : CfgIn w F c) (hf : Fr S w w') (hn : ∀ k, F k → ¬ S k) : CfgIn w' F c := ⟨h.v.fr hf hn, h.o.fr hf hn, h.l.fr hf hn, h.w.fr hf hn⟩
theorem CfgIn.mono {c : CfgM} (h : CfgIn w F c) (hF : ∀ k, F k → k < w.heap.size → F' k) : CfgIn w F' c := ⟨h.v.mono hF, h.o.mono hF, h.l.mono hF, h.w.mono hF⟩
theorem EntIn.fr {e : EntM} (h : EntIn w F e) (hf : Fr S w w') (hn : ∀ k, F k → ¬ S k) : EntIn w' F e := ⟨h.kind, h.cmd.fr hf hn, h.cfg.fr hf hn⟩
theorem EntIn.mono {e : EntM} (h : EntIn w F e) (hF : ∀ k, F k → k < w.heap.size → F' k) : EntIn w F' e := ⟨h.kind, h.cmd.mono hF, h.cfg.mono hF⟩
theorem LetIn.fr {x : LetM} (h : LetIn w F x) (hf : Fr S w w') (hn : ∀ k, F k → ¬ S k) : LetIn w' F x := ⟨h.kind, h.ents.fr hf hn, fun e he => (h.each e he).fr hf hn, h.cfg.fr hf hn, h.bytes.fr hf hn⟩
theorem LetIn.mono {x : LetM} (h : LetIn w F x) (hF : ∀ k, F k → k < w.heap.size → F' k) : LetIn w F' x := ⟨h.kind, h.ents.mono hF, fun e he => (h.each e he).mono hF, h.cfg.mono hF, h.bytes.mono hF⟩
theorem LsIn.nw {s : Ls α} (h : LsIn w F f s) (hf : Nw w w') : LsIn w' F f s := h.fr hf (fun _ _ h => h)
theorem CfgIn.nw {c : CfgM} (h : CfgIn w F c) (hf : Nw w w') : CfgIn w' F c := h.fr hf (fun _ _ h => h)
theorem EntIn.nw {e : EntM} (h : EntIn w F e) (hf : Nw w w') : EntIn w' F e := h.fr hf (fun _ _ h => h)
theorem LetIn.nw {x : LetM} (h : LetIn w F x) (hf : Nw w w') : LetIn w' F x := h.fr hf (fun _ _ h => h)
theorem LsIn.nil (w : World) (F : Nat → Prop) (f : List α → List Value) (hf : f [] = []) : LsIn w F f lsZ := ⟨by show Sl w F none (f []); rw [hf]; exact Sl.nil _ _ _, Nat.le_refl _, Nat.zero_le _⟩
theorem CfgIn.zero (w : World) (F : Nat → Prop) : CfgIn w F cfgMZ := ⟨LsIn.nil w F intsC rfl, LsIn.nil w F intsC rfl, LsIn.nil w F intsC rfl, LsIn.nil w F intsC rfl⟩
theorem EntIn.zero (w : World) (F : Nat → Prop) : EntIn w F entMZ := ⟨⟨by decide, by decide⟩, LsIn.nil w F bytesC rfl, CfgIn.zero w F⟩
theorem LetIn.zero (w : World) (F : Nat → Prop) : LetIn w F letMZ := ⟨⟨by decide, by decide⟩, LsIn.nil w F entsC rfl, (by intro e he; cases he), CfgIn.zero w F, LsIn.nil w F bytesC rfl⟩

/-- Entries, one behind the other. -/
structure EntsIn (w : World) (F : Nat → Prop) (s : Ls EntM) : Prop where
  ls : LsIn w F entsC s
  each : ∀ x ∈ s.l, EntIn w F x
theorem EntsIn.fr {s : Ls EntM} (h : EntsIn w F s) (hf : Fr S w w') (hn : ∀ k, F k → ¬ S k) : EntsIn w' F s := ⟨h.ls.fr hf hn, fun e he => (h.each e he).fr hf hn⟩
theorem EntsIn.mono {s : Ls EntM} (h : EntsIn w F s) (hF : ∀ k, F k → k < w.heap.size → F' k) : EntsIn w F' s := ⟨h.ls.mono hF, fun e he => (h.each e he).mono hF⟩
theorem EntsIn.nw {s : Ls EntM} (h : EntsIn w F s) (hf : Nw w w') : EntsIn w' F s := h.fr hf (fun _ _ h => h)
/-- Letters, one behind the other. -/
structure LetsIn (w : World) (F : Nat → Prop) (s : Ls LetM) : Prop where
  ls : LsIn w F letsC s
  each : ∀ x ∈ s.l, LetIn w F x
theorem LetsIn.fr {s : Ls LetM} (h : LetsIn w F s) (hf : Fr S w w') (hn : ∀ k, F k → ¬ S k) : LetsIn w' F s := ⟨h.ls.fr hf hn, fun e he => (h.each e he).fr hf hn⟩
theorem LetsIn.mono {s : Ls LetM} (h : LetsIn w F s) (hF : ∀ k, F k → k < w.heap.size → F' k) : LetsIn w F' s := ⟨h.ls.mono hF, fun e he => (h.each e he).mono hF⟩
theorem LetsIn.nw {s : Ls LetM} (h : LetsIn w F s) (hf : Nw w w') : LetsIn w' F s := h.fr hf (fun _ _ h => h)

theorem flat_get {α : Type} (f : α → List Value) (C : Nat) (l : List α) (hC : ∀ x ∈ l, (f x).length = C) (i j : Nat) (hi : i < l.length) (hj : j < C) : ((l.map f).flatten)[i * C + j]? = (f l[i])[j]? := by
  induction l generalizing i with
  | nil => simp at hi
  | cons x l ih =>
    rw [List.map_cons, List.flatten_cons]
    have hx := hC x List.mem_cons_self
    cases i with
    | zero =>
      rw [List.getElem?_append_left (by omega), Nat.zero_mul, Nat.zero_add]
      rfl
    | succ i =>
      rw [List.getElem?_append_right (by rw [hx, Nat.succ_mul]; omega), hx]
      have e : (i + 1) * C + j - C = i * C + j := by rw [Nat.succ_mul]; omega
      rw [e]
      exact ih (fun y hy => hC y (List.mem_cons_of_mem _ hy)) i (by simpa using hi)
/-- The cells of one of a list of structs. -/
theorem Sl.struct {A : Option Addr} {f : α → List Value} {C : Nat} (hC0 : 0 < C) {l : List α} (hC : ∀ x ∈ l, (f x).length = C) (h : Sl w F A ((l.map f).flatten)) {k : Nat} (hk : k < l.length) :
    ∃ b o, A = some ⟨b, o, none⟩ ∧ F b ∧ b < w.heap.size ∧ ∀ j u, (f l[k])[j]? = some u → w.cell? ⟨b, o + k * C + j, none⟩ = some u := by
  have hf := flat_get f C l hC k
  obtain ⟨u0, hu0⟩ : ∃ u, (f l[k])[0]? = some u := ⟨_, List.getElem?_eq_getElem (by rw [hC _ (List.getElem_mem hk)]; exact hC0)⟩
  have h0 := (hf 0 hk hC0).trans hu0
  obtain ⟨b, o, hA, hF, hb, hc⟩ := h.at_ (by intro e; rw [e] at h0; cases h0)
  refine ⟨b, o, hA, hF, hb, fun j u hu => ?_⟩
  have hj : j < C := by
    rcases Nat.lt_or_ge j C with h | h
    · exact h
    · rw [List.getElem?_eq_none (by rw [hC _ (List.getElem_mem hk)]; exact h)] at hu; cases hu
  rw [Nat.add_assoc]
  exact hc _ u ((hf j hk hj).trans hu)
theorem Sl.ent {A : Option Addr} {l : List EntM} (h : Sl w F A (entsC l)) {k : Nat} (hk : k < l.length) :
    ∃ b o, A = some ⟨b, o, none⟩ ∧ F b ∧ b < w.heap.size ∧ ∀ j u, (entL l[k])[j]? = some u → w.cell? ⟨b, o + k * 7 + j, none⟩ = some u := Sl.struct (f := entF) (by omega) (fun _ _ => rfl) h hk
theorem Sl.let_ {A : Option Addr} {l : List LetM} (h : Sl w F A (letsC l)) {k : Nat} (hk : k < l.length) :
    ∃ b o, A = some ⟨b, o, none⟩ ∧ F b ∧ b < w.heap.size ∧ ∀ j u, (letL l[k])[j]? = some u → w.cell? ⟨b, o + k * 20 + j, none⟩ = some u := Sl.struct (f := letF) (by omega) (fun _ _ => rfl) h hk
theorem LsIn.pre {s : Ls α} {z : Nat} (h : LsIn w F f s) (_hz : ∀ l : List α, (f l).length = l.length * z) (ht : ∀ (l m : List α), f (l ++ m) = f l ++ f m) (k : Nat) : LsIn w F f ⟨s.a, s.c, s.l.take k⟩ := by
  refine ⟨?_, ?_, h.cap.2⟩
  · have e : f (s.l.take k) = (f s.l).take (f (s.l.take k)).length := by
      have e1 := ht (s.l.take k) (s.l.drop k)
      rw [List.take_append_drop] at e1
      rw [e1, List.take_left' rfl]
    show Sl w F s.a (f (s.l.take k))
    rw [e]
    exact h.sl.pre
  · show (s.l.take k).length ≤ s.c
    have := h.cap.1
    rw [List.length_take]; omega
end
/-- Sizes that are far within what a machine has. -/
structure CfgSz (c : CfgM) : Prop where
  v : c.v.l.length ≤ 1000000
  o : c.o.l.length ≤ 1000000
  l : c.l.l.length ≤ 1000000
  w : c.w.l.length ≤ 1000000
structure EntSz (e : EntM) : Prop where
  cmd : e.cmd.l.length ≤ 1000000
  cfg : CfgSz e.cfg
structure LetSz (x : LetM) : Prop where
  ents : x.ents.l.length ≤ 1000000
  each : ∀ e ∈ x.ents.l, EntSz e
  cfg : CfgSz x.base.cfg
  bytes : x.bytes.l.length ≤ 1000000
theorem CfgSz.zero : CfgSz cfgMZ := ⟨by decide, by decide, by decide, by decide⟩
theorem EntSz.zero : EntSz entMZ := ⟨by decide, CfgSz.zero⟩
theorem LetSz.zero : LetSz letMZ := ⟨by decide, (by intro e he; cases he), CfgSz.zero, by decide⟩
end Go.Proofs.YtippdjaakcgeoaaGreat

namespace Go.Proofs.YtippdjaakcgeoaaGreat
open Go Go.RowKit

theorem info_u8 : (Tryz.prog.info? 5).map (fun i => (i.zero, i.size, i.bytes)) = some (some (.int .u8 0), 1, 1) := by kernel_rfl

theorem size_bytes (w : World) : (sizeOf (Tryz.prog.elem 48)).run Tryz.prog w = .ok 1 w := by kernel_rfl

theorem under_bytes : Tryz.prog.underlying 48 = some (.slice (Tryz.prog.elem 48)) := by kernel_rfl

/-- Block g is a writer that has written so. -/
def IsWr (w : World) (F : Nat → Prop) (g : Nat) (s : Wr) : Prop :=
  ∃ A cap, Blk w g 185 #[.bool true, .bool (!s.ok), .slice A s.bs.length cap] ∧ Own w 5 1 A s.bs.length cap (s.bs.map B8) ∧ F g ∧ (∀ k, inA A k → F k) ∧ ∀ k, F k → k < w.heap.size

/-- What a step of a writer leaves. -/
def WrTo (w : World) (F : Nat → Prop) (g : Nat) (s : Wr) (w' : World) : Prop :=
  ∃ F', IsWr w' F' g s ∧ Fr F w w' ∧ ∀ k, F' k → F k ∨ w.heap.size ≤ k

theorem IsWr.fr {w w' : World} {F S : Nat → Prop} {g : Nat} {s : Wr} (h : IsWr w F g s) (hf : Fr S w w') (hd : ∀ k, F k → ¬ S k) : IsWr w' F g s := by
  obtain ⟨A, cap, hb, hown, hF, hFA, hlt⟩ := h
  exact ⟨A, cap, hb.fr hf (hd _ hF), hown.fr hf (fun k hk => hd k (hFA k hk)), hF, hFA, fun k hk => Nat.lt_of_lt_of_le (hlt k hk) hf.size⟩
theorem IsWr.alloc {w : World} {F : Nat → Prop} {g : Nat} {s : Wr} (h : IsWr w F g s) (o : Obj) : IsWr (w.alloc o) F g s :=
  h.fr (S := fun _ => False) ((Fr.refl _ w).alloc o) (fun _ _ h => h)
theorem IsWr.bound {w : World} {F : Nat → Prop} {g : Nat} {s : Wr} (h : IsWr w F g s) : ∀ k, F k → k < w.heap.size := by
  obtain ⟨_, _, _, _, _, _, h⟩ := h
  exact h
theorem WrTo.alloc {w w2 : World} {F : Nat → Prop} {g : Nat} {s2 : Wr} {o : Obj} (h : WrTo (w.alloc o) F g s2 w2) : WrTo w F g s2 w2 := by
  obtain ⟨F2, h1, h2, h3⟩ := h
  exact ⟨F2, h1, ((Fr.refl F w).alloc o).tr h2, fun k hk => (h3 k hk).imp id fun h => by simp at h; omega⟩

theorem put_any (w : World) (F F2 : Nat → Prop) (g : Nat) (s : Wr) (h : IsWr w F g s) (A2 : Option Addr) (m c : Nat) (bs : List UInt8) (hm : bs.length = m) (hsl : Sl w F2 A2 (bs.map B8))
    (hsz : s.bs.length + m ≤ 1000000000000) :
    Calls Tryz.prog 203 #[.pointer (some ⟨g, 0, none⟩), .slice A2 m c] w fun e w' => e = .returned (.tuple #[]) ∧ WrTo w F g { s with bs := s.bs ++ bs } w' := by
  obtain ⟨A, cap, hb, hown, hF, hFA, hFlt⟩ := h
  subst hm
  have c0 := hb.cell 0
  have c2 := hb.cell 2
  simp at c0 c2
  go_enter Tryz.func203, Tryz.ntmps203
  go_wp2_with (at_builtin; refine wl_append rfl _ _ _ rfl 1 (.int .u8 0) Tryz.underlying48 info_u8 rfl (by decide) rfl hown rfl hsl (by simp) (B8_oneCell bs) (by omega) (by unfold maxLen; omega) ?_; intro A' cap' w1 ho hf hin; have hb1 := hb.fr hf (fun hg => hown.ne_ hb (by decide) hg); have c21 := hb1.cell 2; have f21 := hb1.frozen 2; simp at c21)
  go_end0
  refine ⟨rfl, fun k => k = g ∨ inA A' k, ⟨A', cap', ?_, ?_, .inl rfl, fun k hk => .inr hk, ?_⟩, (hf.mono fun b hb' => .inl (hFA b hb')).setCell (.inl hF) _, ?_⟩
  · have := hb1.set_ 2 (.slice A' (s.bs.length + bs.length) cap')
    simpa using this
  · have := ho.setCell (p := ⟨g, 2, none⟩) (fun hk => ho.ne_ hb1 (by decide) hk) (.slice A' (s.bs.length + bs.length) cap')
    simpa using this
  · have hz : (w1.setCell ⟨g, 2, none⟩ (.slice A' (s.bs.length + bs.length) cap')).heap.size = w1.heap.size := by simp [World.setCell]
    rw [hz]
    rintro k (rfl | hk)
    · exact hb1.lt
    · exact ho.lt k hk
  · rintro k (rfl | hk)
    · exact .inl hF
    · rcases hin k hk with h | h
      · exact .inl (hFA k h)
      · exact .inr (by omega)

theorem WrTo.trans {w w1 w2 : World} {F F1 : Nat → Prop} {g : Nat} {s2 : Wr} (hf : Fr F w w1) (hn : ∀ k, F1 k → F k ∨ w.heap.size ≤ k) (h : WrTo w1 F1 g s2 w2) : WrTo w F g s2 w2 := by
  obtain ⟨F2, h1, h2, h3⟩ := h
  refine ⟨F2, h1, hf.trans h2 hn, fun k hk => ?_⟩
  rcases h3 k hk with h | h
  · exact hn k h
  · exact .inr (Nat.le_trans hf.size h)

theorem number_bad (w : World) (F : Nat → Prop) (g : Nat) (s : Wr) (h : IsWr w F g s) (n : Int) (hn : n < 0 ∨ 4611686018427387903 < n) :
    Calls Tryz.prog 141 #[.pointer (some ⟨g, 0, none⟩), .int .i64 n] w fun e w' => e = .returned (.tuple #[]) ∧ WrTo w F g { s with ok := false } w' := by
  obtain ⟨A, cap, hb, hown, hF, hFA, hFlt⟩ := h
  have c1 := hb.cell 1
  have f1 := hb.frozen 1
  simp at c1
  have hfin : WrTo w F g { s with ok := false } (w.setCell ⟨g, 1, none⟩ (.bool true)) := by
    refine ⟨fun k => k = g ∨ inA A k, ⟨A, cap, ?_, hown.setCell (p := ⟨g, 1, none⟩) (fun hk => hown.ne_ hb (by decide) hk) _, .inl rfl, fun k hk => .inr hk, ?_⟩, (Fr.refl F w).setCell (.inl hF) _, ?_⟩
    · have := hb.set_ 1 (.bool true)
      simpa using this
    · have hz : (w.setCell ⟨g, 1, none⟩ (.bool true)).heap.size = w.heap.size := by simp [World.setCell]
      rw [hz]
      rintro k (rfl | hk)
      · exact hb.lt
      · exact hown.lt k hk
    · rintro k (rfl | hk)
      · exact .inl hF
      · exact .inl (hFA k hk)
  by_cases h0 : n < 0
  · go_enter Tryz.func141, Tryz.ntmps141
    go_wp2_with fail
    refine bodyPost_ret (results_none rfl _ _ _) rfl ?_
    exact ⟨rfl, hfin⟩
  · have h1 : 4611686018427387903 < n := by omega
    go_enter Tryz.func141, Tryz.ntmps141
    go_wp2_with fail
    refine bodyPost_ret (results_none rfl _ _ _) rfl ?_
    exact ⟨rfl, hfin⟩

/-- The writer's state behind some rounds of a number. -/
def NumRel (w : World) (F : Nat → Prop) (g : Nat) (s : Wr) (n : Nat) (v : Value) (wr : World) : Prop :=
  ∃ (k : Nat) (F' : Nat → Prop) (bs : List UInt8), v = .int .i64 k ∧ k ≤ topN ∧ bs.length + (enc k).length = s.bs.length + (enc n).length ∧ IsWr wr F' g { s with bs := bs } ∧ Fr F w wr ∧ (∀ k, F' k → F k ∨ w.heap.size ≤ k) ∧ bs ++ enc k = s.bs ++ enc n

theorem number_ok (w : World) (F : Nat → Prop) (g : Nat) (s : Wr) (h : IsWr w F g s) (n : Nat) (hn : n ≤ 4611686018427387903) (hsz : s.bs.length ≤ 900000000000) :
    Calls Tryz.prog 141 #[.pointer (some ⟨g, 0, none⟩), .int .i64 n] w fun e w' => e = .returned (.tuple #[]) ∧ WrTo w F g { s with bs := s.bs ++ enc n } w' := by
  go_enter Tryz.func141, Tryz.ntmps141
  go_wp2_with fail
  go_loopw [1] (fun v wr => NumRel w F g s n v wr) (fun v _ => (intOf v).toNat)
  case atStart => exact ⟨n, F, s.bs, rfl, hn, rfl, h, Fr.refl _ _, fun k hk => .inl hk, rfl⟩
  case round =>
    obtain ⟨k, F', bs, rfl, hk, hl, hw, hf, hF, he⟩ := hrel
    by_cases hb : 127 < k
    · have HE := Lib.hid (enc_big k (by omega) hk)
      have HL := Lib.hid hl
      have HC := Lib.hid he
      clear hl he
      have hk' := hk
      unfold topN at hk'
      go_wp2_with fail
      rw [orByte k]
      refine (put_any _ F' _ g _ (hw.alloc _) _ 1 1 [UInt8.ofNat (k % 128 + 128)] rfl ((Blk.new _ _ _).sl 0 1) ?_).mono ?_
      · show bs.length + 1 ≤ _
        have := HL.out; have := enc_len n; omega
      rintro e w2 ⟨rfl, h2⟩
      obtain ⟨F2, i2, f2, n2⟩ := h2.alloc
      go_wp2_with fail
      go_roundw
      case rel =>
        refine ⟨k / 128, F2, bs ++ [UInt8.ofNat (k % 128 + 128)], by go_num, by unfold topN; omega, ?_, i2, hf.trans f2 hF, fun j hj => ?_, ?_⟩
        · have h1 := HL.out
          rw [HE.out] at h1
          simp at h1 ⊢
          omega
        · rcases n2 j hj with h | h
          · exact hF j h
          · exact .inr (Nat.le_trans hf.size h)
        · have h1 := HC.out
          rw [HE.out] at h1
          rw [← h1]
          simp
      case measure => simp [intOf]; omega
    · have hk' := hk
      unfold topN at hk'
      have HL := Lib.hid hl
      have HC := Lib.hid he
      clear hl he
      go_wp2_with fail
      have hv : Value.int IntKind.u8 (k : Int) = B8 (UInt8.ofNat k) := by
        unfold B8; congr 1; rw [← lowByte k (by omega)]; omega
      rw [hv]
      refine (put_any _ F' _ g _ (hw.alloc _) _ 1 1 [UInt8.ofNat k] rfl ((Blk.new _ _ _).sl 0 1) ?_).mono ?_
      · show bs.length + 1 ≤ _
        have := HL.out; have := enc_len n; omega
      rintro e w2 ⟨rfl, h2⟩
      clear hv
      go_wp2_with fail
      go_end0
      refine ⟨rfl, ?_⟩
      have h1 := HC.out
      rw [enc_small k (by omega)] at h1
      rw [← h1]
      exact (h2.alloc).trans hf hF
end Go.Proofs.YtippdjaakcgeoaaGreat
