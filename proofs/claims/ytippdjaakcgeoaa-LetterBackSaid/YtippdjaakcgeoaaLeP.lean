/- Letters in plain Lean: what is put is got as it was; what is got of any bytes is put again as these. -/
import Derived.Test.YtippdjaakcgeoaaLe
namespace Go.Proofs.Ytippdjaakcgeoaa
open Go Go.RowKit

theorem rdNum_of (m : Int) (n : Nat) (r : List UInt8) (h : (n : Int) ≤ m) (ht : n ≤ topN) : rdNum m (some (enc n ++ r)) = ((n : Int), some r) := rdNum_ok m (decN_of_enc n r ht) (by omega)
theorem rdRow_of (m : Int) (s r : List UInt8) (h : (s.length : Int) ≤ m) (ht : s.length ≤ topN) : rdRow m (some (rowB s ++ r)) = (s, some r) := by
  unfold rowB
  rw [List.append_assoc, rdRow_some (rdNum_of m s.length (s ++ r) h ht), if_neg (by simp), List.take_left, List.drop_left]
theorem rdFlag_of (b : Bool) (r : List UInt8) : rdFlag (some (flagB b ++ r)) = (b, some r) := by cases b <;> rfl
theorem rdNum_inv {m : Int} {s : Rd} {n : Int} {r : List UInt8} (h : rdNum m s = (n, some r)) : s = some (enc n.toNat ++ r) ∧ 0 ≤ n ∧ n ≤ m ∧ n ≤ (topN : Int) := by
  rcases rdNum_cases m s with h1 | ⟨bs, k, r', rfl, h1, h2, h3, h4⟩
  · rw [h1] at h; cases h
  · rw [h1] at h
    injection h with e1 e2
    injection e2 with e2
    subst e1; subst e2
    exact ⟨by rw [h4, Int.toNat_natCast], by omega, h3, by omega⟩
theorem rdFlag_inv {s : Rd} {b : Bool} {r : List UInt8} (h : rdFlag s = (b, some r)) : s = some (flagB b ++ r) := by
  unfold rdFlag at h
  split at h
  · cases h
  · cases h
  · rename_i c t
    split at h
    · cases h
    · rename_i hc
      injection h with e1 e2
      injection e2 with e2
      subst e1; subst e2
      have h2 : c = 0 ∨ c = 1 := by
        have h3 : c.toNat = 0 ∨ c.toNat = 1 := by omega
        rcases h3 with h3 | h3
        · exact .inl (UInt8.toNat_inj.1 (by simpa using h3))
        · exact .inr (UInt8.toNat_inj.1 (by simpa using h3))
      rcases h2 with rfl | rfl <;> rfl
theorem rdRow_inv {m : Int} {s : Rd} {x r : List UInt8} (h : rdRow m s = (x, some r)) : s = some (rowB x ++ r) ∧ (x.length : Int) ≤ m := by
  rcases rdNum_cases m s with h1 | ⟨bs, k, r', rfl, h1, h2, h3, h4⟩
  · rw [rdRow_none h1] at h; cases h
  · rw [rdRow_some h1] at h
    split at h
    · cases h
    · rename_i hk
      injection h with e1 e2
      injection e2 with e2
      have hl : x.length = k := by rw [← e1, List.length_take]; omega
      refine ⟨?_, by omega⟩
      rw [h4]
      congr 1
      unfold rowB
      rw [hl, List.append_assoc, ← e1, ← e2, List.take_append_drop]
/-- A state that is there was there ahead. -/
theorem rdNum_was {m : Int} {s : Rd} {r : List UInt8} (h : (rdNum m s).2 = some r) : rdNum m s = ((rdNum m s).1, some r) := by rw [← h]
theorem rdFlag_was {s : Rd} {r : List UInt8} (h : (rdFlag s).2 = some r) : rdFlag s = ((rdFlag s).1, some r) := by rw [← h]
theorem rdRow_was {m : Int} {s : Rd} {r : List UInt8} (h : (rdRow m s).2 = some r) : rdRow m s = ((rdRow m s).1, some r) := by rw [← h]
theorem rdEnd_zero {s : Rd} (h : rdEnd s = 0) : s = some [] := by
  cases s with
  | none => simp [rdEnd] at h
  | some bs =>
    unfold rdEnd at h
    simp only at h
    split at h
    · rename_i hb; rw [hb]
    · cases h
theorem encAll_nil : encAll [] = [] := rfl
theorem encAll_cons (l : List Int) (n : Int) : encAll (n :: l) = enc n.toNat ++ encAll l := by simp [encAll]

/-! Rows of numbers. -/
theorem rdNs_len (m : Int) (k : Nat) (s : Rd) : (rdNs m k s).1.length = k := by
  induction k with
  | zero => rfl
  | succ k ih => simp [rdNs, ih]
theorem rdNs_inv {m : Int} {k : Nat} {s : Rd} {r : List UInt8} (h : (rdNs m k s).2 = some r) : s = some (encAll (rdNs m k s).1 ++ r) ∧ ∀ n ∈ (rdNs m k s).1, 0 ≤ n ∧ n ≤ m := by
  induction k generalizing r with
  | zero =>
    have h0 : s = some r := h
    exact ⟨by rw [h0]; rfl, by intro n hn; cases hn⟩
  | succ k ih =>
    have h1 := rdNum_inv (rdNum_was (m := m) (s := (rdNs m k s).2) h)
    obtain ⟨h2, h3⟩ := ih h1.1
    refine ⟨h2.trans ?_, fun n hn => ?_⟩
    · congr 1
      show _ = encAll ((rdNs m k s).1 ++ [(rdNum m (rdNs m k s).2).1]) ++ r
      rw [encAll_snoc, List.append_assoc]
    · have hn : n ∈ (rdNs m k s).1 ++ [(rdNum m (rdNs m k s).2).1] := hn
      rcases List.mem_append.1 hn with h | h
      · exact h3 n h
      · rw [List.mem_singleton.1 h]; exact ⟨h1.2.1, h1.2.2.1⟩
theorem rdNs_of (m : Int) (l : List Int) (h : ∀ n ∈ l, 0 ≤ n ∧ n ≤ m) (hm : m ≤ topN) (r : List UInt8) (k : Nat) (hk : k ≤ l.length) : rdNs m k (some (encAll l ++ r)) = (l.take k, some (encAll (l.drop k) ++ r)) := by
  induction k with
  | zero => rfl
  | succ k ih =>
    have hlt : k < l.length := hk
    obtain ⟨h1, h2⟩ := h _ (List.getElem_mem hlt)
    have e : encAll (l.drop k) ++ r = enc l[k].toNat ++ (encAll (l.drop (k + 1)) ++ r) := by
      rw [List.drop_eq_getElem_cons hlt, encAll_cons, List.append_assoc]
    rw [rdNs, ih (by omega), e]
    simp only
    rw [rdNum_of _ _ _ (by omega) (by omega), List.take_succ_eq_append_getElem hlt]
    simp only [Int.toNat_of_nonneg h1]
theorem rdNodes_inv {s : Rd} {r : List UInt8} (h : (rdNodes s).2 = some r) : s = some (numsB (rdNodes s).1 ++ r) ∧ (rdNodes s).1.length ≤ 5 := by
  have h1 := rdNs_inv (m := 5) (k := (rdNum 5 s).1.toNat) (s := (rdNum 5 s).2) h
  have h2 := rdNum_inv (rdNum_was h1.1)
  have e : (rdNodes s).1.length = (rdNum 5 s).1.toNat := rdNs_len _ _ _
  refine ⟨h2.1.trans ?_, by omega⟩
  congr 1
  unfold numsB
  rw [e, List.append_assoc]
  rfl
theorem rdNodes_of (l : List Int) (hl : l.length ≤ 5) (h : ∀ n ∈ l, 0 ≤ n ∧ n ≤ 5) (r : List UInt8) : rdNodes (some (numsB l ++ r)) = (l, some r) := by
  unfold rdNodes numsB
  rw [List.append_assoc, rdNum_of _ _ _ (by omega) (by unfold topN; omega)]
  simp only [Int.toNat_natCast]
  rw [rdNs_of 5 l h (by unfold topN; omega) r _ (Nat.le_refl _), List.take_length, List.drop_length]
  rfl
/-- Nodes that rise are at most five. -/
theorem nodesOk_at {l : List Int} (h : nodesOk l = true) {i : Nat} (hi : i < l.length) : (1 ≤ l.getD i 0 ∧ l.getD i 0 ≤ 5) ∧ (i = 0 ∨ l.getD (i - 1) 0 < l.getD i 0) := by
  unfold nodesOk at h
  have h1 := List.all_eq_true.1 h i (List.mem_range.2 hi)
  unfold ndAt at h1
  simpa only [Bool.and_eq_true, Bool.or_eq_true, decide_eq_true_eq] using h1
theorem nodesOk_ge {l : List Int} (h : nodesOk l = true) : ∀ i, i < l.length → (i : Int) + 1 ≤ l.getD i 0 := by
  intro i
  induction i with
  | zero => intro hi; have := (nodesOk_at h hi).1; omega
  | succ i ih =>
    intro hi
    have h1 := ih (by omega)
    have h2 := (nodesOk_at h hi).2
    rcases h2 with h2 | h2
    · omega
    · have e : i + 1 - 1 = i := by omega
      rw [e] at h2
      push_cast
      omega
theorem nodesOk_len {l : List Int} (h : nodesOk l = true) : l.length ≤ 5 := by
  rcases Nat.lt_or_ge 5 l.length with hlt | hge
  · have h1 := nodesOk_ge h 5 hlt
    have h2 := (nodesOk_at h hlt).1
    omega
  · exact hge
theorem nodesOk_mem {l : List Int} (h : nodesOk l = true) : ∀ n ∈ l, 0 ≤ n ∧ n ≤ 5 := by
  intro n hn
  obtain ⟨i, hi, rfl⟩ := List.mem_iff_getElem.1 hn
  have := (nodesOk_at h hi).1
  rw [List.getD_eq_getElem?_getD, List.getElem?_eq_getElem hi] at this
  simp only [Option.getD_some] at this
  omega

/-! Configs, entries, bases. -/
theorem cfgOk_parts {c : Cfg} (h : cfgOk c = true) : nodesOk c.v = true ∧ nodesOk c.o = true ∧ nodesOk c.l = true ∧ nodesOk c.w = true := by
  unfold cfgOk at h
  simpa only [Bool.and_eq_true] using h
theorem cfgNone_eq {c : Cfg} (h : cfgNone c = true) : c = cfgZ := by
  unfold cfgNone at h
  have h := of_decide_eq_true h
  obtain ⟨v, o, l, w⟩ := c
  simp only at h
  have h1 : v = [] := List.eq_nil_of_length_eq_zero (by omega)
  have h2 : o = [] := List.eq_nil_of_length_eq_zero (by omega)
  have h3 : l = [] := List.eq_nil_of_length_eq_zero (by omega)
  have h4 : w = [] := List.eq_nil_of_length_eq_zero (by omega)
  rw [h1, h2, h3, h4]; rfl
theorem cfgZ_ok : cfgOk cfgZ = true := by decide
theorem rdCfg_inv {s : Rd} {r : List UInt8} (h : (rdCfg s).2 = some r) : s = some (cfgB (rdCfg s).1 ++ r) := by
  have h4 := rdNodes_inv h
  have h3 := rdNodes_inv h4.1
  have h2 := rdNodes_inv h3.1
  have h1 := rdNodes_inv h2.1
  refine h1.1.trans ?_
  unfold cfgB
  simp only [List.append_assoc]
  rfl
theorem rdCfg_of {c : Cfg} (h : cfgOk c = true) (r : List UInt8) : rdCfg (some (cfgB c ++ r)) = (c, some r) := by
  obtain ⟨h1, h2, h3, h4⟩ := cfgOk_parts h
  unfold rdCfg cfgB
  simp only [List.append_assoc]
  rw [rdNodes_of _ (nodesOk_len h1) (nodesOk_mem h1)]
  simp only
  rw [rdNodes_of _ (nodesOk_len h2) (nodesOk_mem h2)]
  simp only
  rw [rdNodes_of _ (nodesOk_len h3) (nodesOk_mem h3)]
  simp only
  rw [rdNodes_of _ (nodesOk_len h4) (nodesOk_mem h4)]
theorem topOk_iff (n : Int) : topOk n = true ↔ 0 ≤ n ∧ n ≤ 1073741824 := by unfold topOk; simp
/-- What holds of an entry that is one. -/
theorem entOk_sm {e : Ent} (h : entOk e = true) : (0 ≤ e.term ∧ e.term ≤ 1073741824) ∧ (1 ≤ e.kind ∧ e.kind ≤ 3) ∧ e.cmd.length ≤ 131072 ∧ cfgOk e.cfg = true := by
  unfold entOk at h
  rw [Bool.and_eq_true, topOk_iff] at h
  obtain ⟨h1, h2⟩ := h
  refine ⟨h1, ?_⟩
  split at h2
  · rw [Bool.and_eq_true, decide_eq_true_eq] at h2
    exact ⟨by omega, by omega, by rw [cfgNone_eq h2.2]; exact cfgZ_ok⟩
  · split at h2
    · rw [Bool.and_eq_true, decide_eq_true_eq] at h2
      exact ⟨by omega, by omega, by rw [cfgNone_eq h2.2]; exact cfgZ_ok⟩
    · simp only [Bool.and_eq_true, decide_eq_true_eq] at h2
      exact ⟨by omega, by omega, h2.2.2⟩
theorem basOk_sm {b : Bas} (h : basOk b = true) : (0 ≤ b.index ∧ b.index ≤ 1073741824) ∧ (0 ≤ b.term ∧ b.term ≤ 1073741824) ∧ cfgOk b.cfg = true := by
  unfold basOk at h
  simpa only [Bool.and_eq_true, topOk_iff] using h
theorem rdEnt0_inv {s : Rd} {r : List UInt8} (h : (rdEnt0 s).2 = some r) : s = some (entB (rdEnt0 s).1 ++ r) := by
  have h4 := rdCfg_inv (s := (rdRow 131072 (rdNum 255 (rdNum 1073741824 s).2).2).2) h
  have h3 := rdRow_inv (rdRow_was h4)
  have h2 := rdNum_inv (rdNum_was h3.1)
  have h1 := rdNum_inv (rdNum_was h2.1)
  refine h1.1.trans ?_
  unfold entB
  simp only [List.append_assoc]
  rfl
theorem rdEnt0_of {e : Ent} (h : entOk e = true) (r : List UInt8) : rdEnt0 (some (entB e ++ r)) = (e, some r) := by
  obtain ⟨h1, h2, h3, h4⟩ := entOk_sm h
  unfold rdEnt0 entB
  simp only [List.append_assoc]
  rw [rdNum_of _ _ _ (by omega) (by unfold topN; omega)]
  simp only
  rw [rdNum_of _ _ _ (by omega) (by unfold topN; omega)]
  simp only
  rw [rdRow_of _ _ _ (by omega) (by unfold topN; omega)]
  simp only
  rw [rdCfg_of h4]
  simp only [Int.toNat_of_nonneg h1.1, Int.toNat_of_nonneg (show 0 ≤ e.kind by omega)]
theorem rdBas0_inv {s : Rd} {r : List UInt8} (h : (rdBas0 s).2 = some r) : s = some (basB (rdBas0 s).1 ++ r) := by
  have h3 := rdCfg_inv (s := (rdNum 1073741824 (rdNum 1073741824 s).2).2) h
  have h2 := rdNum_inv (rdNum_was h3)
  have h1 := rdNum_inv (rdNum_was h2.1)
  refine h1.1.trans ?_
  unfold basB
  simp only [List.append_assoc]
  rfl
theorem rdBas0_of {b : Bas} (h : basOk b = true) (r : List UInt8) : rdBas0 (some (basB b ++ r)) = (b, some r) := by
  obtain ⟨h1, h2, h3⟩ := basOk_sm h
  unfold rdBas0 basB
  simp only [List.append_assoc]
  rw [rdNum_of _ _ _ (by omega) (by unfold topN; omega)]
  simp only
  rw [rdNum_of _ _ _ (by omega) (by unfold topN; omega)]
  simp only
  rw [rdCfg_of h3]
  simp only [Int.toNat_of_nonneg h1.1, Int.toNat_of_nonneg h2.1]
theorem rdEnt_yes {s : Rd} (h : (rdEnt s).2 = true) : rdEnt s = ((rdEnt0 s).1, true) ∧ entOk (rdEnt0 s).1 = true ∧ ∃ r, (rdEnt0 s).2 = some r := by
  unfold rdEnt at h ⊢
  split at h
  · rename_i hk
    rw [if_pos hk]
    unfold rdEntOk at hk
    rw [Bool.and_eq_true] at hk
    exact ⟨rfl, hk.2, Option.isSome_iff_exists.1 hk.1⟩
  · cases h
theorem rdBas_yes {s : Rd} (h : (rdBas s).2 = true) : rdBas s = ((rdBas0 s).1, true) ∧ basOk (rdBas0 s).1 = true ∧ ∃ r, (rdBas0 s).2 = some r := by
  unfold rdBas at h ⊢
  split at h
  · rename_i hk
    rw [if_pos hk]
    unfold rdBasOk at hk
    rw [Bool.and_eq_true] at hk
    exact ⟨rfl, hk.2, Option.isSome_iff_exists.1 hk.1⟩
  · cases h
theorem rdEnt_of {e : Ent} (h : entOk e = true) (r : List UInt8) : rdEnt (some (entB e ++ r)) = (e, true) := by
  unfold rdEnt
  rw [if_pos (by unfold rdEntOk; rw [rdEnt0_of h]; simp [h]), rdEnt0_of h]
theorem rdBas_of {b : Bas} (h : basOk b = true) (r : List UInt8) : rdBas (some (basB b ++ r)) = (b, true) := by
  unfold rdBas
  rw [if_pos (by unfold rdBasOk; rw [rdBas0_of h]; simp [h]), rdBas0_of h]
theorem rdEnts_len (k : Nat) (s : Rd) : (rdEnts k s).1.1.length = k := by
  induction k with
  | zero => rfl
  | succ k ih => simp [rdEnts, ih]
theorem rdEnts_inv {k : Nat} {s : Rd} {r : List UInt8} (h : (rdEnts k s).2 = some r) (hok : (rdEnts k s).1.2 = true) : s = some (entsB (rdEnts k s).1.1 ++ r) := by
  induction k generalizing r with
  | zero =>
    have h0 : s = some r := h
    rw [h0]; rfl
  | succ k ih =>
    have hok : ((rdEnts k s).1.2 && (rdEnt (rdEnts k s).2).2) = true := hok
    rw [Bool.and_eq_true] at hok
    have h1 := rdEnt0_inv (s := (rdEnts k s).2) h
    refine (ih h1 hok.1).trans ?_
    congr 1
    show _ = entsB ((rdEnts k s).1.1 ++ [(rdEnt (rdEnts k s).2).1]) ++ r
    rw [(rdEnt_yes hok.2).1]
    unfold entsB
    simp
/-- Once an entry is none, what is read is none. -/
theorem rdEnts_bad {k n : Nat} {s : Rd} (h : (rdEnts k s).1.2 = false) (hk : k ≤ n) : (rdEnts n s).1.2 = false := by
  induction n with
  | zero =>
    obtain rfl : k = 0 := by omega
    exact h
  | succ n ih =>
    rcases Nat.lt_or_ge k (n + 1) with h1 | h1
    · show ((rdEnts n s).1.2 && _) = false
      rw [ih (by omega)]; rfl
    · obtain rfl : k = n + 1 := by omega
      exact h
theorem rdEnts_of (l : List Ent) (h : ∀ x ∈ l, entOk x = true) (r : List UInt8) (k : Nat) (hk : k ≤ l.length) : rdEnts k (some (entsB l ++ r)) = ((l.take k, true), some (entsB (l.drop k) ++ r)) := by
  induction k with
  | zero => rfl
  | succ k ih =>
    have hlt : k < l.length := hk
    have e : entsB (l.drop k) ++ r = entB l[k] ++ (entsB (l.drop (k + 1)) ++ r) := by
      unfold entsB
      rw [List.drop_eq_getElem_cons hlt, List.map_cons, List.flatten_cons, List.append_assoc]
    rw [rdEnts, ih (by omega), e]
    simp only
    rw [rdEnt_of (h _ (List.getElem_mem hlt)), rdEnt0_of (h _ (List.getElem_mem hlt)), List.take_succ_eq_append_getElem hlt]
    rfl

/-! Letters. -/
/-- What holds of a letter that is right. -/
structure LetSm (x : LetF) : Prop where
  head : ((1 ≤ x.kind ∧ x.kind ≤ 8) ∧ (0 ≤ x.group ∧ x.group ≤ 4)) ∧ (1 ≤ x.src ∧ x.src ≤ 5) ∧ (1 ≤ x.dst ∧ x.dst ≤ 5)
  nums : ((0 ≤ x.term ∧ x.term ≤ 1073741824) ∧ (0 ≤ x.index ∧ x.index ≤ 1073741824)) ∧ ((0 ≤ x.logt ∧ x.logt ≤ 1073741824) ∧ (0 ≤ x.commit ∧ x.commit ≤ 1073741824)) ∧ (0 ≤ x.size ∧ x.size ≤ 1073741824) ∧ (0 ≤ x.at_ ∧ x.at_ ≤ 1073741824)
  tag : 0 ≤ x.tag ∧ x.tag ≤ 4611686018427387903
  ents : x.ents.length ≤ 30 ∧ ∀ e ∈ x.ents, entOk e = true
  base : basOk x.base = true
  bytes : x.bytes.length ≤ 131072
theorem letOk_iff (x : LetF) : letOk x = true ↔ LetSm x := by
  unfold letOk
  simp only [Bool.and_eq_true, decide_eq_true_eq, topOk_iff, List.all_eq_true]
  constructor
  · rintro ⟨⟨h1, h2, h3, h4, h5, h6⟩, h7, ⟨h8, h9, h10, h11⟩, ⟨h12, h13, h14⟩, h15⟩
    exact ⟨⟨⟨h8, h9⟩, h10, h11⟩, ⟨⟨h1, h2⟩, ⟨h3, h4⟩, h5, h6⟩, h7, ⟨h12, h15⟩, h14, h13⟩
  · rintro ⟨⟨⟨h8, h9⟩, h10, h11⟩, ⟨⟨h1, h2⟩, ⟨h3, h4⟩, h5, h6⟩, h7, ⟨h12, h15⟩, h14, h13⟩
    exact ⟨⟨h1, h2, h3, h4, h5, h6⟩, h7, ⟨h8, h9, h10, h11⟩, ⟨h12, h13, h14⟩, h15⟩
theorem rdBy_len (hd : List Int) (s : Rd) : (rdBy hd s).1.length = hd.length := by
  induction hd generalizing s with
  | nil => rfl
  | cons m l ih => simp [rdBy, ih]
theorem rdBy_inv {hd : List Int} {s : Rd} {r : List UInt8} (h : (rdBy hd s).2 = some r) : s = some (encAll (rdBy hd s).1 ++ r) := by
  induction hd generalizing s r with
  | nil =>
    have h0 : s = some r := h
    rw [h0]; rfl
  | cons m l ih =>
    have h1 := ih (s := (rdNum m s).2) h
    have h2 := rdNum_inv (rdNum_was h1)
    refine h2.1.trans ?_
    congr 1
    show _ = encAll ((rdNum m s).1 :: (rdBy l (rdNum m s).2).1) ++ r
    rw [encAll_cons, List.append_assoc]
/-- Numbers within bounds, one by one. -/
def InB : List Int → List Int → Prop
  | [], [] => True
  | m :: hd, n :: l => (0 ≤ n ∧ n ≤ m ∧ n ≤ topN) ∧ InB hd l
  | _, _ => False
theorem rdBy_of {hd l : List Int} (h : InB hd l) (r : List UInt8) : rdBy hd (some (encAll l ++ r)) = (l, some r) := by
  induction hd generalizing l with
  | nil =>
    cases l with
    | nil => rfl
    | cons n l => cases h
  | cons m hd ih =>
    cases l with
    | nil => cases h
    | cons n l =>
      obtain ⟨⟨h1, h2, h3⟩, h4⟩ := h
      rw [encAll_cons, List.append_assoc, rdBy, rdNum_of _ _ _ (by omega) (by omega)]
      simp only
      rw [ih h4, Int.toNat_of_nonneg h1]
theorem list8 {l : List Int} (h : l.length = 8) : l = [l.getD 0 0, l.getD 1 0, l.getD 2 0, l.getD 3 0, l.getD 4 0, l.getD 5 0, l.getD 6 0, l.getD 7 0] := by
  match l, h with
  | [_, _, _, _, _, _, _, _], _ => rfl
theorem headP_in {x : LetF} (h : LetSm x) : InB headP (headNs x) := by
  obtain ⟨⟨⟨h8, h9⟩, h10, h11⟩, ⟨⟨h1, h2⟩, ⟨h3, h4⟩, h5, h6⟩, h7, _⟩ := h
  unfold headP headNs
  simp only [InB]
  refine ⟨?_, ?_, ?_, ?_, ?_, ?_, ?_, ?_, trivial⟩ <;> unfold topN <;> omega
theorem headR_in {x : LetF} (h : LetSm x) : InB headR (headNs x) := by
  obtain ⟨⟨⟨h8, h9⟩, h10, h11⟩, ⟨⟨h1, h2⟩, ⟨h3, h4⟩, h5, h6⟩, h7, _⟩ := h
  unfold headR headNs
  simp only [InB]
  refine ⟨?_, ?_, ?_, ?_, ?_, ?_, ?_, ?_, trivial⟩ <;> unfold topN <;> omega
theorem rdLet_inv {hd : List Int} (hh : hd.length = 8) {s : Rd} (h : (rdLet hd s).1.2 = true) : letOk (rdLet hd s).1.1 = true ∧ ∃ r, (rdLet hd s).2 = some r ∧ s = some (letB (rdLet hd s).1.1 ++ r) := by
  have h' := h
  unfold rdLet at h'
  simp only [Bool.and_eq_true] at h'
  obtain ⟨e1, e2, e3, e4⟩ := h'
  obtain ⟨r, hr⟩ := Option.isSome_iff_exists.1 e3
  refine ⟨e4, r, hr, ?_⟩
  have g9 := rdRow_inv (rdRow_was hr)
  have g8 := rdNum_inv (rdNum_was g9.1)
  have g7 := rdNum_inv (rdNum_was g8.1)
  have g6 := rdNum_inv (rdNum_was g7.1)
  have g5 := rdBas0_inv g6.1
  have g4 := rdEnts_inv g5 e1
  have g3 := rdNum_inv (rdNum_was g4)
  have g2 := rdFlag_inv (rdFlag_was g3.1)
  have g1 := rdBy_inv g2
  refine g1.trans ?_
  congr 1
  have hb := (rdBas_yes e2).1
  have hl := list8 (show (rdBy hd s).1.length = 8 by rw [rdBy_len, hh])
  have he := rdEnts_len (rdNum 30 (rdFlag (rdBy hd s).2).2).1.toNat (rdNum 30 (rdFlag (rdBy hd s).2).2).2
  unfold letB headNs rdLet
  simp only [List.append_assoc]
  rw [← hl, he, hb]
  simp only [encAll_cons, encAll_nil, List.append_assoc, List.append_nil]
theorem rdLet_of {hd : List Int} {x : LetF} (h : letOk x = true) (hi : InB hd (headNs x)) (r : List UInt8) : rdLet hd (some (letB x ++ r)) = ((x, true), some r) := by
  have hs := (letOk_iff x).1 h
  obtain ⟨_, ⟨⟨h1, h2⟩, ⟨h3, h4⟩, h5, h6⟩, h7, h8, h9, h10⟩ := hs
  unfold rdLet letB
  simp only [List.append_assoc]
  rw [rdBy_of hi]
  simp only
  rw [rdFlag_of]
  simp only
  rw [rdNum_of _ _ _ (by omega) (by unfold topN; omega)]
  simp only [Int.toNat_natCast]
  rw [rdEnts_of _ h8.2 _ _ (Nat.le_refl _), List.take_length, List.drop_length]
  have e0 : entsB [] = [] := rfl
  simp only [e0, List.nil_append, rdBas0_of h9, rdBas_of h9, encAll_cons, encAll_nil, List.append_assoc, List.append_nil]
  rw [rdNum_of _ _ _ (by omega) (by unfold topN; omega)]
  simp only
  rw [rdNum_of _ _ _ (by omega) (by unfold topN; omega)]
  simp only
  rw [rdNum_of _ _ _ (by omega) (by unfold topN; omega)]
  simp only
  rw [rdRow_of _ _ _ (by omega) (by unfold topN; omega)]
  simp only [Int.toNat_of_nonneg h5.1, Int.toNat_of_nonneg h6.1, Int.toNat_of_nonneg h7.1, headNs, List.getD_cons_zero, List.getD_cons_succ, Option.isSome_some, Bool.true_and]
  rw [show (⟨x.kind, x.group, x.src, x.dst, x.term, x.index, x.logt, x.commit, x.ok, x.ents, x.base, x.size, x.at_, x.tag, x.bytes⟩ : LetF) = x from rfl, h]
theorem rdLets_inv {hd : List Int} (hh : hd.length = 8) {k : Nat} {s r : List UInt8} {l : List LetF} (h : rdLets hd k s = some (l, r)) : l.length = k ∧ (∀ x ∈ l, letOk x = true) ∧ s = (l.map letB).flatten ++ r := by
  induction k generalizing l r with
  | zero =>
    rw [rdLets] at h
    injection h with h
    injection h with h1 h2
    subst h1; subst h2
    exact ⟨rfl, (by intro x hx; cases hx), rfl⟩
  | succ k ih =>
    rw [rdLets] at h
    split at h
    · cases h
    · rename_i l0 r0 h0
      obtain ⟨i1, i2, i3⟩ := ih h0
      split at h
      · rename_i x r' hx
        injection h with h
        injection h with h1 h2
        subst h1; subst h2
        obtain ⟨j1, r2, j2, j3⟩ := rdLet_inv hh (s := some r0) (by rw [hx])
        rw [hx] at j1 j2 j3
        simp only at j1 j2 j3
        injection j2 with j2
        subst j2
        injection j3 with j3
        refine ⟨by simp [i1], fun y hy => ?_, ?_⟩
        · rcases List.mem_append.1 hy with h | h
          · exact i2 y h
          · rw [List.mem_singleton.1 h]; exact j1
        · rw [i3, j3]
          simp
      · cases h
theorem rdLets_of {hd : List Int} (l : List LetF) (h : ∀ x ∈ l, letOk x = true ∧ InB hd (headNs x)) (r : List UInt8) (k : Nat) (hk : k ≤ l.length) : rdLets hd k ((l.map letB).flatten ++ r) = some (l.take k, ((l.drop k).map letB).flatten ++ r) := by
  induction k with
  | zero => rfl
  | succ k ih =>
    have hlt : k < l.length := hk
    have e : ((l.drop k).map letB).flatten ++ r = letB l[k] ++ (((l.drop (k + 1)).map letB).flatten ++ r) := by
      rw [List.drop_eq_getElem_cons hlt, List.map_cons, List.flatten_cons, List.append_assoc]
    obtain ⟨h1, h2⟩ := h _ (List.getElem_mem hlt)
    rw [rdLets, ih (by omega)]
    simp only
    rw [e, rdLet_of h1 h2]
    simp only
    rw [List.take_succ_eq_append_getElem hlt]
/-- The two ways to bound a head. -/
def HeadOk (hd : List Int) : Prop := hd.length = 8 ∧ ∀ x, letOk x = true → InB hd (headNs x)
theorem headP_ok : HeadOk headP := ⟨rfl, fun x h => headP_in ((letOk_iff x).1 h)⟩
theorem headR_ok : HeadOk headR := ⟨rfl, fun x h => headR_in ((letOk_iff x).1 h)⟩
theorem letsOk_iff (l : List LetF) : letsOk l = true ↔ ∀ x ∈ l, letOk x = true := by unfold letsOk; exact List.all_eq_true
theorem letsGet_inv {hd : List Int} (hh : HeadOk hd) {b : List UInt8} {l : List LetF} (h : letsGet hd b = some l) : letsOk l = true ∧ letsB l = b ∧ l.length ≤ 1073741824 := by
  unfold letsGet at h
  split at h
  · cases h
  · rename_i n r hn
    obtain ⟨h1, h2, h3, _⟩ := rdNum_inv hn
    injection h1 with h1
    split at h
    · rename_i l' hl
      injection h with h
      subst h
      obtain ⟨i1, i2, i3⟩ := rdLets_inv hh.1 hl
      refine ⟨(letsOk_iff _).2 i2, ?_, by omega⟩
      unfold letsB
      rw [h1, i3, i1, List.append_nil]
    · cases h
theorem letsGet_of {hd : List Int} (hh : HeadOk hd) {l : List LetF} (h : letsOk l = true) (hl : l.length ≤ 1073741824) (r : List UInt8) : letsGet hd (letsB l ++ r) = if r = [] then some l else none := by
  have h := (letsOk_iff l).1 h
  unfold letsGet letsB
  rw [List.append_assoc, rdNum_of _ _ _ (by omega) (by unfold topN; omega)]
  simp only [Int.toNat_natCast]
  rw [rdLets_of l (fun x hx => ⟨h x hx, hh.2 x (h x hx)⟩) r _ (Nat.le_refl _), List.take_length, List.drop_length]
  simp only [List.map_nil, List.flatten_nil, List.nil_append]
  cases r with
  | nil => rfl
  | cons c r => rfl
/-- The program's way to read is the document's. -/
theorem letsGet_eq (b : List UInt8) : letsGet headP b = letsGet headR b := by
  cases h : letsGet headP b with
  | some l =>
    obtain ⟨h1, h2, h3⟩ := letsGet_inv headP_ok h
    have := letsGet_of headR_ok h1 h3 []
    rw [List.append_nil, h2] at this
    rw [this]; rfl
  | none =>
    cases h2 : letsGet headR b with
    | none => rfl
    | some l =>
      obtain ⟨i1, i2, i3⟩ := letsGet_inv headR_ok h2
      have := letsGet_of headP_ok i1 i3 []
      rw [List.append_nil, i2, h] at this
      cases this
theorem letsGet_self {hd : List Int} (hh : HeadOk hd) {l : List LetF} (h : letsOk l = true) (hl : l.length ≤ 1073741824) : letsGet hd (letsB l) = some l := by
  have := letsGet_of hh h hl []
  rwa [List.append_nil] at this
theorem letsGet_more {hd : List Int} (hh : HeadOk hd) {l : List LetF} (h : letsOk l = true) (hl : l.length ≤ 1073741824) (c : UInt8) : letsGet hd (letsB l ++ [c]) = none := by
  rw [letsGet_of hh h hl [c], if_neg (by simp)]
theorem letsGet_less {hd : List Int} (hh : HeadOk hd) {l : List LetF} (h : letsOk l = true) (hl : l.length ≤ 1073741824) (a : List UInt8) (c : UInt8) (e : letsB l = a ++ [c]) : letsGet hd a = none := by
  cases h1 : letsGet hd a with
  | none => rfl
  | some m =>
    obtain ⟨i1, i2, i3⟩ := letsGet_inv hh h1
    have h2 := letsGet_more hh i1 i3 c
    rw [i2, ← e, letsGet_self hh h hl] at h2
    cases h2
/-- Right letters with the same bytes are the same. -/
theorem letB_inj {x y : LetF} (hx : letOk x = true) (hy : letOk y = true) (h : letB x = letB y) : x = y := by
  have h1 := rdLet_of hx (headP_ok.2 x hx) []
  have h2 := rdLet_of hy (headP_ok.2 y hy) []
  rw [h, h2] at h1
  injection h1 with h1
  injection h1 with h1
  exact h1.symm
theorem letsB_one {x y : LetF} (hx : letOk x = true) (hy : letOk y = true) : letsB [x] = letsB [y] ↔ x = y := by
  constructor
  · intro h
    unfold letsB at h
    have h : letB x = letB y := by simpa using h
    exact letB_inj hx hy h
  · rintro rfl; rfl
theorem letsB_pos (l : List LetF) : 1 ≤ (letsB l).length := by
  unfold letsB
  have := enc_ne l.length
  rw [List.length_append]
  cases h : enc l.length with
  | nil => exact (this h).elim
  | cons a b => simp; omega
end Go.Proofs.Ytippdjaakcgeoaa
