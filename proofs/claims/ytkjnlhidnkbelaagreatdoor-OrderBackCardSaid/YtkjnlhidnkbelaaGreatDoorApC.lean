/- The statements' kit: lists of bytes that lie apart: the later stages' words. -/
import Derived.Test.YtkjnlhidnkbelaaGreatDoorApA
namespace Go.Proofs.YtkjnlhidnkbelaaGreatDoor
open Go Go.RowKit

theorem Own.off {w : World} {E E' : TypeId} {s s' n n' c c' : Nat} {A A' : Option Addr} {cs cs' : List Value} (h : Own w E s A n c cs) (h' : Own w E' s' A' n' c' cs') (hne : E' ≠ E) : ∀ j, inA A' j → ¬ inA A j := by
  intro j hj hh
  rcases h'.2 with ⟨rfl, _⟩ | ⟨g, cur, rfl, hbk, _⟩
  · exact inA_none _ hj
  · have hj' := (inA_some _ _).1 hj
    subst hj'
    exact h.ne_ hbk hne hh

/-- The first k lists have grown, to these; what was handed in bears its marks still. -/
def ApG (w : World) (m : Nat) (A : Nat → Option Addr) (N cp : Nat → Nat) (gg : Nat) (con : Nat → List UInt8) (k : Nat) (wr : World) : Prop :=
  ∃ (cells : List Value) (GA : Nat → Option Addr) (Gc : Nat → Nat), Own wr 22 1 (some ⟨gg, 0, none⟩) m m cells ∧ (∀ j, j < k → cells[j]? = some (.slice (GA j) (N j + 64) (Gc j))) ∧
    (∀ j, j < k → Own wr 5 1 (GA j) (N j + 64) (Gc j) ((con j).map B8)) ∧ (∀ j, j < k → ∀ b, inA (GA j) b → inA (A j) b ∨ w.heap.size ≤ b) ∧ RowsAt wr m A N cp (fun j => mks j (N j)) ∧ Fr (InR m A) w wr
def ApGo (w : World) (m : Nat) (A : Nat → Option Addr) (N cp : Nat → Nat) (gg : Nat) (con : Nat → List UInt8) (i : Value) (wr : World) : Prop := ∃ k : Nat, k ≤ m ∧ i = .int .i64 k ∧ ApG w m A N cp gg con k wr
/-- The k-th has grown by i. -/
def ApX (A : Nat → Option Addr) (N cp : Nat → Nat) (k : Nat) (wo : World) (con : List UInt8) (X : Option Addr) (n c : Nat) (wx : World) : Prop :=
  Fr (inA (A k)) wo wx ∧ Own wx 5 1 X n c (con.map B8) ∧ ((X = A k ∧ c = cp k) ∨ ∀ b, inA X b → wo.heap.size ≤ b) ∧ Own wx 5 1 (A k) (N k) (cp k) ((mks k (N k)).map B8)
def ApXi (A : Nat → Option Addr) (N cp : Nat → Nat) (k : Nat) (wo : World) (v i : Value) (wx : World) : Prop :=
  ∃ (j : Nat) (X : Option Addr) (c : Nat), j ≤ 64 ∧ i = .int .i64 j ∧ v = .slice X (N k + j) c ∧ ApX A N cp k wo (mks k (N k + j)) X (N k + j) c wx

section
variable {w wo wx w1 w' : World} {m : Nat} {A : Nat → Option Addr} {N cp : Nat → Nat} {gg k : Nat} {con : Nat → List UInt8} {f : Nat → List UInt8}
theorem ApG.next (h : ApG w m A N cp gg con k wo) (hgg : w.heap.size ≤ gg) (hr : RowsAt w m A N cp f) (hfar : FarR m A) (hk : k < m) {X : Option Addr} {c : Nat} (hx : ApX A N cp k wo (con k) X (N k + 64) c wx) (hw : w' = wx.setCell ⟨gg, k, none⟩ (.slice X (N k + 64) c)) : ApG w m A N cp gg con (k + 1) w' := by
  subst hw
  obtain ⟨cells, GA, Gc, ho, hc, hG, hb, hrow, hf⟩ := h
  obtain ⟨hf2, hX, hXb, hk2⟩ := hx
  have hok := hrow k hk
  have hgk : ¬ inA (A k) gg := fun h => ho.off hok (by decide) gg h ((inA_some _ _).2 rfl)
  have ho2 := ho.fr hf2 (fun j hj => by rw [(inA_some _ _).1 hj]; exact hgk)
  have hXg : ¬ inA X gg := fun h => ho2.off hX (by decide) gg h ((inA_some _ _).2 rfl)
  have hcl := ho.1
  have hst := ho2.store k (.slice X (N k + 64) c)
  refine ⟨_, fun j => if j = k then X else GA j, fun j => if j = k then c else Gc j, hst, fun j hj => ?_, fun j hj => ?_, fun j hj b hbb => ?_, ?_, (hf.tr (InR.fr hk hf2)).setCell (p := ⟨gg, k, none⟩) (.inr ?_) _⟩
  · by_cases e : j = k
    · subst e
      simp only [if_true]
      rw [List.getElem?_set_self (by omega)]
    · simp only [if_neg e]
      rw [List.getElem?_set_ne (fun h => e h.symm)]
      exact hc j (by omega)
  · by_cases e : j = k
    · subst e
      simp only [if_true]
      exact hX.setCell (p := ⟨gg, j, none⟩) hXg _
    · simp only [if_neg e]
      have h1 := (hG j (by omega)).fr hf2 (fun b hb1 hb2 => by
        rcases hb j (by omega) b hb1 with h | h
        · exact hfar j k (by omega) hk e b h hb2
        · have := hr.inlt ⟨k, hk, hb2⟩; omega)
      exact h1.setCell (p := ⟨gg, k, none⟩) (fun h => ho2.off h1 (by decide) gg h ((inA_some _ _).2 rfl)) _
  · by_cases e : j = k
    · subst e
      simp only [if_true] at hbb
      rcases hXb with ⟨rfl, _⟩ | h
      · exact .inl hbb
      · exact .inr (Nat.le_trans hf.size (h b hbb))
    · simp only [if_neg e] at hbb
      exact hb j (by omega) b hbb
  · have h1 := hrow.same hfar hk hf2 hk2
    exact fun j hj => (h1 j hj).setCell (p := ⟨gg, k, none⟩) (fun h => ho2.off (h1 j hj) (by decide) gg h ((inA_some _ _).2 rfl)) _
  · exact hgg
theorem ApG.rows (h : ApG w m A N cp gg con k wo) : RowsAt wo m A N cp (fun j => mks j (N j)) := by obtain ⟨_, _, _, _, _, _, _, h, _⟩ := h; exact h
theorem ApG.fr (h : ApG w m A N cp gg con k wo) : Fr (InR m A) w wo := by obtain ⟨_, _, _, _, _, _, _, _, h⟩ := h; exact h
theorem ApG.own (h : ApG w m A N cp gg con k wo) : ∃ cells, Own wo 22 1 (some ⟨gg, 0, none⟩) m m cells := by obtain ⟨c, _, _, h, _⟩ := h; exact ⟨c, h⟩
theorem ApX.next {con x : List UInt8} {X A' : Option Addr} {n c cap' q : Nat} (h : ApX A N cp k wo con X n c wx) (q1 : Nw wx w1) (hq : 0 < q) (hcn : con.length = n) (hNn : N k ≤ n) (hpre : con.take (N k) = mks k (N k)) (hlt : ∀ b, inA (A k) b → b < wo.heap.size)
    (hap : AppTo w1 5 1 X n c q (con.map B8) (x.map B8) A' cap' w') : ApX A N cp k wo (con ++ x) A' (n + q) cap' w' := by
  obtain ⟨hf, ho, hXb, hk2⟩ := h
  obtain ⟨ho2, ho1, hcase⟩ := hap
  have hsz := hf.size
  have e : (con ++ x).map B8 = con.map B8 ++ x.map B8 := List.map_append
  refine ⟨?_, by rw [e]; exact ho2, ?_, ?_⟩
  · rcases hcase with ⟨_, rfl, _, hf2⟩ | ⟨_, _, hf2⟩
    · rcases hXb with ⟨rfl, _⟩ | h
      · exact (hf.tr (Nw.on q1)).tr hf2
      · exact (hf.tr (Nw.on q1)).trans hf2 (fun b hb => .inr (h b hb))
    · exact (hf.tr (Nw.on q1)).tr (Nw.on hf2)
  · rcases hcase with ⟨_, rfl, rfl, _⟩ | ⟨_, rfl, _⟩
    · exact hXb
    · refine .inr fun b hb => ?_
      rw [(inA_some _ _).1 hb]
      exact Nat.le_trans hsz q1.size
  · have hk3 := hk2.fr q1 (fun _ _ h => h)
    rcases hcase with ⟨hcp, rfl, rfl, hf2⟩ | ⟨_, rfl, hf2⟩
    · rcases hXb with ⟨rfl, rfl⟩ | h
      · have hne : A k ≠ none := by
          intro he
          rcases ho2.2 with ⟨_, h, _⟩ | ⟨g, cur, h, _⟩
          · omega
          · rw [he] at h; cases h
        have h3 := ho2.pre (k := N k) (by omega) hne
        rw [Nat.mul_one, ← List.map_append, ← List.map_take, List.take_append_of_le_length (by omega), hpre] at h3
        exact h3
      · exact hk3.fr hf2 (fun b hb hb2 => by have := h b hb2; have := hlt b hb; omega)
    · exact hk3.fr hf2 (fun _ _ h => h)
end

theorem Own.cellEx {w : World} {E : TypeId} {g n c k : Nat} {cs : List Value} (h : Own w E 1 (some ⟨g, 0, none⟩) n c cs) (hk : k < n) : ∃ u, w.cell? ⟨g, k, none⟩ = some u := by
  have hl := h.1
  exact ⟨_, (h.cellAt (k := k) (by omega)).trans (List.getElem?_eq_getElem (by omega))⟩
/-- What is to be appended, as far as it is filled. -/
def ManyR (kk : Nat) (g : Nat) (wy : World) (i : Value) (wx : World) : Prop :=
  ∃ (j : Nat) (cs : List UInt8), j ≤ 64 ∧ i = .int .i64 j ∧ Own wx 5 1 (some ⟨g, 0, none⟩) 64 64 (cs.map B8) ∧ cs.take j = mks kk j ∧ Fr (· = g) wy wx
theorem ManyR.next {kk g j : Nat} {wy wx w' : World} {cs : List UInt8} (ho : Own wx 5 1 (some ⟨g, 0, none⟩) 64 64 (cs.map B8)) (ht : cs.take j = mks kk j) (hf : Fr (· = g) wy wx) (hj : j < 64) (hw : w' = wx.setCell ⟨g, j, none⟩ (B8 (mkB kk j))) : ManyR kk g wy (.int .i64 ((j : Int) + 1)) w' := by
  subst hw
  have hl : cs.length = 64 := by have := ho.1; simpa using this
  have hs := ho.store j (B8 (mkB kk j))
  rw [← List.map_set] at hs
  refine ⟨j + 1, cs.set j (mkB kk j), hj, by go_num, hs, ?_, hf.setCell (p := ⟨g, j, none⟩) (.inl rfl) _⟩
  rw [mks_succ, ← ht, List.take_succ_eq_append_getElem (by simpa [hl] using hj)]
  simp only [List.getElem_set_self]
  rw [List.take_set_of_le (Nat.le_refl _)]
theorem info_bytes : (Tryz.prog.info? 22).map (fun i => (i.zero, i.size, i.bytes)) = some (some (.slice none 0 0), 1, 24) := by kernel_rfl
/-- What has grown, by the first sort of growth, and by the second. -/
def con1 (N : Nat → Nat) (j : Nat) : List UInt8 := mks j (N j + 64)
def con2 (m : Nat) (N : Nat → Nat) (j : Nat) : List UInt8 := mks j (N j) ++ mks (j + m) 64
theorem con1_len (N : Nat → Nat) (j : Nat) : (con1 N j).length = N j + 64 := mks_len _ _
theorem con2_len (m : Nat) (N : Nat → Nat) (j : Nat) : (con2 m N j).length = N j + 64 := by unfold con2; rw [List.length_append, mks_len, mks_len]
theorem con1_at (N : Nat → Nat) (j i : Nat) (h : i < N j + 64) : (con1 N j)[i]? = some (mkB j i) := mks_at _ _ _ h
theorem con2_at (m : Nat) (N : Nat → Nat) (j i : Nat) (h : i < N j) : (con2 m N j)[i]? = some (mkB j i) := by
  unfold con2
  rw [List.getElem?_append_left (by rw [mks_len]; exact h)]
  exact mks_at _ _ _ h
/-- The cell of a grown list's place, and its header. -/
theorem ApG.cells {w wr : World} {m : Nat} {A : Nat → Option Addr} {N cp : Nat → Nat} {gg : Nat} {con : Nat → List UInt8} (h : ApG w m A N cp gg con m wr) {k : Nat} (hk : k < m) :
    ∃ (X : Option Addr) (c : Nat), wr.cell? ⟨gg, k, none⟩ = some (.slice X (N k + 64) c) ∧ ∀ i x, (con k)[i]? = some x → ∃ g, X = some ⟨g, 0, none⟩ ∧ wr.cell? ⟨g, i, none⟩ = some (B8 x) := by
  obtain ⟨cells, GA, Gc, ho, hc, hG, hb, hrow, hf⟩ := h
  refine ⟨GA k, Gc k, (ho.cellAt (k := k) (by omega)).trans (hc k hk), fun i x hx => ?_⟩
  have h1 := hG k hk
  have hl : (con k).length = N k + 64 := by have := h1.1; simpa using this
  have hi : i < (con k).length := by
    rcases Nat.lt_or_ge i (con k).length with h | h
    · exact h
    · rw [List.getElem?_eq_none h] at hx; cases hx
  rcases h1.2 with ⟨_, h2, _⟩ | ⟨g, cur, h2, _⟩
  · omega
  · refine ⟨g, h2, ?_⟩
    rw [h2] at h1
    rw [h1.cellAt (k := i) (by omega), List.getElem?_map, hx]
    rfl
theorem RowsAt.cells {w : World} {m : Nat} {A : Nat → Option Addr} {N cp : Nat → Nat} (h : RowsAt w m A N cp (fun j => mks j (N j))) {k : Nat} (hk : k < m) {i : Nat} (hi : i < N k) : ∃ g, A k = some ⟨g, 0, none⟩ ∧ w.cell? ⟨g, i, none⟩ = some (B8 (mkB k i)) := by
  have h1 := h k hk
  rcases h1.2 with ⟨_, h2, _⟩ | ⟨g, cur, h2, _⟩
  · omega
  · refine ⟨g, h2, ?_⟩
    rw [h2] at h1
    rw [h1.cellAt (k := i) (by omega), List.getElem?_map, mks_at _ _ _ hi]
    rfl
end Go.Proofs.YtkjnlhidnkbelaaGreatDoor
