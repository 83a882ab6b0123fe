/- A drawn region: a head of operations that read, whose callees make new memory alone, in any order; behind it a tail in one forced order, in whatever world of the class the head left. -/
import Derived.Test.YtgmcjfjdjnoljaaMemB
import Derived.StillTail
import Derived.Deep.Quiet
namespace Go.Proofs.Ytgmcjfjdjnoljaa
open Go Go.RowKit

section
variable {P : Program} {ops : Array Oper} {md : Region.Mode} {C : World → Prop}
/-- Whatever order the head is picked in, f operations from here on: then L. -/
def Head (P : Program) (md : Region.Mode) (ops : Array Oper) (C : World → Prop) (n : Nat) (L : Array Bool → Act → Prop) : Nat → Array Bool → Act → Prop
  | 0 => L
  | f + 1 => fun listed a => (∃ i, i ∈ Region.ready md ops listed) ∧ ∀ i, i ∈ Region.ready md ops listed → i < n ∧ qOp P ops C i (Head P md ops C n L f (listed.setIfInBounds i true)) a
theorem Head.to {n g : Nat} {L : Array Bool → Act → Prop} {Q : Exit → Act → World → Prop} (hL : ∀ listed a w, C w → L listed a → wpAny P md ops Q g listed a w) (f : Nat) (listed : Array Bool) (a : Act) (w : World) (hw : C w)
    (h : Head P md ops C n L f listed a) : wpAny P md ops Q (f + g) listed a w := by
  induction f generalizing listed a w with
  | zero => rw [Nat.zero_add]; exact hL _ _ _ hw h
  | succ f ih =>
    obtain ⟨⟨i0, hi0⟩, hall⟩ := h
    rw [Nat.add_right_comm]
    exact ⟨fun e => (by rw [e] at hi0; cases hi0), fun i hi => wpOp_of_qOp hw (fun a' w' hw' hk => ih _ _ _ hw' hk) (hall i hi).2⟩
theorem Head.take {n i : Nat} {o : Oper} {v : Value} {L : Array Bool → Act → Prop} (ho : ops[i]? = some o) (hsel : ∀ (j : Nat) (o : Oper) cs b, ops[j]? = some o → o.op ≠ .select cs b) (hs : Region.sinkB md ops n = true) (hc : Region.chainB md ops n = true) (hn : n < ops.size) (hin : i < n)
    (hL : ∀ listed a, L listed a → ∀ j ∈ Region.ready md ops listed, n ≤ j) (f : Nat) (listed : Array Bool) (a : Act) (inv : HeadInv md ops n listed)
    (hfree : ∀ j oj, ops[j]? = some oj → j ≠ i → listed.getD j true = false → (∀ e ∈ oj.after, Region.binds md e = true → e.on ≠ i) → o.apart ops oj = true)
    (hr : i ∈ Region.ready md ops listed) (hy : YieldsIn P ops C o v a) (H : Head P md ops C n L f (listed.setIfInBounds i true) (a.put o.dst v)) : Head P md ops C n L (f + 1) listed a := by
  induction f generalizing listed a with
  | zero =>
    have hun := (mem_ready.1 hr).1
    refine ⟨⟨i, hr⟩, fun j hj => ?_⟩
    have hjn : j < n := Nat.lt_of_not_le fun h => tail_waits hs hc hn inv _ i rfl hin hun j h hj
    refine ⟨hjn, ?_⟩
    rcases Nat.decEq j i with hne | rfl
    · have := hL _ _ H j (ready_mono hj hne); omega
    · exact hy.qOp ho H
  | succ f ih =>
    have hun := (mem_ready.1 hr).1
    refine ⟨⟨i, hr⟩, fun j hj => ?_⟩
    have hjn : j < n := Nat.lt_of_not_le fun h => tail_waits hs hc hn inv _ i rfl hin hun j h hj
    refine ⟨hjn, ?_⟩
    rcases Nat.decEq j i with hne | rfl
    · obtain ⟨hjun, oj, hoj, hall⟩ := mem_ready.1 hj
      have hnot : ∀ e ∈ oj.after, Region.binds md e = true → e.on ≠ i := fun e he hb heq => by
        have h1 := hall e he hb
        rw [heq, getD_both hun] at h1
        cases h1
      have h2 := qOp_put hoj (hfree j oj hoj hne hjun hnot) (fun cs b => hsel i o cs b ho) (fun cs b => hsel j oj cs b hoj) hy (H.2 j (ready_mono hj hne)).2
      refine qOp_mono (fun a' h3 => ih (listed.setIfInBounds j true) a' (inv.set hj hjn) (fun k ok hk hki hkn hno => hfree k ok hk hki ?_ hno) (ready_mono hr (Ne.symm hne)) h3.1 ?_) h2
      · rcases Nat.decEq j k with hjk | rfl
        · rw [getD_set_ne true hjk] at hkn; exact hkn
        · exact hjun
      · rw [Array.setIfInBounds_comm _ _ hne]
        exact h3.2
    · exact hy.qOp ho H
theorem Head.lex {n g : Nat} {Lq : Act → Prop} (hsel : Region.noSelect ops = true) (hs : Region.sinkB md ops n = true) (hc : Region.chainB md ops n = true) (hn : n < ops.size) (l : List Oper) (k : Nat) (listed : Array Bool) (a : Act)
    (hl : ∀ j, j < l.length → l[j]? = ops[k + j]?) (hk : k + l.length = n) (inv : HeadInv md ops n listed) (hB : Region.lexHead md ops g l.length k listed = true) (h : wpQuiet P ops C Lq l a) :
    Head P md ops C n (fun listed' a' => Region.seqB md ops g n listed' = true ∧ Lq a') l.length listed a := by
  induction l generalizing k listed a with
  | nil =>
    obtain rfl : k = n := by simpa using hk
    exact ⟨by simpa [Region.lexHead] using hB, h⟩
  | cons o l ih =>
    have h0 : ops[k]? = some o := by simpa using (hl 0 (by simp)).symm
    simp only [List.length_cons, Region.lexHead, Bool.and_eq_true] at hB hk
    obtain ⟨⟨hr, hf⟩, hB'⟩ := hB
    have hkn : k < n := by omega
    have hr' : k ∈ Region.ready md ops listed := by simpa using hr
    have hst : qOp P ops C k (wpQuiet P ops C Lq l) a := by unfold qOp; simp only [h0]; exact h
    obtain ⟨v, hy, hK⟩ := yieldsIn_of_qOp h0 hst
    exact Head.take h0 (Region.noSelect_spec hsel) hs hc hn hkn (fun _ _ hL => seqB_ready hL.1) l.length listed a inv (Region.free_spec h0 hf) hr' hy
      (ih (k + 1) _ _ (fun j hj => by have := hl (j + 1) (by simp; omega); simpa [Nat.add_assoc, Nat.add_comm 1 j] using this) (by omega) (inv.set hr' hkn) hB' hK)
end
/-- The region: its first n operations quiet in the worlds that come of w by new memory; then the tail. -/
theorem wp_region_later_tail {P : Program} {id : Nat} {Q : Exit → Act → World → Prop} {a : Act} {w : World} {l : List Oper} (n : Nat) (hm : P.follows .mixedOrders = true) (hB : Region.lexTailB .any l.toArray n = true)
    (h : wpQuiet P l.toArray (fun w' => ∃ m : Later w, w' = m.at_) (fun a' => ∀ w', Nw w w' → wpList P l.toArray Q (l.drop n) a' w') (l.take n) a) : (Code.region id l.toArray true).wp P Q a w := by
  simp only [Region.lexTailB, Bool.and_eq_true, decide_eq_true_eq] at hB
  obtain ⟨⟨⟨⟨hsel, hn⟩, hs⟩, hc⟩, hlex⟩ := hB
  have hn' : n < l.length := by simpa using hn
  have htl : (l.take n).length = n := by rw [List.length_take]; omega
  have hdl : (l.drop n).length = l.toArray.size - n := by simp
  have inv0 : HeadInv .any l.toArray n (Array.replicate l.toArray.size false) :=
    ⟨by simp, fun j oj _ hl => (by rw [getD_replicate_false] at hl; cases hl), fun t _ ht => getD_in (by simpa using ht) (getD_replicate_false _ _)⟩
  have H := Head.lex (md := .any) (g := l.toArray.size - n) hsel hs hc hn (l.take n) 0 _ a (fun j hj => by
    have hj' : j < n := by rw [htl] at hj; exact hj
    simp [hj']) (by simpa using htl) inv0 (by rw [htl]; exact hlex) h
  refine wp_region_any hm ?_
  have := Head.to (Q := Q) (g := l.toArray.size - n) (fun listed a' w' hw' hL => by
    obtain ⟨m, rfl⟩ := hw'
    have := wpAny_of_seq (md := .any) (Q' := Q) (l.drop n) n listed a' m.at_ (fun j => by simp [List.getElem?_drop]) (by rw [hdl]; exact hL.1) (hL.2 _ m.nw)
    rwa [hdl] at this) _ _ _ w.drew ⟨⟨w.drew, (Fr.refl _ w).drew⟩, rfl⟩ H
  rw [htl, show n + (l.toArray.size - n) = l.toArray.size by omega] at this
  exact this
end Go.Proofs.Ytgmcjfjdjnoljaa
