/- A drawn region, walked once, where some operations make memory: where it lies is told as it comes. -/
import Derived.Test.YtippdjaakcgeoaaEff
namespace Go.Proofs.Ytippdjaakcgeoaa
open Go Go.RowKit

/-- What is told of an operation as it comes: where its memory lies, how much there is. -/
abbrev Bk := Nat → Nat × Option Addr
section
variable {P : Program} {ops : Array Oper} {md : Region.Mode} {C : (Nat → Bool) → Bk → World → Prop}
def updB (B : Bk) (k : Nat) (b : Nat × Option Addr) : Bk := fun j => if j = k then b else B j
theorem updB_self (B : Bk) (k : Nat) : updB B k (B k) = B := by
  funext j
  unfold updB
  by_cases h : j = k
  · rw [if_pos h, h]
  · rw [if_neg h]
theorem updB_at (B : Bk) (k : Nat) (b : Nat × Option Addr) : updB B k b k = b := if_pos rfl
/-- What an operation waits for, at some removes. -/
def reach (md : Region.Mode) (ops : Array Oper) : Nat → Nat → Nat → Bool
  | 0, k, j => k == j
  | f + 1, k, j => k == j || (match ops[k]? with
    | none => false
    | some o => o.after.any fun e => Region.binds md e && reach md ops f e.on j)
abbrev fuelR : Nat := 3
def effUpon2 (P : Program) (K : Nat × Option Addr → World → Prop) (vf : Nat × Option Addr → Value) : Result Next → Prop
  | .ok (.value u) w' => ∃ b, u = vf b ∧ K b w'
  | .ok .skip w' => ∃ b, vf b = undef ∧ K b w'
  | .ok (.enter f args) w' => Calls P f args w' (fun e w'' => ∃ b, e = .returned (vf b) ∧ K b w'')
  | _ => False
def effAt2 (P : Program) (o : Oper) (a : Act) (vf : Nat × Option Addr → Value) (K : Nat × Option Addr → World → Prop) (w : World) : Prop := effUpon2 P K vf ((execOp a.eval o).run P w)
def EffIn2 (md : Region.Mode) (P : Program) (ops : Array Oper) (C : (Nat → Bool) → Bk → World → Prop) (o : Oper) (k : Nat) (vf : Bk → Value) (a : Act) (B : Bk) : Prop :=
  ∀ L w, L k = false → (∀ j, waitsFor md o j = true → L j = true) → C L B w → (Region.wanted o (yielded ops a.tmps) = true ∧ effAt2 P o a (fun b => vf (updB B k b)) (fun b w' => C (onL L k) (updB B k b) w') w) ∨ (Region.wanted o (yielded ops a.tmps) = false ∧ ∃ b, vf (updB B k b) = undef ∧ C (onL L k) (updB B k b) w)
def DepIn (md : Region.Mode) (ops : Array Oper) (k : Nat) (vf : Bk → Value) : Prop := ∀ B B' : Bk, (∀ j, reach md ops fuelR k j = true → B j = B' j) → vf B = vf B'
/-- The walk. -/
def wpEff2 (md : Region.Mode) (P : Program) (ops : Array Oper) (C : (Nat → Bool) → Bk → World → Prop) (Q : Bk → Act → Prop) : List Oper → Nat → (Bk → Act) → Prop
  | [], _, a => ∀ B, Q B (a B)
  | o :: rest, k, a => ∃ vf : Bk → Value, DepIn md ops k vf ∧ (∀ B, EffIn2 md P ops C o k vf (a B) B) ∧ wpEff2 md P ops C Q rest (k + 1) (fun B => (a B).put o.dst (vf B))
theorem effUpon2_const {K : World → Prop} {K' : Nat × Option Addr → World → Prop} {v : Value} {vf : Nat × Option Addr → Value} {b : Nat × Option Addr} (hv : vf b = v) (hK : ∀ w, K w → K' b w) {r : Result Next} (h : effUpon P K v r) : effUpon2 P K' vf r := by
  cases r with
  | ok n w' =>
    cases n <;> simp only [effUpon, effUpon2] at h ⊢
    case value u => exact ⟨b, by rw [hv]; exact h.1, hK _ h.2⟩
    case skip => exact ⟨b, by rw [hv]; exact h.1, hK _ h.2⟩
    case enter f args => exact h.mono fun e w'' ⟨he, hw⟩ => ⟨b, by rw [hv]; exact he, hK _ hw⟩
  | halt x w' => simp only [effUpon] at h
/-- A value that hangs on what is told of those that it waits for. -/
theorem wpEff2_dep {Q : Bk → Act → Prop} {o : Oper} {rest : List Oper} {k : Nat} {a : Bk → Act} (vf : Bk → Value) (hd : DepIn md ops k vf)
    (h1 : ∀ B L w, L k = false → (∀ j, waitsFor md o j = true → L j = true) → C L B w → (Region.wanted o (yielded ops (a B).tmps) = true ∧ effAt P o (a B) (vf B) (C (onL L k) B) w) ∨ (Region.wanted o (yielded ops (a B).tmps) = false ∧ vf B = undef ∧ C (onL L k) B w))
    (h2 : wpEff2 md P ops C Q rest (k + 1) (fun B => (a B).put o.dst (vf B))) : wpEff2 md P ops C Q (o :: rest) k a := by
  refine ⟨vf, hd, fun B L w hL hD hC => ?_, h2⟩
  rcases h1 B L w hL hD hC with ⟨hw, he⟩ | ⟨hw, hv, hc⟩
  · refine .inl ⟨hw, effUpon2_const (b := B k) (by show vf _ = _; rw [updB_self]) (fun w h => ?_) he⟩
    rw [updB_self]
    exact h
  · refine .inr ⟨hw, B k, by rw [updB_self]; exact hv, ?_⟩
    rw [updB_self]
    exact hc
theorem wpEff2_cons {Q : Bk → Act → Prop} {o : Oper} {rest : List Oper} {k : Nat} {a : Bk → Act} {v : Value}
    (h1 : ∀ B L w, L k = false → (∀ j, waitsFor md o j = true → L j = true) → C L B w → (Region.wanted o (yielded ops (a B).tmps) = true ∧ effAt P o (a B) v (C (onL L k) B) w) ∨ (Region.wanted o (yielded ops (a B).tmps) = false ∧ v = undef ∧ C (onL L k) B w))
    (h2 : wpEff2 md P ops C Q rest (k + 1) (fun B => (a B).put o.dst v)) : wpEff2 md P ops C Q (o :: rest) k a :=
  wpEff2_dep (fun _ => v) (fun _ _ _ => rfl) h1 h2
theorem wpEff2_free {Q : Bk → Act → Prop} {o : Oper} {rest : List Oper} {k : Nat} {a : Bk → Act} (vf : Nat × Option Addr → Value)
    (h1 : ∀ B L w, L k = false → (∀ j, waitsFor md o j = true → L j = true) → C L B w → (Region.wanted o (yielded ops (a B).tmps) = true ∧ effAt2 P o (a B) vf (fun b w' => C (onL L k) (updB B k b) w') w) ∨ (Region.wanted o (yielded ops (a B).tmps) = false ∧ ∃ b, vf b = undef ∧ C (onL L k) (updB B k b) w))
    (h2 : wpEff2 md P ops C Q rest (k + 1) (fun B => (a B).put o.dst (vf (B k)))) : wpEff2 md P ops C Q (o :: rest) k a := by
  refine ⟨fun B => vf (B k), fun B B' h => by show vf _ = vf _; rw [h k (by simp [reach])], fun B L w hL hD hC => ?_, h2⟩
  have := h1 B L w hL hD hC
  simpa only [updB_at] using this
theorem wpEff2_nil {Q : Bk → Act → Prop} {k : Nat} {a : Bk → Act} (h : ∀ B, Q B (a B)) : wpEff2 md P ops C Q [] k a := h
theorem frameL_congr (V V' : Nat → Value) (m : List Nat) (b : Act) (h : ∀ i ∈ m, V i = V' i) : frameL ops V m b = frameL ops V' m b := by
  induction m generalizing b with
  | nil => rfl
  | cons i m ihm =>
    show frameL ops V m (b.put _ _) = frameL ops V' m (b.put _ _)
    rw [h i (by simp)]
    exact ihm _ fun j hj => h j (by simp [hj])
theorem wpEff2_values {Q : Bk → Act → Prop} (l : List Oper) (k : Nat) (a : Bk → Act) (hl : ∀ j, l[j]? = ops[k + j]?) (h : wpEff2 md P ops C Q l k a) :
    ∃ vf : Nat → Bk → Value, (∀ j, DepIn md ops j (vf j)) ∧ (∀ j o, l[j]? = some o → ∀ B, EffIn2 md P ops C o (k + j) (vf (k + j)) (frameL ops (fun j => vf j B) (List.range' k j) (a B)) B) ∧ ∀ B, Q B (frameL ops (fun j => vf j B) (List.range' k l.length) (a B)) := by
  induction l generalizing k a with
  | nil => exact ⟨fun _ _ => undef, fun _ _ _ _ => rfl, fun j o hj => (by simp at hj), fun B => h B⟩
  | cons o l ih =>
    obtain ⟨v, hdp, he, hr⟩ := h
    obtain ⟨V, h0, h1, h2⟩ := ih (k + 1) _ (fun j => by have := hl (j + 1); simpa [Nat.add_assoc, Nat.add_comm 1 j] using this) hr
    have hd : dstOf ops k = o.dst := by
      have := hl 0
      simp at this
      simp [dstOf, ← this]
    have hF : ∀ B j, frameL ops (fun i => (if i = k then v else V i) B) (List.range' k (j + 1)) (a B) = frameL ops (fun i => V i B) (List.range' (k + 1) j) ((a B).put o.dst (v B)) := fun B j => by
      rw [List.range'_succ]
      show frameL ops _ (List.range' (k + 1) j) ((a B).put (dstOf ops k) ((if k = k then v else V k) B)) = _
      rw [if_pos rfl, hd]
      refine frameL_congr _ _ _ _ fun i hi => ?_
      have := (List.mem_range'_1.1 hi).1
      show (if i = k then v else V i) B = V i B
      rw [if_neg (by omega)]
    refine ⟨fun i => if i = k then v else V i, fun j => ?_, fun j o' hj B => ?_, fun B => ?_⟩
    · show DepIn md ops j (if j = k then v else V j)
      by_cases hjk : j = k
      · rw [if_pos hjk, hjk]; exact hdp
      · rw [if_neg hjk]; exact h0 j
    · cases j with
      | zero =>
        simp at hj
        subst hj
        simpa [frameL] using he B
      | succ j =>
        have hj' : l[j]? = some o' := by simpa using hj
        have := h1 j o' hj' B
        rw [hF B j]
        have e : k + (j + 1) = k + 1 + j := by omega
        simp only [e]
        rw [if_neg (by omega)]
        exact this
    · rw [List.length_cons, hF]
      exact h2 B
theorem reach_listed {listed : Array Bool} (hdn : ∀ j o, ops[j]? = some o → Lof listed j = true → ∀ e ∈ o.after, Region.binds md e = true → Lof listed e.on = true) (f k j : Nat) (hk : Lof listed k = true) (h : reach md ops f k j = true) : Lof listed j = true := by
  induction f generalizing k with
  | zero =>
    unfold reach at h
    rw [beq_iff_eq] at h
    rw [← h]
    exact hk
  | succ f ih =>
    unfold reach at h
    rw [Bool.or_eq_true, beq_iff_eq] at h
    rcases h with h | h
    · rw [← h]
      exact hk
    · cases ho : ops[k]? with
      | none => rw [ho] at h; cases h
      | some o =>
        rw [ho] at h
        simp only at h
        rw [← Array.any_toList, List.any_eq_true] at h
        obtain ⟨e, he, h3⟩ := h
        rw [Bool.and_eq_true] at h3
        exact ih e.on (hdn k o ho hk e (by simpa using he) h3.1) h3.2
theorem EffInv.congrV {V V' : Nat → Value} {a0 : Act} {fuel : Nat} {listed : Array Bool} {a : Act} {w : World} (h : EffInv ops md (fun _ _ => True) V a0 fuel listed a w) (hV : ∀ j, Lof listed j = true → V j = V' j) : EffInv ops md (fun _ _ => True) V' a0 fuel listed a w :=
  ⟨h.size, h.down, by rw [h.frame]; exact frameL_congr _ _ _ _ fun i hi => hV i (List.mem_filter.1 hi).2, trivial, h.cnt⟩
/-- Whatever order is picked. -/
theorem wpAny_eff2 {vf : Nat → Bk → Value} {a0 : Act} {Q : Exit → Act → World → Prop} (hB : effB md ops = true) (hd : ∀ j, DepIn md ops j (vf j)) (hV : ∀ j o, ops[j]? = some o → ∀ B, EffIn2 md P ops C o j (vf j) (frameL ops (fun j => vf j B) (List.range' 0 j) a0) B)
    (hQ : ∀ B w, C (fun j => decide (j < ops.size)) B w → Q .normal (frameL ops (fun j => vf j B) (List.range' 0 ops.size) a0) w) (fuel : Nat) (listed : Array Bool) (a : Act) (w : World) (B : Bk) (h : EffInv ops md (fun _ _ => True) (fun j => vf j B) a0 fuel listed a w) (hc : C (Lof listed) B w) : wpAny P md ops Q fuel listed a w := by
  induction fuel generalizing listed a w B with
  | zero =>
    have hnil := List.eq_nil_of_length_eq_zero h.cnt.symm
    have hal : ∀ j, j < ops.size → Lof listed j = true := fun j hj => by
      have := List.filter_eq_nil_iff.1 hnil j (List.mem_range'_1.2 ⟨by omega, by omega⟩)
      simpa using this
    have hLe : Lof listed = fun j => decide (j < ops.size) := by
      funext j
      by_cases hj : j < ops.size
      · rw [hal j hj, decide_eq_true hj]
      · rw [decide_eq_false hj]
        cases hx : Lof listed j with
        | false => rfl
        | true => exact absurd (h.size ▸ Lof_lt hx) hj
    refine ⟨?_, ?_⟩
    · refine List.eq_nil_iff_forall_not_mem.2 fun i hi => ?_
      obtain ⟨h0, _⟩ := mem_ready.1 hi
      obtain ⟨h1, h2⟩ := getD_tf h0
      rw [hal i (h.size ▸ h1)] at h2
      cases h2
    · have hf := h.frame
      rw [List.filter_eq_self.2 (fun j hj => hal j (by have := (List.mem_range'_1.1 hj).2; omega))] at hf
      rw [hf]
      exact hQ B w (hLe ▸ hc)
  | succ fuel ih =>
    refine ⟨fun hnil => ?_, fun i hi => ?_⟩
    · exfalso
      have hal : ∀ k, k ≤ ops.size → ∀ j, j < k → Lof listed j = true := by
        intro k
        induction k with
        | zero => intro _ j hj; omega
        | succ k ihk =>
          intro hk j hj
          by_cases hjk : j < k
          · exact ihk (by omega) j hjk
          · obtain rfl : j = k := by omega
            cases hx : Lof listed j with
            | true => rfl
            | false =>
              exfalso
              obtain ⟨o, ho⟩ : ∃ o, ops[j]? = some o := ⟨_, Array.getElem?_eq_getElem (by omega)⟩
              have : j ∈ Region.ready md ops listed := mem_ready.2 ⟨getD_ft (by rw [h.size]; omega) hx, o, ho, fun e he hb => ihk (by omega) e.on (((effB_spec hB).2 j o ho).1 e he hb)⟩
              rw [hnil] at this
              cases this
      have := h.cnt
      rw [List.filter_eq_nil_iff.2 (fun j hj => by rw [hal ops.size (Nat.le_refl _) j (by have := (List.mem_range'_1.1 hj).2; omega)]; simp)] at this
      simp at this
    · obtain ⟨h0, o, ho, hal⟩ := mem_ready.1 hi
      obtain ⟨hex, hwa⟩ := h.looks hB ho hi
      have hiL := (getD_tf h0).2
      have stepE : ∀ b w', C (onL (Lof listed) i) (updB B i b) w' → wpAny P md ops Q fuel (listed.setIfInBounds i true) (a.put o.dst (vf i (updB B i b))) w' := fun b w' hc' => by
        have h' := h.congrV (V' := fun j => vf j (updB B i b)) (fun j hj => hd j _ _ fun j' hj' => by
          have := reach_listed h.down fuelR j j' hj hj'
          unfold updB
          rw [if_neg (fun e => by rw [e, hiL] at this; cases this)])
        have h2 := h'.step hB ho hi (w' := w') trivial
        exact ih _ _ _ (updB B i b) h2 (by rw [Lof_set (by rw [h.size]; exact (Array.getElem?_eq_some_iff.1 ho).1)]; exact hc')
      have hE := hV i o ho B (Lof listed) w (getD_tf h0).2 (fun j hj => by
        unfold waitsFor at hj
        rw [← Array.any_toList, List.any_eq_true] at hj
        obtain ⟨e, he, h3⟩ := hj
        simp only [Bool.and_eq_true, beq_iff_eq] at h3
        rw [← h3.2]
        exact hal e (by simpa using he) h3.1) hc
      unfold wpOp
      simp only [ho]
      rw [hwa]
      rcases hE with ⟨hw, hE⟩ | ⟨hw, b, hv, hE⟩
      · simp only [hw, if_true]
        refine .inl ?_
        unfold effAt2 at hE
        unfold Oper.wp
        rw [hex]
        generalize (execOp (frameL ops (fun j => vf j B) (List.range' 0 i) a0).eval o).run P w = r at hE ⊢
        cases r with
        | ok n w' =>
          cases n <;> simp only [effUpon2] at hE <;> simp only [Oper.upon]
          case value u =>
            obtain ⟨b, e1, e2⟩ := hE
            rw [e1]
            exact stepE b _ e2
          case skip =>
            obtain ⟨b, e1, e2⟩ := hE
            rw [← e1]
            exact stepE b _ e2
          case enter f args =>
            exact hE.mono fun e w'' ⟨b, he, hw''⟩ => by subst he; exact stepE b _ hw''
        | halt x w' => simp only [effUpon2] at hE
      · simp only [hw, Bool.false_eq_true, if_false]
        rw [← hv]
        exact stepE b _ hE
/-- A drawn region, walked once. -/
theorem wp_region_eff2 {id : Nat} {Q : Exit → Act → World → Prop} {a : Act} {w : World} {l : List Oper} (C : (Nat → Bool) → Bk → World → Prop) (B0 : Bk) (hm : P.follows .mixedOrders = true) (hB : effB .any l.toArray = true) (hC : C (fun _ => false) B0 w.drew)
    (h : wpEff2 .any P l.toArray C (fun B a' => ∀ w', C (fun j => decide (j < l.length)) B w' → Q .normal a' w') l 0 (fun _ => a)) : (Code.region id l.toArray true).wp P Q a w := by
  obtain ⟨V, h0, h1, h2⟩ := wpEff2_values l 0 (fun _ => a) (fun j => by simp) h
  refine wp_region_any hm ?_
  have hL0 : Lof (Array.replicate l.toArray.size false) = fun _ => false := by
    funext j
    unfold Lof
    by_cases hj : j < l.length
    · simp [hj]
    · simp [Nat.le_of_not_lt hj]
  refine wpAny_eff2 (vf := V) (a0 := a) hB h0 (fun j o hj B => ?_) (fun B w' hw' => ?_) _ _ _ w.drew B0 ⟨by simp, fun j o _ hj => (by rw [hL0] at hj; cases hj), ?_, trivial, ?_⟩ (by rw [hL0]; exact hC)
  · have := h1 j o (by simpa using hj) B
    simpa using this
  · have := h2 B w' (by simpa using hw')
    simpa using this
  · rw [hL0, List.filter_eq_nil_iff.2 (fun j _ => by simp)]; rfl
  · rw [hL0, List.filter_eq_self.2 (fun j _ => by simp)]; simp
end
end Go.Proofs.Ytippdjaakcgeoaa
