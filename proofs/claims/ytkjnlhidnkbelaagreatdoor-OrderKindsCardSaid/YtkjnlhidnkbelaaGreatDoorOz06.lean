/- Lemmas of the walks: Gr10. (Laid together by shake.py.) -/
import Derived.Test.YtkjnlhidnkbelaaGreatDoorOz02
import Derived.Test.YtkjnlhidnkbelaaGreatDoorOz04
import Derived.Test.YtkjnlhidnkbelaaGreatDoorOz05
set_option linter.unusedVariables false
set_option linter.unusedSimpArgs false
/- A drawn region, walked once, where some operations make memory: where it lies is told as it comes. -/
namespace Go.Proofs.YtkjnlhidnkbelaaGreatDoor
open Go Go.RowKit

/-- What is told of an operation as it comes: where its memory lies, how much there is. -/
abbrev Bk := Nat → Nat × Option Addr
section
variable {P : Program} {ops : Array Oper} {md : Region.Mode} {C : (Nat → Bool) → Bk → World → Prop}
def updB (B : Bk) (k : Nat) (b : Nat × Option Addr) : Bk := fun j => if j = k then b else B j
theorem updB_self (B : Bk) (k : Nat) : updB B k (B k) = B := by
  funext j
  unfold updB
  by_cases h : j = k
  · rw [if_pos h, h]
  · rw [if_neg h]
theorem updB_at (B : Bk) (k : Nat) (b : Nat × Option Addr) : updB B k b k = b := if_pos rfl
/-- What an operation waits for, at some removes. -/
def reach (md : Region.Mode) (ops : Array Oper) : Nat → Nat → Nat → Bool
  | 0, k, j => k == j
  | f + 1, k, j => k == j || (match ops[k]? with
    | none => false
    | some o => o.after.any fun e => Region.binds md e && reach md ops f e.on j)
abbrev fuelR : Nat := 3
def effUpon2 (P : Program) (K : Nat × Option Addr → World → Prop) (vf : Nat × Option Addr → Value) : Result Next → Prop
  | .ok (.value u) w' => ∃ b, u = vf b ∧ K b w'
  | .ok .skip w' => ∃ b, vf b = undef ∧ K b w'
  | .ok (.enter f args) w' => Calls P f args w' (fun e w'' => ∃ b, e = .returned (vf b) ∧ K b w'')
  | _ => False
def effAt2 (P : Program) (o : Oper) (a : Act) (vf : Nat × Option Addr → Value) (K : Nat × Option Addr → World → Prop) (w : World) : Prop := effUpon2 P K vf ((execOp a.eval o).run P w)
def EffIn2 (md : Region.Mode) (P : Program) (ops : Array Oper) (C : (Nat → Bool) → Bk → World → Prop) (o : Oper) (k : Nat) (vf : Bk → Value) (a : Act) (B : Bk) : Prop :=
  ∀ L w, L k = false → (∀ j, waitsFor md o j = true → L j = true) → C L B w → (Region.wanted o (yielded ops a.tmps) = true ∧ effAt2 P o a (fun b => vf (updB B k b)) (fun b w' => C (onL L k) (updB B k b) w') w) ∨ (Region.wanted o (yielded ops a.tmps) = false ∧ ∃ b, vf (updB B k b) = undef ∧ C (onL L k) (updB B k b) w)
def DepIn (md : Region.Mode) (ops : Array Oper) (k : Nat) (vf : Bk → Value) : Prop := ∀ B B' : Bk, (∀ j, reach md ops fuelR k j = true → B j = B' j) → vf B = vf B'
/-- The walk. -/
def wpEff2 (md : Region.Mode) (P : Program) (ops : Array Oper) (C : (Nat → Bool) → Bk → World → Prop) (Q : Bk → Act → Prop) : List Oper → Nat → (Bk → Act) → Prop
  | [], _, a => ∀ B, Q B (a B)
  | o :: rest, k, a => ∃ vf : Bk → Value, DepIn md ops k vf ∧ (∀ B, EffIn2 md P ops C o k vf (a B) B) ∧ wpEff2 md P ops C Q rest (k + 1) (fun B => (a B).put o.dst (vf B))
theorem effUpon2_const {K : World → Prop} {K' : Nat × Option Addr → World → Prop} {v : Value} {vf : Nat × Option Addr → Value} {b : Nat × Option Addr} (hv : vf b = v) (hK : ∀ w, K w → K' b w) {r : Result Next} (h : effUpon P K v r) : effUpon2 P K' vf r := by
  cases r with
  | ok n w' =>
    cases n <;> simp only [effUpon, effUpon2] at h ⊢
    case value u => exact ⟨b, by rw [hv]; exact h.1, hK _ h.2⟩
    case skip => exact ⟨b, by rw [hv]; exact h.1, hK _ h.2⟩
    case enter f args => exact h.mono fun e w'' ⟨he, hw⟩ => ⟨b, by rw [hv]; exact he, hK _ hw⟩
  | halt x w' => simp only [effUpon] at h
/-- A value that hangs on what is told of those that it waits for. -/
theorem wpEff2_dep {Q : Bk → Act → Prop} {o : Oper} {rest : List Oper} {k : Nat} {a : Bk → Act} (vf : Bk → Value) (hd : DepIn md ops k vf)
    (h1 : ∀ B L w, L k = false → (∀ j, waitsFor md o j = true → L j = true) → C L B w → (Region.wanted o (yielded ops (a B).tmps) = true ∧ effAt P o (a B) (vf B) (C (onL L k) B) w) ∨ (Region.wanted o (yielded ops (a B).tmps) = false ∧ vf B = undef ∧ C (onL L k) B w))
    (h2 : wpEff2 md P ops C Q rest (k + 1) (fun B => (a B).put o.dst (vf B))) : wpEff2 md P ops C Q (o :: rest) k a := by
  refine ⟨vf, hd, fun B L w hL hD hC => ?_, h2⟩
  rcases h1 B L w hL hD hC with ⟨hw, he⟩ | ⟨hw, hv, hc⟩
  · refine .inl ⟨hw, effUpon2_const (b := B k) (by show vf _ = _; rw [updB_self]) (fun w h => ?_) he⟩
    rw [updB_self]
    exact h
  · refine .inr ⟨hw, B k, by rw [updB_self]; exact hv, ?_⟩
    rw [updB_self]
    exact hc
theorem wpEff2_cons {Q : Bk → Act → Prop} {o : Oper} {rest : List Oper} {k : Nat} {a : Bk → Act} {v : Value}
    (h1 : ∀ B L w, L k = false → (∀ j, waitsFor md o j = true → L j = true) → C L B w → (Region.wanted o (yielded ops (a B).tmps) = true ∧ effAt P o (a B) v (C (onL L k) B) w) ∨ (Region.wanted o (yielded ops (a B).tmps) = false ∧ v = undef ∧ C (onL L k) B w))
    (h2 : wpEff2 md P ops C Q rest (k + 1) (fun B => (a B).put o.dst v)) : wpEff2 md P ops C Q (o :: rest) k a :=
  wpEff2_dep (fun _ => v) (fun _ _ _ => rfl) h1 h2
theorem wpEff2_free {Q : Bk → Act → Prop} {o : Oper} {rest : List Oper} {k : Nat} {a : Bk → Act} (vf : Nat × Option Addr → Value)
    (h1 : ∀ B L w, L k = false → (∀ j, waitsFor md o j = true → L j = true) → C L B w → (Region.wanted o (yielded ops (a B).tmps) = true ∧ effAt2 P o (a B) vf (fun b w' => C (onL L k) (updB B k b) w') w) ∨ (Region.wanted o (yielded ops (a B).tmps) = false ∧ ∃ b, vf b = undef ∧ C (onL L k) (updB B k b) w))
    (h2 : wpEff2 md P ops C Q rest (k + 1) (fun B => (a B).put o.dst (vf (B k)))) : wpEff2 md P ops C Q (o :: rest) k a := by
  refine ⟨fun B => vf (B k), fun B B' h => by show vf _ = vf _; rw [h k (by simp [reach])], fun B L w hL hD hC => ?_, h2⟩
  have := h1 B L w hL hD hC
  simpa only [updB_at] using this
theorem wpEff2_nil {Q : Bk → Act → Prop} {k : Nat} {a : Bk → Act} (h : ∀ B, Q B (a B)) : wpEff2 md P ops C Q [] k a := h
theorem frameL_congr (V V' : Nat → Value) (m : List Nat) (b : Act) (h : ∀ i ∈ m, V i = V' i) : frameL ops V m b = frameL ops V' m b := by
  induction m generalizing b with
  | nil => rfl
  | cons i m ihm =>
    show frameL ops V m (b.put _ _) = frameL ops V' m (b.put _ _)
    rw [h i (by simp)]
    exact ihm _ fun j hj => h j (by simp [hj])
theorem wpEff2_values {Q : Bk → Act → Prop} (l : List Oper) (k : Nat) (a : Bk → Act) (hl : ∀ j, l[j]? = ops[k + j]?) (h : wpEff2 md P ops C Q l k a) :
    ∃ vf : Nat → Bk → Value, (∀ j, DepIn md ops j (vf j)) ∧ (∀ j o, l[j]? = some o → ∀ B, EffIn2 md P ops C o (k + j) (vf (k + j)) (frameL ops (fun j => vf j B) (List.range' k j) (a B)) B) ∧ ∀ B, Q B (frameL ops (fun j => vf j B) (List.range' k l.length) (a B)) := by
  induction l generalizing k a with
  | nil => exact ⟨fun _ _ => undef, fun _ _ _ _ => rfl, fun j o hj => (by simp at hj), fun B => h B⟩
  | cons o l ih =>
    obtain ⟨v, hdp, he, hr⟩ := h
    obtain ⟨V, h0, h1, h2⟩ := ih (k + 1) _ (fun j => by have := hl (j + 1); simpa [Nat.add_assoc, Nat.add_comm 1 j] using this) hr
    have hd : dstOf ops k = o.dst := by
      have := hl 0
      simp at this
      simp [dstOf, ← this]
    have hF : ∀ B j, frameL ops (fun i => (if i = k then v else V i) B) (List.range' k (j + 1)) (a B) = frameL ops (fun i => V i B) (List.range' (k + 1) j) ((a B).put o.dst (v B)) := fun B j => by
      rw [List.range'_succ]
      show frameL ops _ (List.range' (k + 1) j) ((a B).put (dstOf ops k) ((if k = k then v else V k) B)) = _
      rw [if_pos rfl, hd]
      refine frameL_congr _ _ _ _ fun i hi => ?_
      have := (List.mem_range'_1.1 hi).1
      show (if i = k then v else V i) B = V i B
      rw [if_neg (by omega)]
    refine ⟨fun i => if i = k then v else V i, fun j => ?_, fun j o' hj B => ?_, fun B => ?_⟩
    · show DepIn md ops j (if j = k then v else V j)
      by_cases hjk : j = k
      · rw [if_pos hjk, hjk]; exact hdp
      · rw [if_neg hjk]; exact h0 j
    · cases j with
      | zero =>
        simp at hj
        subst hj
        simpa [frameL] using he B
      | succ j =>
        have hj' : l[j]? = some o' := by simpa using hj
        have := h1 j o' hj' B
        rw [hF B j]
        have e : k + (j + 1) = k + 1 + j := by omega
        simp only [e]
        rw [if_neg (by omega)]
        exact this
    · rw [List.length_cons, hF]
      exact h2 B
theorem reach_listed {listed : Array Bool} (hdn : ∀ j o, ops[j]? = some o → Lof listed j = true → ∀ e ∈ o.after, Region.binds md e = true → Lof listed e.on = true) (f k j : Nat) (hk : Lof listed k = true) (h : reach md ops f k j = true) : Lof listed j = true := by
  induction f generalizing k with
  | zero =>
    unfold reach at h
    rw [beq_iff_eq] at h
    rw [← h]
    exact hk
  | succ f ih =>
    unfold reach at h
    rw [Bool.or_eq_true, beq_iff_eq] at h
    rcases h with h | h
    · rw [← h]
      exact hk
    · cases ho : ops[k]? with
      | none => rw [ho] at h; cases h
      | some o =>
        rw [ho] at h
        simp only at h
        rw [← Array.any_toList, List.any_eq_true] at h
        obtain ⟨e, he, h3⟩ := h
        rw [Bool.and_eq_true] at h3
        exact ih e.on (hdn k o ho hk e (by simpa using he) h3.1) h3.2
theorem EffInv.congrV {V V' : Nat → Value} {a0 : Act} {fuel : Nat} {listed : Array Bool} {a : Act} {w : World} (h : EffInv ops md (fun _ _ => True) V a0 fuel listed a w) (hV : ∀ j, Lof listed j = true → V j = V' j) : EffInv ops md (fun _ _ => True) V' a0 fuel listed a w :=
  ⟨h.size, h.down, by rw [h.frame]; exact frameL_congr _ _ _ _ fun i hi => hV i (List.mem_filter.1 hi).2, trivial, h.cnt⟩
/-- Whatever order is picked. -/
theorem wpAny_eff2 {vf : Nat → Bk → Value} {a0 : Act} {Q : Exit → Act → World → Prop} (hB : effB md ops = true) (hd : ∀ j, DepIn md ops j (vf j)) (hV : ∀ j o, ops[j]? = some o → ∀ B, EffIn2 md P ops C o j (vf j) (frameL ops (fun j => vf j B) (List.range' 0 j) a0) B)
    (hQ : ∀ B w, C (fun j => decide (j < ops.size)) B w → Q .normal (frameL ops (fun j => vf j B) (List.range' 0 ops.size) a0) w) (fuel : Nat) (listed : Array Bool) (a : Act) (w : World) (B : Bk) (h : EffInv ops md (fun _ _ => True) (fun j => vf j B) a0 fuel listed a w) (hc : C (Lof listed) B w) : wpAny P md ops Q fuel listed a w := by
  induction fuel generalizing listed a w B with
  | zero =>
    have hnil := List.eq_nil_of_length_eq_zero h.cnt.symm
    have hal : ∀ j, j < ops.size → Lof listed j = true := fun j hj => by
      have := List.filter_eq_nil_iff.1 hnil j (List.mem_range'_1.2 ⟨by omega, by omega⟩)
      simpa using this
    have hLe : Lof listed = fun j => decide (j < ops.size) := by
      funext j
      by_cases hj : j < ops.size
      · rw [hal j hj, decide_eq_true hj]
      · rw [decide_eq_false hj]
        cases hx : Lof listed j with
        | false => rfl
        | true => exact absurd (h.size ▸ Lof_lt hx) hj
    refine ⟨?_, ?_⟩
    · refine List.eq_nil_iff_forall_not_mem.2 fun i hi => ?_
      obtain ⟨h0, _⟩ := mem_ready.1 hi
      obtain ⟨h1, h2⟩ := getD_tf h0
      rw [hal i (h.size ▸ h1)] at h2
      cases h2
    · have hf := h.frame
      rw [List.filter_eq_self.2 (fun j hj => hal j (by have := (List.mem_range'_1.1 hj).2; omega))] at hf
      rw [hf]
      exact hQ B w (hLe ▸ hc)
  | succ fuel ih =>
    refine ⟨fun hnil => ?_, fun i hi => ?_⟩
    · exfalso
      have hal : ∀ k, k ≤ ops.size → ∀ j, j < k → Lof listed j = true := by
        intro k
        induction k with
        | zero => intro _ j hj; omega
        | succ k ihk =>
          intro hk j hj
          by_cases hjk : j < k
          · exact ihk (by omega) j hjk
          · obtain rfl : j = k := by omega
            cases hx : Lof listed j with
            | true => rfl
            | false =>
              exfalso
              obtain ⟨o, ho⟩ : ∃ o, ops[j]? = some o := ⟨_, Array.getElem?_eq_getElem (by omega)⟩
              have : j ∈ Region.ready md ops listed := mem_ready.2 ⟨getD_ft (by rw [h.size]; omega) hx, o, ho, fun e he hb => ihk (by omega) e.on (((effB_spec hB).2 j o ho).1 e he hb)⟩
              rw [hnil] at this
              cases this
      have := h.cnt
      rw [List.filter_eq_nil_iff.2 (fun j hj => by rw [hal ops.size (Nat.le_refl _) j (by have := (List.mem_range'_1.1 hj).2; omega)]; simp)] at this
      simp at this
    · obtain ⟨h0, o, ho, hal⟩ := mem_ready.1 hi
      obtain ⟨hex, hwa⟩ := h.looks hB ho hi
      have hiL := (getD_tf h0).2
      have stepE : ∀ b w', C (onL (Lof listed) i) (updB B i b) w' → wpAny P md ops Q fuel (listed.setIfInBounds i true) (a.put o.dst (vf i (updB B i b))) w' := fun b w' hc' => by
        have h' := h.congrV (V' := fun j => vf j (updB B i b)) (fun j hj => hd j _ _ fun j' hj' => by
          have := reach_listed h.down fuelR j j' hj hj'
          unfold updB
          rw [if_neg (fun e => by rw [e, hiL] at this; cases this)])
        have h2 := h'.step hB ho hi (w' := w') trivial
        exact ih _ _ _ (updB B i b) h2 (by rw [Lof_set (by rw [h.size]; exact (Array.getElem?_eq_some_iff.1 ho).1)]; exact hc')
      have hE := hV i o ho B (Lof listed) w (getD_tf h0).2 (fun j hj => by
        unfold waitsFor at hj
        rw [← Array.any_toList, List.any_eq_true] at hj
        obtain ⟨e, he, h3⟩ := hj
        simp only [Bool.and_eq_true, beq_iff_eq] at h3
        rw [← h3.2]
        exact hal e (by simpa using he) h3.1) hc
      unfold wpOp
      simp only [ho]
      rw [hwa]
      rcases hE with ⟨hw, hE⟩ | ⟨hw, b, hv, hE⟩
      · simp only [hw, if_true]
        refine .inl ?_
        unfold effAt2 at hE
        unfold Oper.wp
        rw [hex]
        generalize (execOp (frameL ops (fun j => vf j B) (List.range' 0 i) a0).eval o).run P w = r at hE ⊢
        cases r with
        | ok n w' =>
          cases n <;> simp only [effUpon2] at hE <;> simp only [Oper.upon]
          case value u =>
            obtain ⟨b, e1, e2⟩ := hE
            rw [e1]
            exact stepE b _ e2
          case skip =>
            obtain ⟨b, e1, e2⟩ := hE
            rw [← e1]
            exact stepE b _ e2
          case enter f args =>
            exact hE.mono fun e w'' ⟨b, he, hw''⟩ => by subst he; exact stepE b _ hw''
        | halt x w' => simp only [effUpon2] at hE
      · simp only [hw, Bool.false_eq_true, if_false]
        rw [← hv]
        exact stepE b _ hE
/-- A drawn region, walked once. -/
theorem wp_region_eff2 {id : Nat} {Q : Exit → Act → World → Prop} {a : Act} {w : World} {l : List Oper} (C : (Nat → Bool) → Bk → World → Prop) (B0 : Bk) (hm : P.follows .mixedOrders = true) (hB : effB .any l.toArray = true) (hC : C (fun _ => false) B0 w.drew)
    (h : wpEff2 .any P l.toArray C (fun B a' => ∀ w', C (fun j => decide (j < l.length)) B w' → Q .normal a' w') l 0 (fun _ => a)) : (Code.region id l.toArray true).wp P Q a w := by
  obtain ⟨V, h0, h1, h2⟩ := wpEff2_values l 0 (fun _ => a) (fun j => by simp) h
  refine wp_region_any hm ?_
  have hL0 : Lof (Array.replicate l.toArray.size false) = fun _ => false := by
    funext j
    unfold Lof
    by_cases hj : j < l.length
    · simp [hj]
    · simp [Nat.le_of_not_lt hj]
  refine wpAny_eff2 (vf := V) (a0 := a) hB h0 (fun j o hj B => ?_) (fun B w' hw' => ?_) _ _ _ w.drew B0 ⟨by simp, fun j o _ hj => (by rw [hL0] at hj; cases hj), ?_, trivial, ?_⟩ (by rw [hL0]; exact hC)
  · have := h1 j o (by simpa using hj) B
    simpa using this
  · have := h2 B w' (by simpa using hw')
    simpa using this
  · rw [hL0, List.filter_eq_nil_iff.2 (fun j _ => by simp)]; rfl
  · rw [hL0, List.filter_eq_self.2 (fun j _ => by simp)]; simp
end
end Go.Proofs.YtkjnlhidnkbelaaGreatDoor
/- Writing by a writer, in a drawn region: lists are made, the writer is called. -/
namespace Go.Proofs.YtkjnlhidnkbelaaGreatDoor
open Go Go.RowKit

abbrev W8 (bs : List UInt8) : Wr := ⟨true, bs⟩
theorem wk_apart {w : World} {F : Nat → Prop} {b : Nat} {t : TypeId} {cs : Array Value} (hb : Blk w b t cs) (hF : ¬ F b) : Apart w (· = b) F := fun k hk => by subst hk; exact ⟨hb.lt, hF⟩
theorem wk_nums (w : World) (F : Nat → Prop) (g : Nat) (bs : List UInt8) (h : IsWr w F g (W8 bs)) (b n : Nat) (ns : List Int) (cs : Array Value) (hb : Blk w b 3 cs) (hF : ¬ F b) (hcs : cs.toList = ns.map I64) (hn : ns.length = n) (hn2 : n ≤ 1000) (hr : ∀ x ∈ ns, Right x) (hsz : bs.length ≤ 700000000000) :
    Calls Tryz.prog 38 #[.pointer (some ⟨g, 0, none⟩), .slice (some ⟨b, 0, none⟩) n n] w fun e w' => e = .returned (.pointer (some ⟨g, 0, none⟩)) ∧ WrTo w F g (W8 (bs ++ encAll ns)) w' := by
  subst hn
  have hs := hb.sl 0 cs.size
  rw [List.drop_zero, List.take_of_length_le (by simp), hcs] at hs
  refine (numbers_any w F (· = b) g ⟨true, bs⟩ h (some ⟨b, 0, none⟩) ns.length ns hs (wk_apart hb hF) (by omega) (by show bs.length ≤ _; omega)).mono ?_
  rintro e w' ⟨rfl, h2⟩
  rw [wrNums_right _ _ hr] at h2
  exact ⟨rfl, h2⟩
theorem wk_flags (w : World) (F : Nat → Prop) (g : Nat) (bs : List UInt8) (h : IsWr w F g (W8 bs)) (b n : Nat) (ns : List Bool) (cs : Array Value) (hb : Blk w b 4 cs) (hF : ¬ F b) (hcs : cs.toList = ns.map Value.bool) (hn : ns.length = n) (hn2 : n ≤ 1000) (hsz : bs.length ≤ 700000000000) :
    Calls Tryz.prog 40 #[.pointer (some ⟨g, 0, none⟩), .slice (some ⟨b, 0, none⟩) n n] w fun e w' => e = .returned (.pointer (some ⟨g, 0, none⟩)) ∧ WrTo w F g (W8 (bs ++ (ns.map flagB).flatten)) w' := by
  subst hn
  have hs := hb.sl 0 cs.size
  rw [List.drop_zero, List.take_of_length_le (by simp), hcs] at hs
  refine (flags_any w F (· = b) g ⟨true, bs⟩ h (some ⟨b, 0, none⟩) ns.length ns hs (wk_apart hb hF) (by omega) (by show bs.length ≤ _; omega)).mono ?_
  rintro e w' ⟨rfl, h2⟩
  have e1 : ∀ (ns : List Bool) (bs : List UInt8), wrFlags ns ⟨true, bs⟩ = ⟨true, bs ++ (ns.map flagB).flatten⟩ := by
    intro ns
    induction ns with
    | nil => intro bs; simp [wrFlags]
    | cons m ns ih =>
      intro bs
      have e2 : wrFlags (m :: ns) ⟨true, bs⟩ = wrFlags ns ⟨true, bs ++ flagB m⟩ := rfl
      rw [e2, ih]
      simp
  rw [e1] at h2
  exact ⟨rfl, h2⟩
theorem wk_texts (w : World) (F : Nat → Prop) (g : Nat) (bs : List UInt8) (h : IsWr w F g (W8 bs)) (b n : Nat) (ns : List (List UInt8)) (cs : Array Value) (hb : Blk w b 9 cs) (hF : ¬ F b) (hcs : cs.toList = ns.map StrV) (hn : ns.length = n) (hn2 : n ≤ 1000) (hs2 : ∀ s ∈ ns, s.length ≤ 1000) (hsz : bs.length ≤ 700000000000) :
    Calls Tryz.prog 42 #[.pointer (some ⟨g, 0, none⟩), .slice (some ⟨b, 0, none⟩) n n] w fun e w' => e = .returned (.pointer (some ⟨g, 0, none⟩)) ∧ WrTo w F g (W8 (bs ++ (ns.map rowB).flatten)) w' := by
  subst hn
  have hs := hb.sl 0 cs.size
  rw [List.drop_zero, List.take_of_length_le (by simp), hcs] at hs
  have hm : ns.map StrV = (ns.map (fun s => (⟨s.toArray⟩ : ByteArray))).map Value.string := by rw [List.map_map]; rfl
  rw [hm] at hs
  have hback : (ns.map (fun s => (⟨s.toArray⟩ : ByteArray))).map (fun b => b.data.toList) = ns := by rw [List.map_map]; exact List.map_id ns
  have hrl : ∀ (l : List (List UInt8)), (∀ s ∈ l, s.length ≤ 1000) → rowsLen l ≤ 1000 * l.length := by
    intro l
    induction l with
    | nil => intro _; simp [rowsLen]
    | cons a l ih =>
      intro hl
      have h1 := hl a (by simp)
      have h2 := ih (fun s hs => hl s (by simp [hs]))
      have e : rowsLen (a :: l) = a.length + rowsLen l := by simp [rowsLen]
      rw [e, List.length_cons]
      omega
  have hrl2 := hrl ns hs2
  have hlen : (ns.map (fun s => (⟨s.toArray⟩ : ByteArray))).length = ns.length := by simp
  have key := texts_any w F (· = b) g ⟨true, bs⟩ h (some ⟨b, 0, none⟩) ns.length (ns.map (fun s => (⟨s.toArray⟩ : ByteArray))) hs (wk_apart hb hF) (by rw [hback, hlen]; show bs.length + _ + _ ≤ _; omega)
  rw [hlen, hback] at key
  refine key.mono ?_
  rintro e w' ⟨rfl, h2⟩
  have e1 : ∀ (ns : List (List UInt8)) (bs : List UInt8), wrRows ns ⟨true, bs⟩ = ⟨true, bs ++ (ns.map rowB).flatten⟩ := by
    intro ns
    induction ns with
    | nil => intro bs; simp [wrRows]
    | cons m ns ih =>
      intro bs
      have e2 : wrRows (m :: ns) ⟨true, bs⟩ = wrRows ns ⟨true, bs ++ rowB m⟩ := by simp [wrRows, wrRow, rowB]
      rw [e2, ih]
      simp
  rw [e1] at h2
  exact ⟨rfl, h2⟩
/-- One row of bytes that lie anywhere apart. -/
theorem wk_row (w : World) (F F2 : Nat → Prop) (g : Nat) (bs : List UInt8) (h : IsWr w F g (W8 bs)) (b : Nat) (A : Option Addr) (c : Nat) (s : List UInt8) (hb : Blk w b 22 #[.slice A s.length c]) (hF : ¬ F b) (hs : Sl w F2 A (s.map B8)) (hF2 : Apart w F2 F) (hs2 : s.length ≤ 1000000) (hc : s.length ≤ c) (hcm : c ≤ maxLen) (hsz : bs.length ≤ 700000000000) :
    Calls Tryz.prog 43 #[.pointer (some ⟨g, 0, none⟩), .slice (some ⟨b, 0, none⟩) 1 1] w fun e w' => e = .returned (.pointer (some ⟨g, 0, none⟩)) ∧ WrTo w F g (W8 (bs ++ rowB s)) w' := by
  have hsl : Sl w (fun k => F2 k ∨ k = b) (some ⟨b, 0, none⟩) [.slice A s.length c] := (hb.sl 0 1).mono (fun k hk _ => .inr hk)
  have hrs : RowsV w (fun k => F2 k ∨ k = b) [.slice A s.length c] [s] := ⟨rfl, fun k hk => by
    have hk0 : k = 0 := by simpa using hk
    subst hk0
    exact ⟨_, rfl, ⟨A, c, rfl, hc, hcm, hs.mono (fun k hk _ => .inl hk)⟩⟩⟩
  have hap : Apart w (fun k => F2 k ∨ k = b) F := fun k hk => by
    rcases hk with hk | rfl
    · exact hF2 k hk
    · exact ⟨hb.lt, hF⟩
  refine (rows_any w F _ g ⟨true, bs⟩ h (some ⟨b, 0, none⟩) 1 [.slice A s.length c] [s] hsl hrs hap (by show bs.length + 9 * 1 + rowsLen [s] ≤ _; simp [rowsLen]; omega)).mono ?_
  rintro e w' ⟨rfl, h2⟩
  have e1 : wrRows [s] ⟨true, bs⟩ = ⟨true, bs ++ rowB s⟩ := by simp [wrRows, wrRow, rowB]
  rw [e1] at h2
  exact ⟨rfl, h2⟩
/-- A call of the writer: the list it takes is made at 'k', it comes at 'c', and puts 'bs'. -/
structure CallD where
  k : Nat
  c : Nat
  t : TypeId
  cs : Array Value
  bs : List UInt8
def noDup : List Nat → Bool
  | [] => true
  | a :: l => l.all (· != a) && noDup l
theorem noDup_ne {l : List Nat} (h : noDup l = true) : ∀ (i j a b : Nat), l[i]? = some a → l[j]? = some b → i ≠ j → a ≠ b := by
  induction l with
  | nil => intro i j a b h1; simp at h1
  | cons x l ih =>
    unfold noDup at h
    rw [Bool.and_eq_true, List.all_eq_true] at h
    intro i j a b h1 h2 hij
    cases i with
    | zero =>
      cases j with
      | zero => exact absurd rfl hij
      | succ j =>
        simp at h1 h2
        subst h1
        have := h.1 b (List.mem_of_getElem? h2)
        rw [bne_iff_ne] at this
        exact Ne.symm this
    | succ i =>
      cases j with
      | zero =>
        simp at h1 h2
        subst h2
        have := h.1 a (List.mem_of_getElem? h1)
        rwa [bne_iff_ne] at this
      | succ j => exact ih h.2 i j a b (by simpa using h1) (by simpa using h2) (by omega)
def callsB (cl : List CallD) : List UInt8 := (cl.map (·.bs)).flatten
def WrC (W : World) (F : Nat → Prop) (g : Nat) (bs0 : List UInt8) (cl : List CallD) (L : Nat → Bool) (B : Bk) (w : World) : Prop :=
  ∃ n F', n ≤ cl.length ∧ (∀ i d, cl[i]? = some d → L d.c = decide (i < n)) ∧ IsWr w F' g (W8 (bs0 ++ callsB (cl.take n))) ∧ Fr F W w ∧ (∀ k, F' k → F k ∨ W.heap.size ≤ k) ∧ ∀ d ∈ cl, L d.k = true → Blk w (B d.k).1 d.t d.cs ∧ ¬ F' (B d.k).1
section
variable {W w w' : World} {F : Nat → Prop} {g : Nat} {bs0 : List UInt8} {cl : List CallD} {L : Nat → Bool} {B : Bk}
theorem WrC.fr (h : WrC W F g bs0 cl L B w) : Fr F W w := by
  obtain ⟨_, _, _, _, _, h, _⟩ := h
  exact h
theorem WrC.start (h : IsWr W F g (W8 bs0)) (B : Bk) : WrC W F g bs0 cl (fun _ => false) B W.drew :=
  ⟨0, F, Nat.zero_le _, fun i d _ => by simp, by simpa [callsB] using h.fr ((Fr.refl (fun _ => False) W).drew) (fun _ _ h => h), (Fr.refl _ W).drew, fun k hk => .inl hk, fun d _ h => by cases h⟩
theorem WrC.keep (h : WrC W F g bs0 cl L B w) (j : Nat) (hj : cl.all (fun d => d.k != j && d.c != j) = true) : WrC W F g bs0 cl (onL L j) B w := by
  obtain ⟨n, F', h1, h2, h3, h4, h5, h6⟩ := h
  have hk : ∀ d ∈ cl, onL L j d.k = L d.k ∧ onL L j d.c = L d.c := fun d hd => by
    have := List.all_eq_true.1 hj d hd
    simp only [Bool.and_eq_true, bne_iff_ne, ne_eq] at this
    exact ⟨if_neg this.1, if_neg this.2⟩
  refine ⟨n, F', h1, fun i d hd => ?_, h3, h4, h5, fun d hd hl => h6 d hd ?_⟩
  · rw [(hk d (List.mem_of_getElem? hd)).2]
    exact h2 i d hd
  · rw [← (hk d hd).1]
    exact hl
theorem WrC.make (h : WrC W F g bs0 cl L B w) (k : Nat) (t : TypeId) (cs : Array Value) (hu : ∀ d ∈ cl, d.k = k → d.t = t ∧ d.cs = cs) (hc : cl.all (fun d => d.c != k) = true) : WrC W F g bs0 cl (onL L k) (updB B k (w.heap.size, none)) (w.alloc (.cells cs t)) := by
  obtain ⟨n, F', h1, h2, h3, h4, h5, h6⟩ := h
  refine ⟨n, F', h1, fun i d hd => ?_, h3.alloc _, h4.alloc _, h5, fun d hd hl => ?_⟩
  · have := List.all_eq_true.1 hc d (List.mem_of_getElem? hd)
    rw [bne_iff_ne] at this
    rw [show onL L k d.c = L d.c from if_neg this]
    exact h2 i d hd
  · by_cases hk : d.k = k
    · obtain ⟨e1, e2⟩ := hu d hd hk
      rw [show updB B k (w.heap.size, none) d.k = (w.heap.size, none) from if_pos hk, e1, e2]
      exact ⟨Blk.new w t cs, fun hF => by have := h3.bound _ hF; omega⟩
    · rw [show onL L k d.k = L d.k from if_neg hk] at hl
      rw [show updB B k (w.heap.size, none) d.k = B d.k from if_neg hk]
      obtain ⟨g1, g2⟩ := h6 d hd hl
      exact ⟨g1.alloc _, g2⟩
theorem WrC.call (h : WrC W F g bs0 cl L B w) (m : Nat) (d : CallD) (hd : cl[m]? = some d) (hL : L d.c = false) (hk : L d.k = true) (hp : m = 0 ∨ ∃ m' d', m = m' + 1 ∧ cl[m']? = some d' ∧ L d'.c = true) (hu : cl.all (fun e => e.k != d.c) = true) (hu3 : noDup (cl.map (·.c)) = true) :
    ∃ F', IsWr w F' g (W8 (bs0 ++ callsB (cl.take m))) ∧ Blk w (B d.k).1 d.t d.cs ∧ ¬ F' (B d.k).1 ∧ (∀ k, F' k → F k ∨ W.heap.size ≤ k) ∧ ∀ w', WrTo w F' g (W8 ((bs0 ++ callsB (cl.take m)) ++ d.bs)) w' → WrC W F g bs0 cl (onL L d.c) B w' := by
  have hu2 : ∀ i e, cl[i]? = some e → i ≠ m → e.c ≠ d.c := fun i e he hi => noDup_ne hu3 i m e.c d.c (by simp [he]) (by simp [hd]) hi
  obtain ⟨n, F', h1, h2, h3, h4, h5, h6⟩ := h
  have hml : m < cl.length := (List.getElem?_eq_some_iff.1 hd).1
  have e1 := h2 m d hd
  rw [hL] at e1
  have e2 : ¬ m < n := of_decide_eq_false e1.symm
  have e3 : n = m := by
    rcases hp with rfl | ⟨m', d', rfl, hd', hl'⟩
    · omega
    · have := h2 m' d' hd'
      rw [hl'] at this
      have := of_decide_eq_true this.symm
      omega
  subst e3
  obtain ⟨g1, g2⟩ := h6 d (List.mem_of_getElem? hd) hk
  refine ⟨F', h3, g1, g2, h5, fun w' ht => ?_⟩
  obtain ⟨F'', t1, t2, t3⟩ := ht
  have hsz := h4.size
  refine ⟨n + 1, F'', by omega, fun i e he => ?_, ?_, h4.trans t2 h5, fun k hk => (t3 k hk).elim (h5 k) (fun h => .inr (by omega)), fun e he hl => ?_⟩
  · by_cases hi : i = n
    · subst hi
      rw [hd] at he
      injection he with he
      subst he
      rw [show onL L d.c d.c = true from if_pos rfl]
      exact (decide_eq_true (by omega)).symm
    · rw [show onL L d.c e.c = L e.c from if_neg (hu2 i e he hi), h2 i e he]
      by_cases h : i < n
      · rw [decide_eq_true h, decide_eq_true (by omega : i < n + 1)]
      · rw [decide_eq_false h, decide_eq_false (by omega : ¬ i < n + 1)]
  · have : callsB (cl.take (n + 1)) = callsB (cl.take n) ++ d.bs := by
      unfold callsB
      rw [List.take_add_one, hd]
      simp
    rw [this, ← List.append_assoc]
    exact t1
  · have hne := List.all_eq_true.1 hu e he
    rw [bne_iff_ne] at hne
    rw [show onL L d.c e.k = L e.k from if_neg hne] at hl
    obtain ⟨g3, g4⟩ := h6 e he hl
    refine ⟨g3.fr t2 g4, fun hF => (t3 _ hF).elim g4 (fun h => ?_)⟩
    have := g3.lt
    omega
theorem WrC.done (h : WrC W F g bs0 cl L B w) (hL : ∀ d ∈ cl, L d.c = true) : WrTo W F g (W8 (bs0 ++ callsB cl)) w := by
  obtain ⟨n, F', h1, h2, h3, h4, h5, h6⟩ := h
  have hn : n = cl.length := by
    rcases Nat.lt_or_ge n cl.length with hlt | hge
    · have h7 := h2 n cl[n] (List.getElem?_eq_getElem hlt)
      rw [hL _ (List.getElem_mem hlt)] at h7
      have := of_decide_eq_true h7.symm
      omega
    · omega
  rw [hn, List.take_length] at h3
  exact ⟨F', h3, h4, h5⟩
/-- As 'WrC', and at 'dk' the writer's bytes are told. -/
def WrD (W : World) (F : Nat → Prop) (g : Nat) (bs0 : List UInt8) (cl : List CallD) (dk : Nat) (L : Nat → Bool) (B : Bk) (w : World) : Prop :=
  WrC W F g bs0 cl L B w ∧ (L dk = true → (∀ d ∈ cl, L d.c = true) ∧ Own w 5 1 (B dk).2 (bs0 ++ callsB cl).length (B dk).1 ((bs0 ++ callsB cl).map B8) ∧ ∀ k, inA (B dk).2 k → W.heap.size ≤ k)
theorem WrD.fr {dk : Nat} (h : WrD W F g bs0 cl dk L B w) : Fr F W w := h.1.fr
theorem WrD.start {dk : Nat} (h : IsWr W F g (W8 bs0)) (B : Bk) : WrD W F g bs0 cl dk (fun _ => false) B W.drew := ⟨WrC.start h B, fun h => by cases h⟩
theorem WrD.keep {dk : Nat} (h : WrD W F g bs0 cl dk L B w) (j : Nat) (hj : cl.all (fun d => d.k != j && d.c != j) = true) (hjd : (dk != j) = true := by rfl) : WrD W F g bs0 cl dk (onL L j) B w := by
  refine ⟨h.1.keep j hj, fun hl => ?_⟩
  rw [bne_iff_ne] at hjd
  rw [show onL L j dk = L dk from if_neg hjd] at hl
  obtain ⟨h1, h2, h3⟩ := h.2 hl
  refine ⟨fun d hd => ?_, h2, h3⟩
  have := List.all_eq_true.1 hj d hd
  simp only [Bool.and_eq_true, bne_iff_ne, ne_eq] at this
  rw [show onL L j d.c = L d.c from if_neg this.2]
  exact h1 d hd
theorem WrD.make {dk : Nat} (h : WrD W F g bs0 cl dk L B w) (k : Nat) (t : TypeId) (cs : Array Value) (hu : ∀ d ∈ cl, d.k = k → d.t = t ∧ d.cs = cs) (hc : cl.all (fun d => d.c != k) = true) (hkd : (dk != k) = true := by rfl) : WrD W F g bs0 cl dk (onL L k) (updB B k (w.heap.size, none)) (w.alloc (.cells cs t)) := by
  refine ⟨h.1.make k t cs hu hc, fun hl => ?_⟩
  rw [bne_iff_ne] at hkd
  rw [show onL L k dk = L dk from if_neg hkd] at hl
  obtain ⟨h1, h2, h3⟩ := h.2 hl
  rw [show updB B k (w.heap.size, none) dk = B dk from if_neg hkd]
  refine ⟨fun d hd => ?_, h2.fr ((Fr.refl (fun _ => False) w).alloc _) (fun _ _ h => h), h3⟩
  have := List.all_eq_true.1 hc d hd
  rw [bne_iff_ne] at this
  rw [show onL L k d.c = L d.c from if_neg this]
  exact h1 d hd
theorem WrD.call {dk : Nat} (h : WrD W F g bs0 cl dk L B w) (m : Nat) (d : CallD) (hd : cl[m]? = some d) (hL : L d.c = false) (hk : L d.k = true) (hp : m = 0 ∨ ∃ m' d', m = m' + 1 ∧ cl[m']? = some d' ∧ L d'.c = true) (hu : cl.all (fun e => e.k != d.c) = true) (hu3 : noDup (cl.map (·.c)) = true) (hdc : (dk != d.c) = true := by rfl) :
    ∃ F', IsWr w F' g (W8 (bs0 ++ callsB (cl.take m))) ∧ Blk w (B d.k).1 d.t d.cs ∧ ¬ F' (B d.k).1 ∧ (∀ k, F' k → F k ∨ W.heap.size ≤ k) ∧ ∀ w', WrTo w F' g (W8 ((bs0 ++ callsB (cl.take m)) ++ d.bs)) w' → WrD W F g bs0 cl dk (onL L d.c) B w' := by
  obtain ⟨F', h1, h2, h3, h4, h5⟩ := h.1.call m d hd hL hk hp hu hu3
  refine ⟨F', h1, h2, h3, h4, fun w' ht => ⟨h5 w' ht, fun hl => ?_⟩⟩
  rw [bne_iff_ne] at hdc
  rw [show onL L d.c dk = L dk from if_neg hdc] at hl
  have := (h.2 hl).1 d (List.mem_of_getElem? hd)
  rw [hL] at this
  cases this
/-- The last call put its bytes. -/
theorem WrC.all (h : WrC W F g bs0 cl L B w) (m : Nat) (d : CallD) (hm : cl.length = m + 1) (hd : cl[m]? = some d) (hl : L d.c = true) : (∀ d ∈ cl, L d.c = true) ∧ ∃ F', IsWr w F' g (W8 (bs0 ++ callsB cl)) ∧ ∀ k, F' k → F k ∨ W.heap.size ≤ k := by
  obtain ⟨n, F', h1, h2, h3, h4, h5, h6⟩ := h
  have h7 := h2 m d hd
  rw [hl] at h7
  have h8 := of_decide_eq_true h7.symm
  have hn : n = cl.length := by omega
  refine ⟨fun e he => ?_, F', by rw [hn, List.take_length] at h3; exact h3, h5⟩
  obtain ⟨i, hi, rfl⟩ := List.mem_iff_getElem.1 he
  rw [h2 i _ (List.getElem?_eq_getElem hi)]
  exact decide_eq_true (by omega)
theorem WrD.fin {dk : Nat} (h : WrD W F g bs0 cl dk L B w) (m : Nat) (d : CallD) (hm : cl.length = m + 1) (hd : cl[m]? = some d) (hl : L d.c = true) (hu : cl.all (fun e => e.k != dk && e.c != dk) = true) :
    ∃ F', IsWr w F' g (W8 (bs0 ++ callsB cl)) ∧ ∀ A c w', Own w' 5 1 A (bs0 ++ callsB cl).length c ((bs0 ++ callsB cl).map B8) → Nw w w' → (∀ k, inA A k → w.heap.size ≤ k) → WrD W F g bs0 cl dk (onL L dk) (updB B dk (c, A)) w' := by
  obtain ⟨h1, F', h2, h3⟩ := h.1.all m d hm hd hl
  refine ⟨F', h2, fun A c w' ho hf hA => ⟨?_, fun _ => ?_⟩⟩
  · obtain ⟨n, F'', g1, g2, g3, g4, g5, g6⟩ := h.1
    have hne : ∀ e ∈ cl, e.k ≠ dk ∧ e.c ≠ dk := fun e he => by
      have := List.all_eq_true.1 hu e he
      simpa only [Bool.and_eq_true, bne_iff_ne, ne_eq] using this
    refine ⟨n, F'', g1, fun i e he => ?_, g3.fr hf (fun _ _ h => h), g4.tr (hf.mono (fun _ h => h.elim)), g5, fun e he hl2 => ?_⟩
    · rw [show onL L dk e.c = L e.c from if_neg (hne e (List.mem_of_getElem? he)).2]
      exact g2 i e he
    · rw [show onL L dk e.k = L e.k from if_neg (hne e he).1] at hl2
      rw [show updB B dk (c, A) e.k = B e.k from if_neg (hne e he).1]
      obtain ⟨k1, k2⟩ := g6 e he hl2
      exact ⟨k1.fr hf (fun h => h), k2⟩
  · have hne : ∀ e ∈ cl, e.c ≠ dk := fun e he => by
      have := List.all_eq_true.1 hu e he
      simp only [Bool.and_eq_true, bne_iff_ne, ne_eq] at this
      exact this.2
    rw [updB_at]
    refine ⟨fun e he => ?_, ho, fun k hk => Nat.le_trans h.1.fr.size (hA k hk)⟩
    rw [show onL L dk e.c = L e.c from if_neg (hne e he)]
    exact h1 e he
theorem WrD.told {dk : Nat} (h : WrD W F g bs0 cl dk L B w) (hl : L dk = true) : Own w 5 1 (B dk).2 (bs0 ++ callsB cl).length (B dk).1 ((bs0 ++ callsB cl).map B8) ∧ (∀ k, inA (B dk).2 k → W.heap.size ≤ k) ∧ Fr F W w :=
  ⟨(h.2 hl).2.1, (h.2 hl).2.2, h.1.fr⟩
end
end Go.Proofs.YtkjnlhidnkbelaaGreatDoor
