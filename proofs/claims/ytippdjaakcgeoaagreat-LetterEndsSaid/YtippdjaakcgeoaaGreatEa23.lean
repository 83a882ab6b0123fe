/- Lemmas of the walks: EfT, Rgt, EfQ. (Laid together by shake.py.) -/
import Derived.Test.YtippdjaakcgeoaaGreatEa15
import Derived.Test.YtippdjaakcgeoaaGreatEa16
set_option linter.unusedVariables false
set_option linter.unusedSimpArgs false
set_option maxRecDepth 100000
set_option maxHeartbeats 16000000
namespace Go.Proofs.YtippdjaakcgeoaaGreat
open Go Go.RowKit
abbrev BkT (T : Type) := Nat → T
section
variable {T : Type} {P : Program} {ops : Array Oper} {md : Region.Mode} {C : (Nat → Bool) → BkT T → World → Prop}
def updT (B : BkT T) (k : Nat) (b : T) : BkT T := fun j => if j = k then b else B j
theorem zeo (B : BkT T) (k : Nat) : updT B k (B k) = B := by
 funext j
 unfold updT
 by_cases h : j = k
 ·rw [if_pos h, h]
 ·rw [if_neg h]
theorem zgZ (B : BkT T) (k : Nat) (b : T) : updT B k b k = b := if_pos rfl
def zec (P : Program) (K : T → World → Prop) (vf : T → Value) : Result Next → Prop
 | .ok (.value u) w' => ∃ b, u = vf b ∧ K b w'
 | .ok .skip w' => ∃ b, vf b = undef ∧ K b w'
 | .ok (.enter f args) w' => Calls P f args w' (fun e w'' => ∃ b, e = .returned (vf b) ∧ K b w'')
 | _ => False
def zbP (P : Program) (o : Oper) (a : Act) (vf : T → Value) (K : T → World → Prop) (w : World) : Prop := zec P K vf ((execOp a.eval o).run P w)
def zi3 (md : Region.Mode) (P : Program) (ops : Array Oper) (C : (Nat → Bool) → BkT T → World → Prop) (o : Oper) (k : Nat) (vf : BkT T → Value) (a : Act) (B : BkT T) : Prop :=
 ∀ L w, L k = false → (∀ j, zaG md o j = true → L j = true) → C L B w → (Region.wanted o (yielded ops a.tmps) = true ∧ zbP P o a (fun b => vf (updT B k b)) (fun b w' => C (onL L k) (updT B k b) w') w) ∨ (Region.wanted o (yielded ops a.tmps) = false ∧ ∃ b, vf (updT B k b) = undef ∧ C (onL L k) (updT B k b) w)
def DepT (md : Region.Mode) (ops : Array Oper) (k : Nat) (vf : BkT T → Value) : Prop := ∀ B B' : BkT T, (∀ j, ze4 md ops zfK k j = true → B j = B' j) → vf B = vf B'
def zcz (md : Region.Mode) (P : Program) (ops : Array Oper) (C : (Nat → Bool) → BkT T → World → Prop) (Q : BkT T → Act → Prop) : List Oper → Nat → (BkT T → Act) → Prop
 | [], _, a => ∀ B, Q B (a B)
 | o :: rest, k, a => ∃ vf : BkT T → Value, DepT md ops k vf ∧ (∀ B, zi3 md P ops C o k vf (a B) B) ∧ zcz md P ops C Q rest (k + 1) (fun B => (a B).put o.dst (vf B))
theorem zh6 {K : World → Prop} {K' : T → World → Prop} {v : Value} {vf : T → Value} {b : T} (hv : vf b = v) (hK : ∀ w, K w → K' b w) {r : Result Next} (h : zco P K v r) : zec P K' vf r := by
 cases r with
 | ok n w' =>
  cases n <;> simp only [zco, zec] at h ⊢
  case value u => exact ⟨b, by rw [hv]; exact h.1, hK _ h.2⟩
  case skip => exact ⟨b, by rw [hv]; exact h.1, hK _ h.2⟩
  case enter f args => exact h.mono fun e w'' ⟨he, hw⟩ => ⟨b, by rw [hv]; exact he, hK _ hw⟩
 | halt x w' => simp only [zco] at h
theorem zdC {Q : BkT T → Act → Prop} {o : Oper} {rest : List Oper} {k : Nat} {a : BkT T → Act} (vf : BkT T → Value) (hd : DepT md ops k vf)
  (h1 : ∀ B L w, L k = false → (∀ j, zaG md o j = true → L j = true) → C L B w → (Region.wanted o (yielded ops (a B).tmps) = true ∧ za2 P o (a B) (vf B) (C (onL L k) B) w) ∨ (Region.wanted o (yielded ops (a B).tmps) = false ∧ vf B = undef ∧ C (onL L k) B w))
  (h2 : zcz md P ops C Q rest (k + 1) (fun B => (a B).put o.dst (vf B))) : zcz md P ops C Q (o :: rest) k a := by
 refine ⟨vf, hd, fun B L w hL hD hC => ?_, h2⟩
 rcases h1 B L w hL hD hC with ⟨hw, he⟩ | ⟨hw, hv, hc⟩
 ·refine .inl ⟨hw, zh6 (b := B k) (by show vf _ = _; rw [zeo]) (fun w h => ?_) he⟩
  rw [zeo]
  exact h
 ·refine .inr ⟨hw, B k, by rw [zeo]; exact hv, ?_⟩
  rw [zeo]
  exact hc
theorem zak {Q : BkT T → Act → Prop} {o : Oper} {rest : List Oper} {k : Nat} {a : BkT T → Act} {v : Value}
  (h1 : ∀ B L w, L k = false → (∀ j, zaG md o j = true → L j = true) → C L B w → (Region.wanted o (yielded ops (a B).tmps) = true ∧ za2 P o (a B) v (C (onL L k) B) w) ∨ (Region.wanted o (yielded ops (a B).tmps) = false ∧ v = undef ∧ C (onL L k) B w))
  (h2 : zcz md P ops C Q rest (k + 1) (fun B => (a B).put o.dst v)) : zcz md P ops C Q (o :: rest) k a :=
 zdC (fun _ => v) (fun _ _ _ => rfl) h1 h2
theorem zaU {Q : BkT T → Act → Prop} {o : Oper} {rest : List Oper} {k : Nat} {a : BkT T → Act} (vf : T → Value)
  (h1 : ∀ B L w, L k = false → (∀ j, zaG md o j = true → L j = true) → C L B w → (Region.wanted o (yielded ops (a B).tmps) = true ∧ zbP P o (a B) vf (fun b w' => C (onL L k) (updT B k b) w') w) ∨ (Region.wanted o (yielded ops (a B).tmps) = false ∧ ∃ b, vf b = undef ∧ C (onL L k) (updT B k b) w))
  (h2 : zcz md P ops C Q rest (k + 1) (fun B => (a B).put o.dst (vf (B k)))) : zcz md P ops C Q (o :: rest) k a := by
 refine ⟨fun B => vf (B k), fun B B' h => by show vf _ = vf _; rw [h k (by simp [ze4])], fun B L w hL hD hC => ?_, h2⟩
 have := h1 B L w hL hD hC
 simpa only [zgZ] using this
theorem zcH {Q : BkT T → Act → Prop} {k : Nat} {a : BkT T → Act} (h : ∀ B, Q B (a B)) : zcz md P ops C Q [] k a := h
theorem zhQ {Q : BkT T → Act → Prop} (l : List Oper) (k : Nat) (a : BkT T → Act) (hl : ∀ j, l[j]? = ops[k + j]?) (h : zcz md P ops C Q l k a) :
  ∃ vf : Nat → BkT T → Value, (∀ j, DepT md ops j (vf j)) ∧ (∀ j o, l[j]? = some o → ∀ B, zi3 md P ops C o (k + j) (vf (k + j)) (zaf ops (fun j => vf j B) (List.range' k j) (a B)) B) ∧ ∀ B, Q B (zaf ops (fun j => vf j B) (List.range' k l.length) (a B)) := by
 induction l generalizing k a with
 | nil => exact ⟨fun _ _ => undef, fun _ _ _ _ => rfl, fun j o hj => (by simp at hj), fun B => h B⟩
 | cons o l ih =>
  obtain ⟨v, hdp, he, hr⟩ := h
  obtain ⟨V, h0, h1, h2⟩ := ih (k + 1) _ (fun j => by have := hl (j + 1); simpa [Nat.add_assoc, Nat.add_comm 1 j] using this) hr
  have hd : zbS ops k = o.dst := by
   have := hl 0
   simp at this
   simp [zbS, ← this]
  have hF : ∀ B j, zaf ops (fun i => (if i = k then v else V i) B) (List.range' k (j + 1)) (a B) = zaf ops (fun i => V i B) (List.range' (k + 1) j) ((a B).put o.dst (v B)) := fun B j => by
   rw [List.range'_succ]
   show zaf ops _ (List.range' (k + 1) j) ((a B).put (zbS ops k) ((if k = k then v else V k) B)) = _
   rw [if_pos rfl, hd]
   refine zdD _ _ _ _ fun i hi => ?_
   have := (List.mem_range'_1.1 hi).1
   show (if i = k then v else V i) B = V i B
   rw [if_neg (by omega)]
  refine ⟨fun i => if i = k then v else V i, fun j => ?_, fun j o' hj B => ?_, fun B => ?_⟩
  ·show DepT md ops j (if j = k then v else V j)
   by_cases hjk : j = k
   ·rw [if_pos hjk, hjk]; exact hdp
   ·rw [if_neg hjk]; exact h0 j
  ·cases j with
   | zero =>
    simp at hj
    subst hj
    simpa [zaf] using he B
   | succ j =>
    have hj' : l[j]? = some o' := by simpa using hj
    have := h1 j o' hj' B
    rw [hF B j]
    have e : k + (j + 1) = k + 1 + j := by omega
    simp only [e]
    rw [if_neg (by omega)]
    exact this
  ·rw [List.length_cons, hF]
   exact h2 B
theorem zk5 {vf : Nat → BkT T → Value} {a0 : Act} {Q : Exit → Act → World → Prop} (hB : effB md ops = true) (hd : ∀ j, DepT md ops j (vf j)) (hV : ∀ j o, ops[j]? = some o → ∀ B, zi3 md P ops C o j (vf j) (zaf ops (fun j => vf j B) (List.range' 0 j) a0) B)
  (hQ : ∀ B w, C (fun j => decide (j < ops.size)) B w → Q .normal (zaf ops (fun j => vf j B) (List.range' 0 ops.size) a0) w) (fuel : Nat) (listed : Array Bool) (a : Act) (w : World) (B : BkT T) (h : zcB ops md (fun _ _ => True) (fun j => vf j B) a0 fuel listed a w) (hc : C (Lof listed) B w) : wpAny P md ops Q fuel listed a w := by
 induction fuel generalizing listed a w B with
 | zero =>
  have hnil := List.eq_nil_of_length_eq_zero h.cnt.symm
  have hal : ∀ j, j < ops.size → Lof listed j = true := fun j hj => by
   have := List.filter_eq_nil_iff.1 hnil j (List.mem_range'_1.2 ⟨by omega, by omega⟩)
   simpa using this
  have hLe : Lof listed = fun j => decide (j < ops.size) := by
   funext j
   by_cases hj : j < ops.size
   ·rw [hal j hj, decide_eq_true hj]
   ·rw [decide_eq_false hj]
    cases hx : Lof listed j with
    | false => rfl
    | true => exact absurd (h.size ▸ ze8 hx) hj
  refine ⟨?_, ?_⟩
  ·refine List.eq_nil_iff_forall_not_mem.2 fun i hi => ?_
   obtain ⟨h0, _⟩ := mem_ready.1 hi
   obtain ⟨h1, h2⟩ := zbV h0
   rw [hal i (h.size ▸ h1)] at h2
   cases h2
  ·have hf := h.frame
   rw [List.filter_eq_self.2 (fun j hj => hal j (by have := (List.mem_range'_1.1 hj).2; omega))] at hf
   rw [hf]
   exact hQ B w (hLe ▸ hc)
 | succ fuel ih =>
  refine ⟨fun hnil => ?_, fun i hi => ?_⟩
  ·exfalso
   have hal : ∀ k, k ≤ ops.size → ∀ j, j < k → Lof listed j = true := by
    intro k
    induction k with
    | zero => intro _ j hj; omega
    | succ k ihk =>
     intro hk j hj
     by_cases hjk : j < k
     ·exact ihk (by omega) j hjk
     ·obtain rfl : j = k := by omega
      cases hx : Lof listed j with
      | true => rfl
      | false =>
       exfalso
       obtain ⟨o, ho⟩ : ∃ o, ops[j]? = some o := ⟨_, Array.getElem?_eq_getElem (by omega)⟩
       have : j ∈ Region.ready md ops listed := mem_ready.2 ⟨zeG (by rw [h.size]; omega) hx, o, ho, fun e he hb => ihk (by omega) e.on (((zcr hB).2 j o ho).1 e he hb)⟩
       rw [hnil] at this
       cases this
   have := h.cnt
   rw [List.filter_eq_nil_iff.2 (fun j hj => by rw [hal ops.size (Nat.le_refl _) j (by have := (List.mem_range'_1.1 hj).2; omega)]; simp)] at this
   simp at this
  ·obtain ⟨h0, o, ho, hal⟩ := mem_ready.1 hi
   obtain ⟨hex, hwa⟩ := h.looks hB ho hi
   have hiL := (zbV h0).2
   have stepE : ∀ b w', C (onL (Lof listed) i) (updT B i b) w' → wpAny P md ops Q fuel (listed.setIfInBounds i true) (a.put o.dst (vf i (updT B i b))) w' := fun b w' hc' => by
    have h' := h.congrV (V' := fun j => vf j (updT B i b)) (fun j hj => hd j _ _ fun j' hj' => by
     have := zdw h.down zfK j j' hj hj'
     unfold updT
     rw [if_neg (fun e => by rw [e, hiL] at this; cases this)])
    have h2 := h'.step hB ho hi (w' := w') trivial
    exact ih _ _ _ (updT B i b) h2 (by rw [zeK (by rw [h.size]; exact (Array.getElem?_eq_some_iff.1 ho).1)]; exact hc')
   have hE := hV i o ho B (Lof listed) w (zbV h0).2 (fun j hj => by
    unfold zaG at hj
    rw [← Array.any_toList, List.any_eq_true] at hj
    obtain ⟨e, he, h3⟩ := hj
    simp only [Bool.and_eq_true, beq_iff_eq] at h3
    rw [← h3.2]
    exact hal e (by simpa using he) h3.1) hc
   unfold wpOp
   simp only [ho]
   rw [hwa]
   rcases hE with ⟨hw, hE⟩ | ⟨hw, b, hv, hE⟩
   ·simp only [hw, if_true]
    refine .inl ?_
    unfold zbP at hE
    unfold Oper.wp
    rw [hex]
    generalize (execOp (zaf ops (fun j => vf j B) (List.range' 0 i) a0).eval o).run P w = r at hE ⊢
    cases r with
    | ok n w' =>
     cases n <;> simp only [zec] at hE <;> simp only [Oper.upon]
     case value u =>
      obtain ⟨b, e1, e2⟩ := hE
      rw [e1]
      exact stepE b _ e2
     case skip =>
      obtain ⟨b, e1, e2⟩ := hE
      rw [← e1]
      exact stepE b _ e2
     case enter f args =>
      exact hE.mono fun e w'' ⟨b, he, hw''⟩ => by subst he; exact stepE b _ hw''
    | halt x w' => simp only [zec] at hE
   ·simp only [hw, Bool.false_eq_true, if_false]
    rw [← hv]
    exact stepE b _ hE
theorem zdG {id : Nat} {Q : Exit → Act → World → Prop} {a : Act} {w : World} {l : List Oper} (C : (Nat → Bool) → BkT T → World → Prop) (B0 : BkT T) (hm : P.follows .mixedOrders = true) (hB : effB .any l.toArray = true) (hC : C (fun _ => false) B0 w.drew)
  (h : zcz .any P l.toArray C (fun B a' => ∀ w', C (fun j => decide (j < l.length)) B w' → Q .normal a' w') l 0 (fun _ => a)) : (Code.region id l.toArray true).wp P Q a w := by
 obtain ⟨V, h0, h1, h2⟩ := zhQ l 0 (fun _ => a) (fun j => by simp) h
 refine wp_region_any hm ?_
 have hL0 : Lof (Array.replicate l.toArray.size false) = fun _ => false := by
  funext j
  unfold Lof
  by_cases hj : j < l.length
  ·simp [hj]
  ·simp [Nat.le_of_not_lt hj]
 refine zk5 (vf := V) (a0 := a) hB h0 (fun j o hj B => ?_) (fun B w' hw' => ?_) _ _ _ w.drew B0 ⟨by simp, fun j o _ hj => (by rw [hL0] at hj; cases hj), ?_, trivial, ?_⟩ (by rw [hL0]; exact hC)
 ·have := h1 j o (by simpa using hj) B
  simpa using this
 ·have := h2 B w' (by simpa using hw')
  simpa using this
 ·rw [hL0, List.filter_eq_nil_iff.2 (fun j _ => by simp)]; rfl
 ·rw [hL0, List.filter_eq_self.2 (fun j _ => by simp)]; simp
end
open Go Go.RowKit
def zb6 (md : Region.Mode) (ops : Array Oper) (kc kb ka ks : Nat) {T : Type} (S0 : World → Prop) (S1 : T → World → Prop) (S2 S3 S4 : T → T → World → Prop) (L : Nat → Bool) (B : BkT T) (w : World) : Prop :=
 zdA md ops L ∧ (if L ks = true then S4 (B kc) (B ka) w else if L ka = true then S3 (B kc) (B ka) w else if L kb = true then S2 (B kc) (B kb) w else if L kc = true then S1 (B kc) w else S0 w)
section
variable {md : Region.Mode} {ops : Array Oper} {kc kb ka ks : Nat} {T : Type} {S0 : World → Prop} {S1 : T → World → Prop} {S2 S3 S4 : T → T → World → Prop} {L : Nat → Bool} {B : BkT T} {w w' : World} {o : Oper}
theorem zb6.start (h : S0 w) : zb6 md ops kc kb ka ks S0 S1 S2 S3 S4 (fun _ => false) B w := ⟨fun _ _ _ h => (by cases h), by simpa using h⟩
theorem zie {j k : Nat} {b : T} (h : (k != j) = true) : updT B j b k = B k := if_neg (by simpa using h)
theorem zb6.keep (h : zb6 md ops kc kb ka ks S0 S1 S2 S3 S4 L B w) {j : Nat} (ho : ops[j]? = some o) (hD : ∀ i, zaG md o i = true → L i = true) (n1 : (kc != j) = true) (n2 : (kb != j) = true) (n3 : (ka != j) = true) (n4 : (ks != j) = true) : zb6 md ops kc kb ka ks S0 S1 S2 S3 S4 (onL L j) B w :=
 ⟨h.1.step ho hD, by rw [zaN n1, zaN n2, zaN n3, zaN n4]; exact h.2⟩
theorem zb6.all (h : zb6 md ops kc kb ka ks S0 S1 S2 S3 S4 L B w) {φ : Prop} (h0 : S0 w → φ) (h1 : ∀ a, S1 a w → φ) (h2 : ∀ a b, S2 a b w → φ) (h3 : ∀ a b, S3 a b w → φ) (h4 : ∀ a b, S4 a b w → φ) : φ := by
 have h5 := h.2
 split at h5
 ·exact h4 _ _ h5
 split at h5
 ·exact h3 _ _ h5
 split at h5
 ·exact h2 _ _ h5
 split at h5
 ·exact h1 _ h5
 ·exact h0 h5
theorem zb6.early (h : zb6 md ops kc kb ka ks S0 S1 S2 S3 S4 L B w) {j : Nat} (hL : L j = false) (hj : zbT md ops ka j = true) (hs : zbT md ops ks ka = true) {φ : Prop} (h0 : S0 w → φ) (h1 : ∀ a, S1 a w → φ) (h2 : ∀ a b, S2 a b w → φ) : φ := by
 have h5 := h.2
 have ha := h.1.no hj hL
 rw [ha, h.1.no hs ha, if_neg (by simp), if_neg (by simp)] at h5
 split at h5
 ·exact h2 _ _ h5
 split at h5
 ·exact h1 _ h5
 ·exact h0 h5
theorem zb6.call (h : zb6 md ops kc kb ka ks S0 S1 S2 S3 S4 L B w) (hL : L kc = false) (hb : zbT md ops kb kc = true) (ha : zbT md ops ka kb = true) (hs : zbT md ops ks ka = true) (ho : ops[kc]? = some o) (hD : ∀ i, zaG md o i = true → L i = true) (n2 : (kb != kc) = true) (n3 : (ka != kc) = true) (n4 : (ks != kc) = true) :
  S0 w ∧ ∀ w' b, S1 b w' → zb6 md ops kc kb ka ks S0 S1 S2 S3 S4 (onL L kc) (updT B kc b) w' := by
 have lb := h.1.no hb hL
 have la := h.1.no ha lb
 have ls := h.1.no hs la
 refine ⟨by simpa [lb, la, ls, hL] using h.2, fun w' b h1 => ⟨h.1.step ho hD, ?_⟩⟩
 rw [zaN n2, zaN n3, zaN n4, zbE, lb, la, ls]
 simpa [updT] using h1
theorem zb6.build (h : zb6 md ops kc kb ka ks S0 S1 S2 S3 S4 L B w) (hL : L kb = false) (hc : L kc = true) (ha : zbT md ops ka kb = true) (hs : zbT md ops ks ka = true) (ho : ops[kb]? = some o) (hD : ∀ i, zaG md o i = true → L i = true) (n1 : (kc != kb) = true) (n3 : (ka != kb) = true) (n4 : (ks != kb) = true) :
  S1 (B kc) w ∧ ∀ w' b, S2 (B kc) b w' → zb6 md ops kc kb ka ks S0 S1 S2 S3 S4 (onL L kb) (updT B kb b) w' := by
 have la := h.1.no ha hL
 have ls := h.1.no hs la
 refine ⟨by simpa [la, ls, hL, hc] using h.2, fun w' b h1 => ⟨h.1.step ho hD, ?_⟩⟩
 rw [zaN n3, zaN n4, zbE, la, ls, zie n1, zgZ]
 simpa using h1
theorem zb6.app (h : zb6 md ops kc kb ka ks S0 S1 S2 S3 S4 L B w) (hL : L ka = false) (hb : L kb = true) (hs : zbT md ops ks ka = true) (ho : ops[ka]? = some o) (hD : ∀ i, zaG md o i = true → L i = true) (n1 : (kc != ka) = true) (n4 : (ks != ka) = true) :
  S2 (B kc) (B kb) w ∧ ∀ w' b, S3 (B kc) b w' → zb6 md ops kc kb ka ks S0 S1 S2 S3 S4 (onL L ka) (updT B ka b) w' := by
 have ls := h.1.no hs hL
 refine ⟨by simpa [ls, hL, hb] using h.2, fun w' b h1 => ⟨h.1.step ho hD, ?_⟩⟩
 rw [zaN n4, zbE, ls, zie n1, zgZ]
 simpa using h1
theorem zb6.store (h : zb6 md ops kc kb ka ks S0 S1 S2 S3 S4 L B w) (hL : L ks = false) (ha : L ka = true) (ho : ops[ks]? = some o) (hD : ∀ i, zaG md o i = true → L i = true) :
  S3 (B kc) (B ka) w ∧ ∀ w', S4 (B kc) (B ka) w' → zb6 md ops kc kb ka ks S0 S1 S2 S3 S4 (onL L ks) B w' := by
 refine ⟨by simpa [hL, ha] using h.2, fun w' h1 => ⟨h.1.step ho hD, ?_⟩⟩
 rw [zbE]
 simpa using h1
theorem zb6.fin (h : zb6 md ops kc kb ka ks S0 S1 S2 S3 S4 L B w) (hs : L ks = true) : S4 (B kc) (B ka) w := by
 have h5 := h.2
 rwa [if_pos hs] at h5
end
theorem zhG {P : Program} {T : Type} {E : TypeId} {size n cap : Nat} {A : Option Addr} {cs : List Value} {F : Nat → Prop} {w : World} {o : Oper} {a : Act} {vf : T → Value} {K : T → World → Prop} (s x : Operand) (t : TypeId)
  (ho : o.op = .call { callee := .builtin .append, args := #[s, x], argTypes := #[t, t] }) (bytes : Nat) (z : Value) (ht : P.underlying t = some (.slice E))
  (hinfo : (P.info? E).map (fun i => (i.zero, i.size, i.bytes)) = some (some z, size, bytes)) (hzs : z.cells.size = size) (hsz : 0 < size)
  (hs : a.eval s = .slice A n cap) (hown : Own w E size A n cap cs) {A2 : Option Addr} {m c : Nat} {news : List Value} (hx : a.eval x = .slice A2 m c) (hsl : Sl w F A2 news) (hl : news.length = m * size) (h1 : ∀ u ∈ news, u.oneCell' = true)
  (hbytes : (n + m) * bytes ≤ 140737488355328) (hmax : n + m ≤ maxLen)
  (h : ∀ A' cap' w', zaM w E size A n cap m cs news A' cap' w' → ∃ b, .slice A' (n + m) cap' = vf b ∧ K b w') : zbP P o a vf K w := by
 obtain ⟨A', cap', w', hrun, h2⟩ := zbG (P := P) w t o.type bytes z ht hinfo hzs hsz hown hsl hl h1 hbytes hmax (c := c)
 unfold zbP execOp
 simp only [ho, resolve, invoke, builtin, Sem.run_bind, Sem.run_pure, Result.andThen_ok, List.map_toArray, List.map_cons, List.map_nil, hs, hx]
 rw [hrun]
 exact h A' cap' w' h2
theorem zgL {T : Type} {P : Program} {id : Nat} {Q : Exit → Act → World → Prop} {a : Act} {w : World} {l : List Oper} (kc kb ka ks : Nat) (S0 : World → Prop) (S1 : T → World → Prop) (S2 S3 S4 : T → T → World → Prop) (B0 : BkT T) (hm : P.follows .mixedOrders = true) (hB : effB .any l.toArray = true) (h0 : S0 w.drew)
  (h : zcz .any P l.toArray (zb6 .any l.toArray kc kb ka ks S0 S1 S2 S3 S4) (fun B a' => ∀ w', zb6 .any l.toArray kc kb ka ks S0 S1 S2 S3 S4 (fun j => decide (j < l.length)) B w' → Q .normal a' w') l 0 (fun _ => a)) : (Code.region id l.toArray true).wp P Q a w :=
 zdG (zb6 .any l.toArray kc kb ka ks S0 S1 S2 S3 S4) B0 hm hB (zb6.start h0) h
open Go Go.RowKit
section
variable {P : Program} {ops : Array Oper} {md : Region.Mode} {C : (Nat → Bool) → Bk → World → Prop} {KP : List PanicEntry → World → Prop}
theorem zlE {t : Tmp} (h : (ops.all fun o => o.dst != some t) = true) (i : Nat) : ∀ d', zbS ops i = some d' → d' ≠ t := by
 intro d' hd e
 subst e
 unfold zbS at hd
 cases ho : ops[i]? with
 | none => rw [ho] at hd; cases hd
 | some o =>
  rw [ho] at hd
  have := (Array.all_eq_true_iff_forall_mem.1 h) o (Array.mem_of_getElem? ho)
  simp at hd
  rw [hd] at this
  simp at this
theorem zjD {t : Tmp} (h : (ops.all fun o => o.dst != some t) = true) (V : Nat → Value) (m : List Nat) (b : Act) : (zaf ops V m b).tmps[t]? = b.tmps[t]? := by
 induction m generalizing b with
 | nil => rfl
 | cons i m ihm =>
  show (zaf ops V m (b.put _ _)).tmps[t]? = _
  rw [ihm]
  exact zgy _ _ _ _ (zlE h i)
theorem zkg {vf : Nat → Bk → Value} {a0 : Act} {Q : Exit → Act → World → Prop} (hKP : ∀ ch w (a' : Act), a'.defers = a0.defers → (∀ t, (ops.all fun o => o.dst != some t) = true → a'.tmps[t]? = a0.tmps[t]?) → KP ch w → Q (.panic ch) a' w) (hB : effB md ops = true) (hd : ∀ j, zdx md ops j (vf j)) (hV : ∀ j o, ops[j]? = some o → ∀ B, zgl md P KP ops C o j (vf j) (zaf ops (fun j => vf j B) (List.range' 0 j) a0) B)
  (hQ : ∀ B w, C (fun j => decide (j < ops.size)) B w → Q .normal (zaf ops (fun j => vf j B) (List.range' 0 ops.size) a0) w) (fuel : Nat) (listed : Array Bool) (a : Act) (w : World) (B : Bk) (h : zcB ops md (fun _ _ => True) (fun j => vf j B) a0 fuel listed a w) (hc : C (Lof listed) B w) : wpAny P md ops Q fuel listed a w := by
 induction fuel generalizing listed a w B with
 | zero =>
  have hnil := List.eq_nil_of_length_eq_zero h.cnt.symm
  have hal : ∀ j, j < ops.size → Lof listed j = true := fun j hj => by
   have := List.filter_eq_nil_iff.1 hnil j (List.mem_range'_1.2 ⟨by omega, by omega⟩)
   simpa using this
  have hLe : Lof listed = fun j => decide (j < ops.size) := by
   funext j
   by_cases hj : j < ops.size
   ·rw [hal j hj, decide_eq_true hj]
   ·rw [decide_eq_false hj]
    cases hx : Lof listed j with
    | false => rfl
    | true => exact absurd (h.size ▸ ze8 hx) hj
  refine ⟨?_, ?_⟩
  ·refine List.eq_nil_iff_forall_not_mem.2 fun i hi => ?_
   obtain ⟨h0, _⟩ := mem_ready.1 hi
   obtain ⟨h1, h2⟩ := zbV h0
   rw [hal i (h.size ▸ h1)] at h2
   cases h2
  ·have hf := h.frame
   rw [List.filter_eq_self.2 (fun j hj => hal j (by have := (List.mem_range'_1.1 hj).2; omega))] at hf
   rw [hf]
   exact hQ B w (hLe ▸ hc)
 | succ fuel ih =>
  refine ⟨fun hnil => ?_, fun i hi => ?_⟩
  ·exfalso
   have hal : ∀ k, k ≤ ops.size → ∀ j, j < k → Lof listed j = true := by
    intro k
    induction k with
    | zero => intro _ j hj; omega
    | succ k ihk =>
     intro hk j hj
     by_cases hjk : j < k
     ·exact ihk (by omega) j hjk
     ·obtain rfl : j = k := by omega
      cases hx : Lof listed j with
      | true => rfl
      | false =>
       exfalso
       obtain ⟨o, ho⟩ : ∃ o, ops[j]? = some o := ⟨_, Array.getElem?_eq_getElem (by omega)⟩
       have : j ∈ Region.ready md ops listed := mem_ready.2 ⟨zeG (by rw [h.size]; omega) hx, o, ho, fun e he hb => ihk (by omega) e.on (((zcr hB).2 j o ho).1 e he hb)⟩
       rw [hnil] at this
       cases this
   have := h.cnt
   rw [List.filter_eq_nil_iff.2 (fun j hj => by rw [hal ops.size (Nat.le_refl _) j (by have := (List.mem_range'_1.1 hj).2; omega)]; simp)] at this
   simp at this
  ·obtain ⟨h0, o, ho, hal⟩ := mem_ready.1 hi
   obtain ⟨hex, hwa⟩ := h.looks hB ho hi
   have hiL := (zbV h0).2
   have stepE : ∀ b w', C (onL (Lof listed) i) (updB B i b) w' → wpAny P md ops Q fuel (listed.setIfInBounds i true) (a.put o.dst (vf i (updB B i b))) w' := fun b w' hc' => by
    have h' := h.congrV (V' := fun j => vf j (updB B i b)) (fun j hj => hd j _ _ fun j' hj' => by
     have := zdw h.down zfK j j' hj hj'
     unfold updB
     rw [if_neg (fun e => by rw [e, hiL] at this; cases this)])
    have h2 := h'.step hB ho hi (w' := w') trivial
    exact ih _ _ _ (updB B i b) h2 (by rw [zeK (by rw [h.size]; exact (Array.getElem?_eq_some_iff.1 ho).1)]; exact hc')
   have hE := hV i o ho B (Lof listed) w (zbV h0).2 (fun j hj => by
    unfold zaG at hj
    rw [← Array.any_toList, List.any_eq_true] at hj
    obtain ⟨e, he, h3⟩ := hj
    simp only [Bool.and_eq_true, beq_iff_eq] at h3
    rw [← h3.2]
    exact hal e (by simpa using he) h3.1) hc
   unfold wpOp
   simp only [ho]
   rw [hwa]
   rcases hE with ⟨hw, hE⟩ | ⟨hw, b, hv, hE⟩
   ·simp only [hw, if_true]
    refine .inl ?_
    unfold zdS at hE
    unfold Oper.wp
    rw [hex]
    generalize (execOp (zaf ops (fun j => vf j B) (List.range' 0 i) a0).eval o).run P w = r at hE ⊢
    cases r with
    | ok n w' =>
     cases n <;> simp only [zdf] at hE <;> simp only [Oper.upon]
     case value u =>
      obtain ⟨b, e1, e2⟩ := hE
      rw [e1]
      exact stepE b _ e2
     case skip =>
      obtain ⟨b, e1, e2⟩ := hE
      rw [← e1]
      exact stepE b _ e2
     case enter f args =>
      exact hE.mono fun e w'' h => by
       rcases h with ⟨b, he, hw''⟩ | ⟨ch, he, hp⟩
       ·subst he; exact stepE b _ hw''
       ·subst he; exact hKP ch _ _ (by rw [h.frame]; exact zf7 _ _ _) (fun t ht => by rw [h.frame]; exact zjD ht _ _ _) hp
    | halt x w' => simp only [zdf] at hE
   ·simp only [hw, Bool.false_eq_true, if_false]
    rw [← hv]
    exact stepE b _ hE
theorem zgS {id : Nat} {Q : Exit → Act → World → Prop} {a : Act} {w : World} {l : List Oper} (KP : List PanicEntry → World → Prop) (hKP : ∀ ch w (a' : Act), a'.defers = a.defers → (∀ t, (l.toArray.all fun o => o.dst != some t) = true → a'.tmps[t]? = a.tmps[t]?) → KP ch w → Q (.panic ch) a' w) (C : (Nat → Bool) → Bk → World → Prop) (B0 : Bk) (hm : P.follows .mixedOrders = true) (hB : effB .any l.toArray = true) (hC : C (fun _ => false) B0 w.drew)
  (h : zcM .any P KP l.toArray C (fun B a' => ∀ w', C (fun j => decide (j < l.length)) B w' → Q .normal a' w') l 0 (fun _ => a)) : (Code.region id l.toArray true).wp P Q a w := by
 obtain ⟨V, h0, h1, h2⟩ := zfc l 0 (fun _ => a) (fun j => by simp) h
 refine wp_region_any hm ?_
 have hL0 : Lof (Array.replicate l.toArray.size false) = fun _ => false := by
  funext j
  unfold Lof
  by_cases hj : j < l.length
  ·simp [hj]
  ·simp [Nat.le_of_not_lt hj]
 refine zkg (vf := V) (a0 := a) hKP hB h0 (fun j o hj B => ?_) (fun B w' hw' => ?_) _ _ _ w.drew B0 ⟨by simp, fun j o _ hj => (by rw [hL0] at hj; cases hj), ?_, trivial, ?_⟩ (by rw [hL0]; exact hC)
 ·have := h1 j o (by simpa using hj) B
  simpa using this
 ·have := h2 B w' (by simpa using hw')
  simpa using this
 ·rw [hL0, List.filter_eq_nil_iff.2 (fun j _ => by simp)]; rfl
 ·rw [hL0, List.filter_eq_self.2 (fun j _ => by simp)]; simp
end
end Go.Proofs.YtippdjaakcgeoaaGreat
