/- Lemmas of the walks: Eff, EfB, EfP. (Laid together by shake.py.) -/
import Derived.Still
import Derived.Deep.Quiet
import Derived.Test.YtippdjaakcgeoaaGreatEa02
set_option linter.unusedVariables false
set_option linter.unusedSimpArgs false
set_option maxRecDepth 100000
set_option maxHeartbeats 16000000
namespace Go.Proofs.YtippdjaakcgeoaaGreat
open Go Go.RowKit
section
variable {P : Program} {ops : Array Oper} {md : Region.Mode} {C : (Nat → Bool) → World → Prop}
def zco (P : Program) (K : World → Prop) (v : Value) : Result Next → Prop
 | .ok (.value u) w' => u = v ∧ K w'
 | .ok .skip w' => v = undef ∧ K w'
 | .ok (.enter f args) w' => Calls P f args w' (fun e w'' => e = .returned v ∧ K w'')
 | _ => False
def za2 (P : Program) (o : Oper) (a : Act) (v : Value) (K : World → Prop) (w : World) : Prop := zco P K v ((execOp a.eval o).run P w)
def onL (L : Nat → Bool) (k : Nat) : Nat → Bool := fun j => if j = k then true else L j
def zaG (md : Region.Mode) (o : Oper) (j : Nat) : Bool := o.after.any fun e => Region.binds md e && e.on == j
def zkc (md : Region.Mode) (P : Program) (ops : Array Oper) (C : (Nat → Bool) → World → Prop) (o : Oper) (k : Nat) (v : Value) (a : Act) : Prop :=
 ∀ L w, L k = false → (∀ j, zaG md o j = true → L j = true) → C L w → (Region.wanted o (yielded ops a.tmps) = true ∧ za2 P o a v (C (onL L k)) w) ∨ (Region.wanted o (yielded ops a.tmps) = false ∧ v = undef ∧ C (onL L k) w)
def zfz (md : Region.Mode) (P : Program) (ops : Array Oper) (C : (Nat → Bool) → World → Prop) (Q : Act → Prop) : List Oper → Nat → Act → Prop
 | [], _, a => Q a
 | o :: rest, k, a => ∃ v, zkc md P ops C o k v a ∧ zfz md P ops C Q rest (k + 1) (a.put o.dst v)
theorem za4 {Q : Act → Prop} {o : Oper} {rest : List Oper} {k : Nat} {a : Act} {v : Value}
  (h1 : ∀ L w, L k = false → (∀ j, zaG md o j = true → L j = true) → C L w → (Region.wanted o (yielded ops a.tmps) = true ∧ za2 P o a v (C (onL L k)) w) ∨ (Region.wanted o (yielded ops a.tmps) = false ∧ v = undef ∧ C (onL L k) w))
  (h2 : zfz md P ops C Q rest (k + 1) (a.put o.dst v)) : zfz md P ops C Q (o :: rest) k a := ⟨v, h1, h2⟩
theorem zdR {Q : Act → Prop} {k : Nat} {a : Act} (h : Q a) : zfz md P ops C Q [] k a := h
def effB (md : Region.Mode) (ops : Array Oper) : Bool :=
 Region.noSelect ops && (List.range ops.size).all fun k => match ops[k]? with
  | none => true
  | some o => (o.after.all fun e => !Region.binds md e || decide (e.on < k)) && (List.range ops.size).all fun j => decide (j ≤ k) || (match ops[j]? with
   | none => true
   | some oj => (oj.after.any fun e => Region.binds md e && e.on == k) || o.apart ops oj)
theorem zcr (h : effB md ops = true) : Region.noSelect ops = true ∧ ∀ k o, ops[k]? = some o → (∀ e ∈ o.after, Region.binds md e = true → e.on < k) ∧
  ∀ j oj, k < j → ops[j]? = some oj → (∃ e ∈ oj.after, Region.binds md e = true ∧ e.on = k) ∨ o.apart ops oj = true := by
 unfold effB at h
 rw [Bool.and_eq_true] at h
 refine ⟨h.1, fun k o ho => ?_⟩
 have hk : k < ops.size := (Array.getElem?_eq_some_iff.1 ho).1
 have h1 := List.all_eq_true.1 h.2 k (List.mem_range.2 hk)
 rw [ho] at h1
 simp only [Bool.and_eq_true] at h1
 refine ⟨fun e he hb => ?_, fun j oj hj hoj => ?_⟩
 ·have h2 := Array.all_eq_true_iff_forall_mem.1 h1.1 e he
  rw [hb] at h2
  simpa using h2
 ·have hjn : j < ops.size := (Array.getElem?_eq_some_iff.1 hoj).1
  have h2 := List.all_eq_true.1 h1.2 j (List.mem_range.2 hjn)
  rw [hoj] at h2
  simp only [Bool.or_eq_true, decide_eq_true_eq] at h2
  rcases h2 with h2 | h2 | h2
  ·omega
  ·rw [← Array.any_toList, List.any_eq_true] at h2
   obtain ⟨e, he, h3⟩ := h2
   simp only [Bool.and_eq_true, beq_iff_eq] at h3
   exact .inl ⟨e, by simpa using he, h3.1, h3.2⟩
  ·exact .inr h2
def zbS (ops : Array Oper) (i : Nat) : Option Tmp := (ops[i]?).bind (·.dst)
def zaf (ops : Array Oper) (V : Nat → Value) (is : List Nat) (a : Act) : Act := is.foldl (fun a i => a.put (zbS ops i) (V i)) a
theorem zf8 (V : Nat → Value) (l m : List Nat) (a : Act) : zaf ops V (l ++ m) a = zaf ops V m (zaf ops V l a) := List.foldl_append
theorem zgy (a : Act) (t : Tmp) (d : Option Tmp) (v : Value) (h : ∀ d', d = some d' → d' ≠ t) : (a.put d v).tmps[t]? = a.tmps[t]? := by
 cases d with
 | none => rfl
 | some d => simp [Act.put, Array.getElem?_setIfInBounds_ne (h d rfl)]
theorem zkB (a b : Act) (t : Tmp) (d : Option Tmp) (v : Value) (h : a.tmps[t]? = b.tmps[t]?) : (a.put d v).tmps[t]? = (b.put d v).tmps[t]? := by
 cases d with
 | none => exact h
 | some d =>
  by_cases hdt : d = t
  ·subst hdt
   have hsz : d < a.tmps.size ↔ d < b.tmps.size := by
    constructor
    ·intro hl
     rcases Nat.lt_or_ge d b.tmps.size with h1 | h1
     ·exact h1
     ·rw [Array.getElem?_eq_none h1, Array.getElem?_eq_getElem hl] at h; cases h
    ·intro hl
     rcases Nat.lt_or_ge d a.tmps.size with h1 | h1
     ·exact h1
     ·rw [Array.getElem?_eq_none h1, Array.getElem?_eq_getElem hl] at h; cases h
   simp only [Act.put, Array.getElem?_setIfInBounds_self]
   by_cases hl : d < a.tmps.size
   ·rw [if_pos hl, if_pos (hsz.1 hl)]
   ·rw [if_neg hl, if_neg (fun h => hl (hsz.2 h))]
  ·have hne : ∀ d', some d = some d' → d' ≠ t := fun d' h1 h2 => hdt (by injection h1 with h1; rw [h1, h2])
   rw [zgy _ _ _ _ hne, zgy _ _ _ _ hne]
   exact h
theorem zkH (V : Nat → Value) (t : Tmp) (keep : Nat → Bool) (l : List Nat) (a b : Act) (hab : a.tmps[t]? = b.tmps[t]?) (h : ∀ i ∈ l, keep i = false → ∀ d, zbS ops i = some d → d ≠ t) :
  (zaf ops V l a).tmps[t]? = (zaf ops V (l.filter keep) b).tmps[t]? := by
 induction l generalizing a b with
 | nil => exact hab
 | cons i l ih =>
  cases hk : keep i with
  | true =>
   rw [List.filter_cons_of_pos hk]
   exact ih _ _ (zkB a b t _ _ hab) (fun j hj => h j (by simp [hj]))
  | false =>
   rw [List.filter_cons_of_neg (by simp [hk])]
   exact ih _ _ ((zgy _ _ _ _ (h i (by simp) hk)).trans hab) (fun j hj => h j (by simp [hj]))
theorem zfe (V : Nat → Value) (o : Oper) (hsel : ∀ cs b, o.op ≠ .select cs b) (keep : Nat → Bool) (l : List Nat) (a : Act) (h : ∀ i ∈ l, keep i = false → ∀ d, zbS ops i = some d → d ∉ o.looksAt ops) :
  execOp (zaf ops V l a).eval o = execOp (zaf ops V (l.filter keep) a).eval o ∧ Region.wanted o (yielded ops (zaf ops V l a).tmps) = Region.wanted o (yielded ops (zaf ops V (l.filter keep) a).tmps) := by
 have hev : ∀ t, t ∈ o.looksAt ops → (zaf ops V l a).tmps[t]? = (zaf ops V (l.filter keep) a).tmps[t]? := fun t ht =>
  zkH V t keep l a a rfl fun i hi hk d hd e => h i hi hk d hd (by rw [e]; exact ht)
 refine ⟨execOp_congr o hsel fun x hx => ?_, ?_⟩
 ·cases x with
  | tmp t =>
   have := hev t (List.mem_append_left _ (List.mem_filterMap.2 ⟨.tmp t, by simpa using hx, rfl⟩))
   simp only [Act.eval, Array.getD_eq_getD_getElem?, this]
  | _ => rfl
 ·unfold Region.wanted
  cases hg : o.guard with
  | none => rfl
  | some gw =>
   obtain ⟨g, want⟩ := gw
   have hy : yielded ops (zaf ops V l a).tmps g = yielded ops (zaf ops V (l.filter keep) a).tmps g := by
    unfold yielded
    cases ht : (ops[g]?).bind (·.dst) with
    | none => rfl
    | some t =>
     have := hev t (by simp [Oper.looksAt, hg, ht])
     simp only [Option.bind_some, this]
   simp only [hy]
theorem zhZ {Q : Act → Prop} (l : List Oper) (k : Nat) (a : Act) (hl : ∀ j, l[j]? = ops[k + j]?) (h : zfz md P ops C Q l k a) :
  ∃ V : Nat → Value, (∀ j o, l[j]? = some o → zkc md P ops C o (k + j) (V (k + j)) (zaf ops V (List.range' k j) a)) ∧ Q (zaf ops V (List.range' k l.length) a) := by
 induction l generalizing k a with
 | nil => exact ⟨fun _ => undef, fun j o hj => (by simp at hj), h⟩
 | cons o l ih =>
  obtain ⟨v, he, hr⟩ := h
  obtain ⟨V, h1, h2⟩ := ih (k + 1) _ (fun j => by have := hl (j + 1); simpa [Nat.add_assoc, Nat.add_comm 1 j] using this) hr
  have hd : zbS ops k = o.dst := by
   have := hl 0
   simp at this
   simp [zbS, ← this]
  have hV : ∀ (m : List Nat) (b : Act), (∀ i ∈ m, k < i) → zaf ops (fun i => if i = k then v else V i) m b = zaf ops V m b := by
   intro m
   induction m with
   | nil => intro b _; rfl
   | cons i m ihm =>
    intro b hm
    show zaf ops _ m (b.put _ _) = zaf ops V m (b.put _ _)
    have hik : i ≠ k := by have := hm i (by simp); omega
    simp only [if_neg hik]
    exact ihm _ fun j hj => hm j (by simp [hj])
  have hF : ∀ j, zaf ops (fun i => if i = k then v else V i) (List.range' k (j + 1)) a = zaf ops V (List.range' (k + 1) j) (a.put o.dst v) := fun j => by
   rw [List.range'_succ]
   show zaf ops _ (List.range' (k + 1) j) (a.put (zbS ops k) (if k = k then v else V k)) = _
   rw [if_pos rfl, hd]
   exact hV _ _ fun i hi => by have := (List.mem_range'_1.1 hi).1; omega
  refine ⟨fun i => if i = k then v else V i, fun j o' hj => ?_, ?_⟩
  ·cases j with
   | zero =>
    simp at hj
    subst hj
    simpa [zaf] using he
   | succ j =>
    have hj' : l[j]? = some o' := by simpa using hj
    have := h1 j o' hj'
    rw [hF j]
    have e : k + (j + 1) = k + 1 + j := by omega
    simp only [e]
    rw [if_neg (by omega)]
    exact this
  ·rw [List.length_cons, hF]
   exact h2
def Lof (listed : Array Bool) : Nat → Bool := fun j => listed.getD j false
theorem zeK {listed : Array Bool} {i : Nat} (hi : i < listed.size) : Lof (listed.setIfInBounds i true) = onL (Lof listed) i := by
 funext j
 unfold Lof onL
 by_cases h : j = i
 ·subst h; simp [hi]
 ·rw [if_neg h, getD_set_ne false (Ne.symm h)]
structure zcB (ops : Array Oper) (md : Region.Mode) (C : (Nat → Bool) → World → Prop) (V : Nat → Value) (a0 : Act) (fuel : Nat) (listed : Array Bool) (a : Act) (w : World) : Prop where
 size : listed.size = ops.size
 down : ∀ j o, ops[j]? = some o → Lof listed j = true → ∀ e ∈ o.after, Region.binds md e = true → Lof listed e.on = true
 frame : a = zaf ops V ((List.range' 0 ops.size).filter (Lof listed)) a0
 cls : C (Lof listed) w
 cnt : fuel = ((List.range' 0 ops.size).filter (fun j => !Lof listed j)).length
theorem zfW (n i : Nat) (h : i < n) : List.range' 0 n = List.range' 0 i ++ i :: List.range' (i + 1) (n - i - 1) := by
 have e : n = i + ((n - i - 1) + 1) := by omega
 conv => lhs; rw [e]
 rw [← List.range'_append_1, Nat.zero_add, List.range'_succ]
theorem ze8 {listed : Array Bool} {j : Nat} (h : Lof listed j = true) : j < listed.size := by
 unfold Lof at h
 rcases Nat.lt_or_ge j listed.size with h1 | h1
 ·exact h1
 ·simp [h1] at h
theorem zbV {listed : Array Bool} {j : Nat} (h : listed.getD j true = false) : j < listed.size ∧ Lof listed j = false := by
 unfold Lof
 rcases Nat.lt_or_ge j listed.size with h1 | h1
 ·refine ⟨h1, ?_⟩
  simp [h1] at h ⊢
  exact h
 ·simp [h1] at h
theorem zeG {listed : Array Bool} {j : Nat} (hj : j < listed.size) (h : Lof listed j = false) : listed.getD j true = false := by
 unfold Lof at h
 simp [hj] at h ⊢
 exact h
theorem zgp {L : Nat → Bool} {i : Nat} (l : List Nat) (h : ∀ j ∈ l, j ≠ i) : l.filter (onL L i) = l.filter L :=
 List.filter_congr fun j hj => by unfold onL; rw [if_neg (h j hj)]
theorem ziS (V : Nat → Value) (d : Option Tmp) (v : Value) (l : List Nat) (x : Act) (h : ∀ b ∈ l, ∀ t, d = some t → zbS ops b ≠ some t) : (zaf ops V l x).put d v = zaf ops V l (x.put d v) := by
 induction l generalizing x with
 | nil => rfl
 | cons b l ih =>
  show (zaf ops V l (x.put (zbS ops b) (V b))).put d v = zaf ops V l ((x.put d v).put (zbS ops b) (V b))
  rw [ih _ (fun c hc => h c (by simp [hc])), Act.put_comm x v (V b) (h b (by simp))]
theorem ze1 {i : Nat} {o : Oper} (h : ops[i]? = some o) : zbS ops i = o.dst := by simp [zbS, h]
theorem zcB.step {V : Nat → Value} {a0 : Act} {fuel : Nat} {listed : Array Bool} {a : Act} {w w' : World} (hB : effB md ops = true) (h : zcB ops md C V a0 (fuel + 1) listed a w) {i : Nat} {o : Oper} (hi : ops[i]? = some o)
  (hr : i ∈ Region.ready md ops listed) (hc : C (onL (Lof listed) i) w') : zcB ops md C V a0 fuel (listed.setIfInBounds i true) (a.put o.dst (V i)) w' := by
 have hin : i < ops.size := (Array.getElem?_eq_some_iff.1 hi).1
 obtain ⟨h0, o', ho', hall⟩ := mem_ready.1 hr
 obtain rfl : o' = o := by rw [hi] at ho'; injection ho' with ho'; exact ho'.symm
 have hiL := (zbV h0).2
 have hset := zeK (listed := listed) (i := i) (by rw [h.size]; exact hin)
 have hsp := zfW ops.size i hin
 have hlo : ∀ j ∈ List.range' 0 i, j ≠ i := fun j hj => by have := (List.mem_range'_1.1 hj).2; omega
 have hhi : ∀ j ∈ List.range' (i + 1) (ops.size - i - 1), j ≠ i := fun j hj => by have := (List.mem_range'_1.1 hj).1; omega
 refine ⟨by simpa using h.size, fun j oj hj hjl e he hb => ?_, ?_, by rw [hset]; exact hc, ?_⟩
 ·rw [hset] at hjl ⊢
  unfold onL at hjl ⊢
  split
  ·rfl
  ·by_cases hji : j = i
   ·subst hji
    rw [hj] at hi
    injection hi with hi
    subst hi
    exact hall e he hb
   ·rw [if_neg hji] at hjl
    exact h.down j oj hj hjl e he hb
 ·rw [hset, hsp, List.filter_append, zgp _ hlo, List.filter_cons_of_pos (by simp [onL]), zgp _ hhi, h.frame, hsp, List.filter_append, List.filter_cons_of_neg (by simp [hiL]), zf8, zf8]
  have hcm := ziS (ops := ops) V o'.dst (V i) ((List.range' (i + 1) (ops.size - i - 1)).filter (Lof listed)) (zaf ops V ((List.range' 0 i).filter (Lof listed)) a0) (fun b hb t ht => by
   obtain ⟨hb1, hb2⟩ := List.mem_filter.1 hb
   have hbi := (List.mem_range'_1.1 hb1).1
   have hbn : b < ops.size := by rw [← h.size]; exact ze8 hb2
   obtain ⟨ob, hob⟩ : ∃ ob, ops[b]? = some ob := ⟨_, Array.getElem?_eq_getElem hbn⟩
   rw [ze1 hob]
   rcases ((zcr hB).2 i _ hi).2 b ob (by omega) hob with ⟨e, he, h1, h2⟩ | hap
   ·have := h.down b ob hob hb2 e he h1
    rw [h2, hiL] at this
    cases this
   ·exact (Oper.apart_spec hap).2.1 t ht)
  rw [hcm]
  show _ = zaf ops V _ ((zaf ops V _ a0).put (zbS ops i) (V i))
  rw [ze1 hi]
 ·have h1 := h.cnt
  have e1 : (List.range' 0 ops.size).filter (fun j => !Lof listed j) = (List.range' 0 i).filter (fun j => !Lof listed j) ++ i :: (List.range' (i + 1) (ops.size - i - 1)).filter (fun j => !Lof listed j) := by
   rw [hsp, List.filter_append, List.filter_cons_of_pos (by simp [hiL])]
  have e2 : (List.range' 0 ops.size).filter (fun j => !Lof (listed.setIfInBounds i true) j) = (List.range' 0 i).filter (fun j => !Lof listed j) ++ (List.range' (i + 1) (ops.size - i - 1)).filter (fun j => !Lof listed j) := by
   rw [hset, hsp, List.filter_append, List.filter_cons_of_neg (by simp [onL])]
   congr 1
   ·exact List.filter_congr fun j hj => by unfold onL; rw [if_neg (hlo j hj)]
   ·exact List.filter_congr fun j hj => by unfold onL; rw [if_neg (hhi j hj)]
  rw [e1, List.length_append, List.length_cons] at h1
  rw [e2, List.length_append]
  omega
theorem zcB.looks {V : Nat → Value} {a0 : Act} {fuel : Nat} {listed : Array Bool} {a : Act} {w : World} (hB : effB md ops = true) (h : zcB ops md C V a0 fuel listed a w) {i : Nat} {o : Oper} (hi : ops[i]? = some o)
  (hr : i ∈ Region.ready md ops listed) : execOp a.eval o = execOp (zaf ops V (List.range' 0 i) a0).eval o ∧ Region.wanted o (yielded ops a.tmps) = Region.wanted o (yielded ops (zaf ops V (List.range' 0 i) a0).tmps) := by
 have hin : i < ops.size := (Array.getElem?_eq_some_iff.1 hi).1
 obtain ⟨h0, o', ho', hall⟩ := mem_ready.1 hr
 obtain rfl : o' = o := by rw [hi] at ho'; injection ho' with ho'; exact ho'.symm
 have hiL := (zbV h0).2
 have hsel : ∀ cs b, o'.op ≠ .select cs b := fun cs b => Region.noSelect_spec (zcr hB).1 i o' cs b hi
 have k1 := zfe (ops := ops) V o' hsel (fun j => decide (j < i)) ((List.range' 0 ops.size).filter (Lof listed)) a0 (fun b hb hk d hd => by
  obtain ⟨hb1, hb2⟩ := List.mem_filter.1 hb
  have hbn : b < ops.size := by rw [← h.size]; exact ze8 hb2
  obtain ⟨ob, hob⟩ : ∃ ob, ops[b]? = some ob := ⟨_, Array.getElem?_eq_getElem hbn⟩
  have hbi : i < b := by
   have h1 : ¬ b < i := by simpa using hk
   have h2 : b ≠ i := fun e => by rw [e, hiL] at hb2; cases hb2
   omega
  rw [ze1 hob] at hd
  rcases ((zcr hB).2 i _ hi).2 b ob hbi hob with ⟨e, he, h1, h2⟩ | hap
  ·have := h.down b ob hob hb2 e he h1
   rw [h2, hiL] at this
   cases this
  ·exact (Oper.apart_spec hap).2.2 d hd)
 have k2 := zfe (ops := ops) V o' hsel (Lof listed) (List.range' 0 i) a0 (fun b hb hk d hd => by
  have hbi := (List.mem_range'_1.1 hb).2
  have hbn : b < ops.size := by omega
  obtain ⟨ob, hob⟩ : ∃ ob, ops[b]? = some ob := ⟨_, Array.getElem?_eq_getElem hbn⟩
  rw [ze1 hob] at hd
  rcases ((zcr hB).2 b ob hob).2 i _ (by omega) hi with ⟨e, he, h1, h2⟩ | hap
  ·have := hall e he h1
   rw [h2] at this
   unfold Lof at hk
   rw [hk] at this
   cases this
  ·exact (Oper.apart_spec hap).1 d hd)
 have e : ((List.range' 0 ops.size).filter (Lof listed)).filter (fun j => decide (j < i)) = (List.range' 0 i).filter (Lof listed) := by
  rw [zfW ops.size i hin, List.filter_append, List.filter_append, List.filter_cons_of_neg (by simp [hiL])]
  have z1 : ((List.range' 0 i).filter (Lof listed)).filter (fun j => decide (j < i)) = (List.range' 0 i).filter (Lof listed) :=
   List.filter_eq_self.2 fun j hj => by
    have := (List.mem_range'_1.1 (List.mem_filter.1 hj).1).2
    exact decide_eq_true (by omega)
  have z2 : ((List.range' (i + 1) (ops.size - i - 1)).filter (Lof listed)).filter (fun j => decide (j < i)) = [] :=
   List.filter_eq_nil_iff.2 fun j hj => by
    have := (List.mem_range'_1.1 (List.mem_filter.1 hj).1).1
    simp; omega
  rw [z1, z2, List.append_nil]
 rw [e] at k1
 rw [h.frame]
 exact ⟨k1.1.trans k2.1.symm, k1.2.trans k2.2.symm⟩
theorem zkG {V : Nat → Value} {a0 : Act} {Q : Exit → Act → World → Prop} (hB : effB md ops = true) (hV : ∀ j o, ops[j]? = some o → zkc md P ops C o j (V j) (zaf ops V (List.range' 0 j) a0))
  (hQ : ∀ w, C (fun j => decide (j < ops.size)) w → Q .normal (zaf ops V (List.range' 0 ops.size) a0) w) (fuel : Nat) (listed : Array Bool) (a : Act) (w : World) (h : zcB ops md C V a0 fuel listed a w) : wpAny P md ops Q fuel listed a w := by
 induction fuel generalizing listed a w with
 | zero =>
  have hnil := List.eq_nil_of_length_eq_zero h.cnt.symm
  have hal : ∀ j, j < ops.size → Lof listed j = true := fun j hj => by
   have := List.filter_eq_nil_iff.1 hnil j (List.mem_range'_1.2 ⟨by omega, by omega⟩)
   simpa using this
  have hLe : Lof listed = fun j => decide (j < ops.size) := by
   funext j
   by_cases hj : j < ops.size
   ·rw [hal j hj, decide_eq_true hj]
   ·rw [decide_eq_false hj]
    cases hx : Lof listed j with
    | false => rfl
    | true => exact absurd (h.size ▸ ze8 hx) hj
  refine ⟨?_, ?_⟩
  ·refine List.eq_nil_iff_forall_not_mem.2 fun i hi => ?_
   obtain ⟨h0, _⟩ := mem_ready.1 hi
   obtain ⟨h1, h2⟩ := zbV h0
   rw [hal i (h.size ▸ h1)] at h2
   cases h2
  ·have hf := h.frame
   rw [List.filter_eq_self.2 (fun j hj => hal j (by have := (List.mem_range'_1.1 hj).2; omega))] at hf
   rw [hf]
   exact hQ w (hLe ▸ h.cls)
 | succ fuel ih =>
  refine ⟨fun hnil => ?_, fun i hi => ?_⟩
  ·exfalso
   have hal : ∀ k, k ≤ ops.size → ∀ j, j < k → Lof listed j = true := by
    intro k
    induction k with
    | zero => intro _ j hj; omega
    | succ k ihk =>
     intro hk j hj
     by_cases hjk : j < k
     ·exact ihk (by omega) j hjk
     ·obtain rfl : j = k := by omega
      cases hx : Lof listed j with
      | true => rfl
      | false =>
       exfalso
       obtain ⟨o, ho⟩ : ∃ o, ops[j]? = some o := ⟨_, Array.getElem?_eq_getElem (by omega)⟩
       have : j ∈ Region.ready md ops listed := mem_ready.2 ⟨zeG (by rw [h.size]; omega) hx, o, ho, fun e he hb => ihk (by omega) e.on (((zcr hB).2 j o ho).1 e he hb)⟩
       rw [hnil] at this
       cases this
   have := h.cnt
   rw [List.filter_eq_nil_iff.2 (fun j hj => by rw [hal ops.size (Nat.le_refl _) j (by have := (List.mem_range'_1.1 hj).2; omega)]; simp)] at this
   simp at this
  ·obtain ⟨h0, o, ho, hal⟩ := mem_ready.1 hi
   obtain ⟨hex, hwa⟩ := h.looks hB ho hi
   have hE := hV i o ho (Lof listed) w (zbV h0).2 (fun j hj => by
    unfold zaG at hj
    rw [← Array.any_toList, List.any_eq_true] at hj
    obtain ⟨e, he, h3⟩ := hj
    simp only [Bool.and_eq_true, beq_iff_eq] at h3
    rw [← h3.2]
    exact hal e (by simpa using he) h3.1) h.cls
   unfold wpOp
   simp only [ho]
   rw [hwa]
   rcases hE with ⟨hw, hE⟩ | ⟨hw, hv, hE⟩
   ·simp only [hw, if_true]
    refine .inl ?_
    unfold za2 at hE
    unfold Oper.wp
    rw [hex]
    generalize (execOp (zaf ops V (List.range' 0 i) a0).eval o).run P w = r at hE ⊢
    cases r with
    | ok n w' =>
     cases n <;> simp only [zco] at hE <;> simp only [Oper.upon]
     case value u =>
      obtain ⟨e1, e2⟩ := hE
      rw [e1]
      exact ih _ _ _ (h.step hB ho hi e2)
     case skip =>
      obtain ⟨e1, e2⟩ := hE
      rw [← e1]
      exact ih _ _ _ (h.step hB ho hi e2)
     case enter f args =>
      exact hE.mono fun e w'' ⟨he, hw''⟩ => by subst he; exact ih _ _ _ (h.step hB ho hi hw'')
    | halt x w' => simp only [zco] at hE
   ·simp only [hw, Bool.false_eq_true, if_false]
    rw [← hv]
    exact ih _ _ _ (h.step hB ho hi hE)
theorem zcL {id : Nat} {Q : Exit → Act → World → Prop} {a : Act} {w : World} {l : List Oper} (C : (Nat → Bool) → World → Prop) (hm : P.follows .mixedOrders = true) (hB : effB .any l.toArray = true) (hC : C (fun _ => false) w.drew)
  (h : zfz .any P l.toArray C (fun a' => ∀ w', C (fun j => decide (j < l.length)) w' → Q .normal a' w') l 0 a) : (Code.region id l.toArray true).wp P Q a w := by
 obtain ⟨V, h1, h2⟩ := zhZ l 0 a (fun j => by simp) h
 refine wp_region_any hm ?_
 have hL0 : Lof (Array.replicate l.toArray.size false) = fun _ => false := by
  funext j
  unfold Lof
  by_cases hj : j < l.length
  ·simp [hj]
  ·simp [Nat.le_of_not_lt hj]
 refine zkG (V := V) (a0 := a) hB (fun j o hj => ?_) (fun w' hw' => ?_) _ _ _ w.drew ⟨by simp, fun j o _ hj => (by rw [hL0] at hj; cases hj), ?_, by rw [hL0]; exact hC, ?_⟩
 ·have := h1 j o (by simpa using hj)
  simpa using this
 ·have := h2 w' (by simpa using hw')
  simpa using this
 ·rw [hL0, List.filter_eq_nil_iff.2 (fun j _ => by simp)]; rfl
 ·rw [hL0, List.filter_eq_self.2 (fun j _ => by simp)]; simp
end
open Go Go.RowKit
abbrev Bk := Nat → Nat × Option Addr
section
variable {P : Program} {ops : Array Oper} {md : Region.Mode} {C : (Nat → Bool) → Bk → World → Prop}
def updB (B : Bk) (k : Nat) (b : Nat × Option Addr) : Bk := fun j => if j = k then b else B j
theorem zcE (B : Bk) (k : Nat) : updB B k (B k) = B := by
 funext j
 unfold updB
 by_cases h : j = k
 ·rw [if_pos h, h]
 ·rw [if_neg h]
theorem zj5 (B : Bk) (k : Nat) (b : Nat × Option Addr) : updB B k b k = b := if_pos rfl
def ze4 (md : Region.Mode) (ops : Array Oper) : Nat → Nat → Nat → Bool
 | 0, k, j => k == j
 | f + 1, k, j => k == j || (match ops[k]? with
  | none => false
  | some o => o.after.any fun e => Region.binds md e && ze4 md ops f e.on j)
abbrev zfK : Nat := 3
def ze9 (P : Program) (K : Nat × Option Addr → World → Prop) (vf : Nat × Option Addr → Value) : Result Next → Prop
 | .ok (.value u) w' => ∃ b, u = vf b ∧ K b w'
 | .ok .skip w' => ∃ b, vf b = undef ∧ K b w'
 | .ok (.enter f args) w' => Calls P f args w' (fun e w'' => ∃ b, e = .returned (vf b) ∧ K b w'')
 | _ => False
def zc2 (P : Program) (o : Oper) (a : Act) (vf : Nat × Option Addr → Value) (K : Nat × Option Addr → World → Prop) (w : World) : Prop := ze9 P K vf ((execOp a.eval o).run P w)
def ziu (md : Region.Mode) (P : Program) (ops : Array Oper) (C : (Nat → Bool) → Bk → World → Prop) (o : Oper) (k : Nat) (vf : Bk → Value) (a : Act) (B : Bk) : Prop :=
 ∀ L w, L k = false → (∀ j, zaG md o j = true → L j = true) → C L B w → (Region.wanted o (yielded ops a.tmps) = true ∧ zc2 P o a (fun b => vf (updB B k b)) (fun b w' => C (onL L k) (updB B k b) w') w) ∨ (Region.wanted o (yielded ops a.tmps) = false ∧ ∃ b, vf (updB B k b) = undef ∧ C (onL L k) (updB B k b) w)
def zdx (md : Region.Mode) (ops : Array Oper) (k : Nat) (vf : Bk → Value) : Prop := ∀ B B' : Bk, (∀ j, ze4 md ops zfK k j = true → B j = B' j) → vf B = vf B'
def zd8 (md : Region.Mode) (P : Program) (ops : Array Oper) (C : (Nat → Bool) → Bk → World → Prop) (Q : Bk → Act → Prop) : List Oper → Nat → (Bk → Act) → Prop
 | [], _, a => ∀ B, Q B (a B)
 | o :: rest, k, a => ∃ vf : Bk → Value, zdx md ops k vf ∧ (∀ B, ziu md P ops C o k vf (a B) B) ∧ zd8 md P ops C Q rest (k + 1) (fun B => (a B).put o.dst (vf B))
theorem zgU {K : World → Prop} {K' : Nat × Option Addr → World → Prop} {v : Value} {vf : Nat × Option Addr → Value} {b : Nat × Option Addr} (hv : vf b = v) (hK : ∀ w, K w → K' b w) {r : Result Next} (h : zco P K v r) : ze9 P K' vf r := by
 cases r with
 | ok n w' =>
  cases n <;> simp only [zco, ze9] at h ⊢
  case value u => exact ⟨b, by rw [hv]; exact h.1, hK _ h.2⟩
  case skip => exact ⟨b, by rw [hv]; exact h.1, hK _ h.2⟩
  case enter f args => exact h.mono fun e w'' ⟨he, hw⟩ => ⟨b, by rw [hv]; exact he, hK _ hw⟩
 | halt x w' => simp only [zco] at h
theorem zf2 {Q : Bk → Act → Prop} {o : Oper} {rest : List Oper} {k : Nat} {a : Bk → Act} (vf : Bk → Value) (hd : zdx md ops k vf)
  (h1 : ∀ B L w, L k = false → (∀ j, zaG md o j = true → L j = true) → C L B w → (Region.wanted o (yielded ops (a B).tmps) = true ∧ za2 P o (a B) (vf B) (C (onL L k) B) w) ∨ (Region.wanted o (yielded ops (a B).tmps) = false ∧ vf B = undef ∧ C (onL L k) B w))
  (h2 : zd8 md P ops C Q rest (k + 1) (fun B => (a B).put o.dst (vf B))) : zd8 md P ops C Q (o :: rest) k a := by
 refine ⟨vf, hd, fun B L w hL hD hC => ?_, h2⟩
 rcases h1 B L w hL hD hC with ⟨hw, he⟩ | ⟨hw, hv, hc⟩
 ·refine .inl ⟨hw, zgU (b := B k) (by show vf _ = _; rw [zcE]) (fun w h => ?_) he⟩
  rw [zcE]
  exact h
 ·refine .inr ⟨hw, B k, by rw [zcE]; exact hv, ?_⟩
  rw [zcE]
  exact hc
theorem za6 {Q : Bk → Act → Prop} {o : Oper} {rest : List Oper} {k : Nat} {a : Bk → Act} {v : Value}
  (h1 : ∀ B L w, L k = false → (∀ j, zaG md o j = true → L j = true) → C L B w → (Region.wanted o (yielded ops (a B).tmps) = true ∧ za2 P o (a B) v (C (onL L k) B) w) ∨ (Region.wanted o (yielded ops (a B).tmps) = false ∧ v = undef ∧ C (onL L k) B w))
  (h2 : zd8 md P ops C Q rest (k + 1) (fun B => (a B).put o.dst v)) : zd8 md P ops C Q (o :: rest) k a :=
 zf2 (fun _ => v) (fun _ _ _ => rfl) h1 h2
theorem zaT {Q : Bk → Act → Prop} {o : Oper} {rest : List Oper} {k : Nat} {a : Bk → Act} (vf : Nat × Option Addr → Value)
  (h1 : ∀ B L w, L k = false → (∀ j, zaG md o j = true → L j = true) → C L B w → (Region.wanted o (yielded ops (a B).tmps) = true ∧ zc2 P o (a B) vf (fun b w' => C (onL L k) (updB B k b) w') w) ∨ (Region.wanted o (yielded ops (a B).tmps) = false ∧ ∃ b, vf b = undef ∧ C (onL L k) (updB B k b) w))
  (h2 : zd8 md P ops C Q rest (k + 1) (fun B => (a B).put o.dst (vf (B k)))) : zd8 md P ops C Q (o :: rest) k a := by
 refine ⟨fun B => vf (B k), fun B B' h => by show vf _ = vf _; rw [h k (by simp [ze4])], fun B L w hL hD hC => ?_, h2⟩
 have := h1 B L w hL hD hC
 simpa only [zj5] using this
theorem zdz {Q : Bk → Act → Prop} {k : Nat} {a : Bk → Act} (h : ∀ B, Q B (a B)) : zd8 md P ops C Q [] k a := h
theorem zdD (V V' : Nat → Value) (m : List Nat) (b : Act) (h : ∀ i ∈ m, V i = V' i) : zaf ops V m b = zaf ops V' m b := by
 induction m generalizing b with
 | nil => rfl
 | cons i m ihm =>
  show zaf ops V m (b.put _ _) = zaf ops V' m (b.put _ _)
  rw [h i (by simp)]
  exact ihm _ fun j hj => h j (by simp [hj])
theorem zhI {Q : Bk → Act → Prop} (l : List Oper) (k : Nat) (a : Bk → Act) (hl : ∀ j, l[j]? = ops[k + j]?) (h : zd8 md P ops C Q l k a) :
  ∃ vf : Nat → Bk → Value, (∀ j, zdx md ops j (vf j)) ∧ (∀ j o, l[j]? = some o → ∀ B, ziu md P ops C o (k + j) (vf (k + j)) (zaf ops (fun j => vf j B) (List.range' k j) (a B)) B) ∧ ∀ B, Q B (zaf ops (fun j => vf j B) (List.range' k l.length) (a B)) := by
 induction l generalizing k a with
 | nil => exact ⟨fun _ _ => undef, fun _ _ _ _ => rfl, fun j o hj => (by simp at hj), fun B => h B⟩
 | cons o l ih =>
  obtain ⟨v, hdp, he, hr⟩ := h
  obtain ⟨V, h0, h1, h2⟩ := ih (k + 1) _ (fun j => by have := hl (j + 1); simpa [Nat.add_assoc, Nat.add_comm 1 j] using this) hr
  have hd : zbS ops k = o.dst := by
   have := hl 0
   simp at this
   simp [zbS, ← this]
  have hF : ∀ B j, zaf ops (fun i => (if i = k then v else V i) B) (List.range' k (j + 1)) (a B) = zaf ops (fun i => V i B) (List.range' (k + 1) j) ((a B).put o.dst (v B)) := fun B j => by
   rw [List.range'_succ]
   show zaf ops _ (List.range' (k + 1) j) ((a B).put (zbS ops k) ((if k = k then v else V k) B)) = _
   rw [if_pos rfl, hd]
   refine zdD _ _ _ _ fun i hi => ?_
   have := (List.mem_range'_1.1 hi).1
   show (if i = k then v else V i) B = V i B
   rw [if_neg (by omega)]
  refine ⟨fun i => if i = k then v else V i, fun j => ?_, fun j o' hj B => ?_, fun B => ?_⟩
  ·show zdx md ops j (if j = k then v else V j)
   by_cases hjk : j = k
   ·rw [if_pos hjk, hjk]; exact hdp
   ·rw [if_neg hjk]; exact h0 j
  ·cases j with
   | zero =>
    simp at hj
    subst hj
    simpa [zaf] using he B
   | succ j =>
    have hj' : l[j]? = some o' := by simpa using hj
    have := h1 j o' hj' B
    rw [hF B j]
    have e : k + (j + 1) = k + 1 + j := by omega
    simp only [e]
    rw [if_neg (by omega)]
    exact this
  ·rw [List.length_cons, hF]
   exact h2 B
theorem zdw {listed : Array Bool} (hdn : ∀ j o, ops[j]? = some o → Lof listed j = true → ∀ e ∈ o.after, Region.binds md e = true → Lof listed e.on = true) (f k j : Nat) (hk : Lof listed k = true) (h : ze4 md ops f k j = true) : Lof listed j = true := by
 induction f generalizing k with
 | zero =>
  unfold ze4 at h
  rw [beq_iff_eq] at h
  rw [← h]
  exact hk
 | succ f ih =>
  unfold ze4 at h
  rw [Bool.or_eq_true, beq_iff_eq] at h
  rcases h with h | h
  ·rw [← h]
   exact hk
  ·cases ho : ops[k]? with
   | none => rw [ho] at h; cases h
   | some o =>
    rw [ho] at h
    simp only at h
    rw [← Array.any_toList, List.any_eq_true] at h
    obtain ⟨e, he, h3⟩ := h
    rw [Bool.and_eq_true] at h3
    exact ih e.on (hdn k o ho hk e (by simpa using he) h3.1) h3.2
theorem zcB.congrV {V V' : Nat → Value} {a0 : Act} {fuel : Nat} {listed : Array Bool} {a : Act} {w : World} (h : zcB ops md (fun _ _ => True) V a0 fuel listed a w) (hV : ∀ j, Lof listed j = true → V j = V' j) : zcB ops md (fun _ _ => True) V' a0 fuel listed a w :=
 ⟨h.size, h.down, by rw [h.frame]; exact zdD _ _ _ _ fun i hi => hV i (List.mem_filter.1 hi).2, trivial, h.cnt⟩
theorem zjp {vf : Nat → Bk → Value} {a0 : Act} {Q : Exit → Act → World → Prop} (hB : effB md ops = true) (hd : ∀ j, zdx md ops j (vf j)) (hV : ∀ j o, ops[j]? = some o → ∀ B, ziu md P ops C o j (vf j) (zaf ops (fun j => vf j B) (List.range' 0 j) a0) B)
  (hQ : ∀ B w, C (fun j => decide (j < ops.size)) B w → Q .normal (zaf ops (fun j => vf j B) (List.range' 0 ops.size) a0) w) (fuel : Nat) (listed : Array Bool) (a : Act) (w : World) (B : Bk) (h : zcB ops md (fun _ _ => True) (fun j => vf j B) a0 fuel listed a w) (hc : C (Lof listed) B w) : wpAny P md ops Q fuel listed a w := by
 induction fuel generalizing listed a w B with
 | zero =>
  have hnil := List.eq_nil_of_length_eq_zero h.cnt.symm
  have hal : ∀ j, j < ops.size → Lof listed j = true := fun j hj => by
   have := List.filter_eq_nil_iff.1 hnil j (List.mem_range'_1.2 ⟨by omega, by omega⟩)
   simpa using this
  have hLe : Lof listed = fun j => decide (j < ops.size) := by
   funext j
   by_cases hj : j < ops.size
   ·rw [hal j hj, decide_eq_true hj]
   ·rw [decide_eq_false hj]
    cases hx : Lof listed j with
    | false => rfl
    | true => exact absurd (h.size ▸ ze8 hx) hj
  refine ⟨?_, ?_⟩
  ·refine List.eq_nil_iff_forall_not_mem.2 fun i hi => ?_
   obtain ⟨h0, _⟩ := mem_ready.1 hi
   obtain ⟨h1, h2⟩ := zbV h0
   rw [hal i (h.size ▸ h1)] at h2
   cases h2
  ·have hf := h.frame
   rw [List.filter_eq_self.2 (fun j hj => hal j (by have := (List.mem_range'_1.1 hj).2; omega))] at hf
   rw [hf]
   exact hQ B w (hLe ▸ hc)
 | succ fuel ih =>
  refine ⟨fun hnil => ?_, fun i hi => ?_⟩
  ·exfalso
   have hal : ∀ k, k ≤ ops.size → ∀ j, j < k → Lof listed j = true := by
    intro k
    induction k with
    | zero => intro _ j hj; omega
    | succ k ihk =>
     intro hk j hj
     by_cases hjk : j < k
     ·exact ihk (by omega) j hjk
     ·obtain rfl : j = k := by omega
      cases hx : Lof listed j with
      | true => rfl
      | false =>
       exfalso
       obtain ⟨o, ho⟩ : ∃ o, ops[j]? = some o := ⟨_, Array.getElem?_eq_getElem (by omega)⟩
       have : j ∈ Region.ready md ops listed := mem_ready.2 ⟨zeG (by rw [h.size]; omega) hx, o, ho, fun e he hb => ihk (by omega) e.on (((zcr hB).2 j o ho).1 e he hb)⟩
       rw [hnil] at this
       cases this
   have := h.cnt
   rw [List.filter_eq_nil_iff.2 (fun j hj => by rw [hal ops.size (Nat.le_refl _) j (by have := (List.mem_range'_1.1 hj).2; omega)]; simp)] at this
   simp at this
  ·obtain ⟨h0, o, ho, hal⟩ := mem_ready.1 hi
   obtain ⟨hex, hwa⟩ := h.looks hB ho hi
   have hiL := (zbV h0).2
   have stepE : ∀ b w', C (onL (Lof listed) i) (updB B i b) w' → wpAny P md ops Q fuel (listed.setIfInBounds i true) (a.put o.dst (vf i (updB B i b))) w' := fun b w' hc' => by
    have h' := h.congrV (V' := fun j => vf j (updB B i b)) (fun j hj => hd j _ _ fun j' hj' => by
     have := zdw h.down zfK j j' hj hj'
     unfold updB
     rw [if_neg (fun e => by rw [e, hiL] at this; cases this)])
    have h2 := h'.step hB ho hi (w' := w') trivial
    exact ih _ _ _ (updB B i b) h2 (by rw [zeK (by rw [h.size]; exact (Array.getElem?_eq_some_iff.1 ho).1)]; exact hc')
   have hE := hV i o ho B (Lof listed) w (zbV h0).2 (fun j hj => by
    unfold zaG at hj
    rw [← Array.any_toList, List.any_eq_true] at hj
    obtain ⟨e, he, h3⟩ := hj
    simp only [Bool.and_eq_true, beq_iff_eq] at h3
    rw [← h3.2]
    exact hal e (by simpa using he) h3.1) hc
   unfold wpOp
   simp only [ho]
   rw [hwa]
   rcases hE with ⟨hw, hE⟩ | ⟨hw, b, hv, hE⟩
   ·simp only [hw, if_true]
    refine .inl ?_
    unfold zc2 at hE
    unfold Oper.wp
    rw [hex]
    generalize (execOp (zaf ops (fun j => vf j B) (List.range' 0 i) a0).eval o).run P w = r at hE ⊢
    cases r with
    | ok n w' =>
     cases n <;> simp only [ze9] at hE <;> simp only [Oper.upon]
     case value u =>
      obtain ⟨b, e1, e2⟩ := hE
      rw [e1]
      exact stepE b _ e2
     case skip =>
      obtain ⟨b, e1, e2⟩ := hE
      rw [← e1]
      exact stepE b _ e2
     case enter f args =>
      exact hE.mono fun e w'' ⟨b, he, hw''⟩ => by subst he; exact stepE b _ hw''
    | halt x w' => simp only [ze9] at hE
   ·simp only [hw, Bool.false_eq_true, if_false]
    rw [← hv]
    exact stepE b _ hE
theorem zcy {id : Nat} {Q : Exit → Act → World → Prop} {a : Act} {w : World} {l : List Oper} (C : (Nat → Bool) → Bk → World → Prop) (B0 : Bk) (hm : P.follows .mixedOrders = true) (hB : effB .any l.toArray = true) (hC : C (fun _ => false) B0 w.drew)
  (h : zd8 .any P l.toArray C (fun B a' => ∀ w', C (fun j => decide (j < l.length)) B w' → Q .normal a' w') l 0 (fun _ => a)) : (Code.region id l.toArray true).wp P Q a w := by
 obtain ⟨V, h0, h1, h2⟩ := zhI l 0 (fun _ => a) (fun j => by simp) h
 refine wp_region_any hm ?_
 have hL0 : Lof (Array.replicate l.toArray.size false) = fun _ => false := by
  funext j
  unfold Lof
  by_cases hj : j < l.length
  ·simp [hj]
  ·simp [Nat.le_of_not_lt hj]
 refine zjp (vf := V) (a0 := a) hB h0 (fun j o hj B => ?_) (fun B w' hw' => ?_) _ _ _ w.drew B0 ⟨by simp, fun j o _ hj => (by rw [hL0] at hj; cases hj), ?_, trivial, ?_⟩ (by rw [hL0]; exact hC)
 ·have := h1 j o (by simpa using hj) B
  simpa using this
 ·have := h2 B w' (by simpa using hw')
  simpa using this
 ·rw [hL0, List.filter_eq_nil_iff.2 (fun j _ => by simp)]; rfl
 ·rw [hL0, List.filter_eq_self.2 (fun j _ => by simp)]; simp
end
open Go Go.RowKit
section
variable {P : Program} {ops : Array Oper} {md : Region.Mode} {C : (Nat → Bool) → Bk → World → Prop} {KP : List PanicEntry → World → Prop}
def zdf (P : Program) (KP : List PanicEntry → World → Prop) (K : Nat × Option Addr → World → Prop) (vf : Nat × Option Addr → Value) : Result Next → Prop
 | .ok (.value u) w' => ∃ b, u = vf b ∧ K b w'
 | .ok .skip w' => ∃ b, vf b = undef ∧ K b w'
 | .ok (.enter f args) w' => Calls P f args w' (fun e w'' => (∃ b, e = .returned (vf b) ∧ K b w'') ∨ ∃ ch, e = .panicked ch ∧ KP ch w'')
 | _ => False
def zdS (P : Program) (KP : List PanicEntry → World → Prop) (o : Oper) (a : Act) (vf : Nat × Option Addr → Value) (K : Nat × Option Addr → World → Prop) (w : World) : Prop := zdf P KP K vf ((execOp a.eval o).run P w)
def zgl (md : Region.Mode) (P : Program) (KP : List PanicEntry → World → Prop) (ops : Array Oper) (C : (Nat → Bool) → Bk → World → Prop) (o : Oper) (k : Nat) (vf : Bk → Value) (a : Act) (B : Bk) : Prop :=
 ∀ L w, L k = false → (∀ j, zaG md o j = true → L j = true) → C L B w → (Region.wanted o (yielded ops a.tmps) = true ∧ zdS P KP o a (fun b => vf (updB B k b)) (fun b w' => C (onL L k) (updB B k b) w') w) ∨ (Region.wanted o (yielded ops a.tmps) = false ∧ ∃ b, vf (updB B k b) = undef ∧ C (onL L k) (updB B k b) w)
def zcM (md : Region.Mode) (P : Program) (KP : List PanicEntry → World → Prop) (ops : Array Oper) (C : (Nat → Bool) → Bk → World → Prop) (Q : Bk → Act → Prop) : List Oper → Nat → (Bk → Act) → Prop
 | [], _, a => ∀ B, Q B (a B)
 | o :: rest, k, a => ∃ vf : Bk → Value, zdx md ops k vf ∧ (∀ B, zgl md P KP ops C o k vf (a B) B) ∧ zcM md P KP ops C Q rest (k + 1) (fun B => (a B).put o.dst (vf B))
theorem zgQ {KP : List PanicEntry → World → Prop} {K : World → Prop} {K' : Nat × Option Addr → World → Prop} {v : Value} {vf : Nat × Option Addr → Value} {b : Nat × Option Addr} (hv : vf b = v) (hK : ∀ w, K w → K' b w) {r : Result Next} (h : zco P K v r) : zdf P KP K' vf r := by
 cases r with
 | ok n w' =>
  cases n <;> simp only [zco, zdf] at h ⊢
  case value u => exact ⟨b, by rw [hv]; exact h.1, hK _ h.2⟩
  case skip => exact ⟨b, by rw [hv]; exact h.1, hK _ h.2⟩
  case enter f args => exact h.mono fun e w'' ⟨he, hw⟩ => .inl ⟨b, by rw [hv]; exact he, hK _ hw⟩
 | halt x w' => simp only [zco] at h
theorem zf7 (V : Nat → Value) (m : List Nat) (b : Act) : (zaf ops V m b).defers = b.defers := by
 induction m generalizing b with
 | nil => rfl
 | cons i m ihm =>
  show (zaf ops V m (b.put _ _)).defers = _
  rw [ihm]
  unfold Act.put
  split <;> rfl
theorem zjA {Q : Bk → Act → Prop} {o : Oper} {rest : List Oper} {k : Nat} {a : Bk → Act} (vf : Bk → Value) (hd : zdx md ops k vf)
  (h1 : ∀ B L w, L k = false → (∀ j, zaG md o j = true → L j = true) → C L B w → (Region.wanted o (yielded ops (a B).tmps) = true ∧ za2 P o (a B) (vf B) (C (onL L k) B) w) ∨ (Region.wanted o (yielded ops (a B).tmps) = false ∧ vf B = undef ∧ C (onL L k) B w))
  (h2 : zcM md P KP ops C Q rest (k + 1) (fun B => (a B).put o.dst (vf B))) : zcM md P KP ops C Q (o :: rest) k a := by
 refine ⟨vf, hd, fun B L w hL hD hC => ?_, h2⟩
 rcases h1 B L w hL hD hC with ⟨hw, he⟩ | ⟨hw, hv, hc⟩
 ·refine .inl ⟨hw, zgQ (b := B k) (by show vf _ = _; rw [zcE]) (fun w h => ?_) he⟩
  rw [zcE]
  exact h
 ·refine .inr ⟨hw, B k, by rw [zcE]; exact hv, ?_⟩
  rw [zcE]
  exact hc
theorem zbk {Q : Bk → Act → Prop} {o : Oper} {rest : List Oper} {k : Nat} {a : Bk → Act} {v : Value}
  (h1 : ∀ B L w, L k = false → (∀ j, zaG md o j = true → L j = true) → C L B w → (Region.wanted o (yielded ops (a B).tmps) = true ∧ za2 P o (a B) v (C (onL L k) B) w) ∨ (Region.wanted o (yielded ops (a B).tmps) = false ∧ v = undef ∧ C (onL L k) B w))
  (h2 : zcM md P KP ops C Q rest (k + 1) (fun B => (a B).put o.dst v)) : zcM md P KP ops C Q (o :: rest) k a :=
 zjA (fun _ => v) (fun _ _ _ => rfl) h1 h2
theorem zeB {Q : Bk → Act → Prop} {o : Oper} {rest : List Oper} {k : Nat} {a : Bk → Act} (vf : Nat × Option Addr → Value)
  (h1 : ∀ B L w, L k = false → (∀ j, zaG md o j = true → L j = true) → C L B w → (Region.wanted o (yielded ops (a B).tmps) = true ∧ zdS P KP o (a B) vf (fun b w' => C (onL L k) (updB B k b) w') w) ∨ (Region.wanted o (yielded ops (a B).tmps) = false ∧ ∃ b, vf b = undef ∧ C (onL L k) (updB B k b) w))
  (h2 : zcM md P KP ops C Q rest (k + 1) (fun B => (a B).put o.dst (vf (B k)))) : zcM md P KP ops C Q (o :: rest) k a := by
 refine ⟨fun B => vf (B k), fun B B' h => by show vf _ = vf _; rw [h k (by simp [ze4])], fun B L w hL hD hC => ?_, h2⟩
 have := h1 B L w hL hD hC
 simpa only [zj5] using this
theorem zgu {Q : Bk → Act → Prop} {k : Nat} {a : Bk → Act} (h : ∀ B, Q B (a B)) : zcM md P KP ops C Q [] k a := h
theorem zfc {Q : Bk → Act → Prop} (l : List Oper) (k : Nat) (a : Bk → Act) (hl : ∀ j, l[j]? = ops[k + j]?) (h : zcM md P KP ops C Q l k a) :
  ∃ vf : Nat → Bk → Value, (∀ j, zdx md ops j (vf j)) ∧ (∀ j o, l[j]? = some o → ∀ B, zgl md P KP ops C o (k + j) (vf (k + j)) (zaf ops (fun j => vf j B) (List.range' k j) (a B)) B) ∧ ∀ B, Q B (zaf ops (fun j => vf j B) (List.range' k l.length) (a B)) := by
 induction l generalizing k a with
 | nil => exact ⟨fun _ _ => undef, fun _ _ _ _ => rfl, fun j o hj => (by simp at hj), fun B => h B⟩
 | cons o l ih =>
  obtain ⟨v, hdp, he, hr⟩ := h
  obtain ⟨V, h0, h1, h2⟩ := ih (k + 1) _ (fun j => by have := hl (j + 1); simpa [Nat.add_assoc, Nat.add_comm 1 j] using this) hr
  have hd : zbS ops k = o.dst := by
   have := hl 0
   simp at this
   simp [zbS, ← this]
  have hF : ∀ B j, zaf ops (fun i => (if i = k then v else V i) B) (List.range' k (j + 1)) (a B) = zaf ops (fun i => V i B) (List.range' (k + 1) j) ((a B).put o.dst (v B)) := fun B j => by
   rw [List.range'_succ]
   show zaf ops _ (List.range' (k + 1) j) ((a B).put (zbS ops k) ((if k = k then v else V k) B)) = _
   rw [if_pos rfl, hd]
   refine zdD _ _ _ _ fun i hi => ?_
   have := (List.mem_range'_1.1 hi).1
   show (if i = k then v else V i) B = V i B
   rw [if_neg (by omega)]
  refine ⟨fun i => if i = k then v else V i, fun j => ?_, fun j o' hj B => ?_, fun B => ?_⟩
  ·show zdx md ops j (if j = k then v else V j)
   by_cases hjk : j = k
   ·rw [if_pos hjk, hjk]; exact hdp
   ·rw [if_neg hjk]; exact h0 j
  ·cases j with
   | zero =>
    simp at hj
    subst hj
    simpa [zaf] using he B
   | succ j =>
    have hj' : l[j]? = some o' := by simpa using hj
    have := h1 j o' hj' B
    rw [hF B j]
    have e : k + (j + 1) = k + 1 + j := by omega
    simp only [e]
    rw [if_neg (by omega)]
    exact this
  ·rw [List.length_cons, hF]
   exact h2 B
theorem zkk {vf : Nat → Bk → Value} {a0 : Act} {Q : Exit → Act → World → Prop} (hKP : ∀ ch w (a' : Act), a'.defers = a0.defers → KP ch w → Q (.panic ch) a' w) (hB : effB md ops = true) (hd : ∀ j, zdx md ops j (vf j)) (hV : ∀ j o, ops[j]? = some o → ∀ B, zgl md P KP ops C o j (vf j) (zaf ops (fun j => vf j B) (List.range' 0 j) a0) B)
  (hQ : ∀ B w, C (fun j => decide (j < ops.size)) B w → Q .normal (zaf ops (fun j => vf j B) (List.range' 0 ops.size) a0) w) (fuel : Nat) (listed : Array Bool) (a : Act) (w : World) (B : Bk) (h : zcB ops md (fun _ _ => True) (fun j => vf j B) a0 fuel listed a w) (hc : C (Lof listed) B w) : wpAny P md ops Q fuel listed a w := by
 induction fuel generalizing listed a w B with
 | zero =>
  have hnil := List.eq_nil_of_length_eq_zero h.cnt.symm
  have hal : ∀ j, j < ops.size → Lof listed j = true := fun j hj => by
   have := List.filter_eq_nil_iff.1 hnil j (List.mem_range'_1.2 ⟨by omega, by omega⟩)
   simpa using this
  have hLe : Lof listed = fun j => decide (j < ops.size) := by
   funext j
   by_cases hj : j < ops.size
   ·rw [hal j hj, decide_eq_true hj]
   ·rw [decide_eq_false hj]
    cases hx : Lof listed j with
    | false => rfl
    | true => exact absurd (h.size ▸ ze8 hx) hj
  refine ⟨?_, ?_⟩
  ·refine List.eq_nil_iff_forall_not_mem.2 fun i hi => ?_
   obtain ⟨h0, _⟩ := mem_ready.1 hi
   obtain ⟨h1, h2⟩ := zbV h0
   rw [hal i (h.size ▸ h1)] at h2
   cases h2
  ·have hf := h.frame
   rw [List.filter_eq_self.2 (fun j hj => hal j (by have := (List.mem_range'_1.1 hj).2; omega))] at hf
   rw [hf]
   exact hQ B w (hLe ▸ hc)
 | succ fuel ih =>
  refine ⟨fun hnil => ?_, fun i hi => ?_⟩
  ·exfalso
   have hal : ∀ k, k ≤ ops.size → ∀ j, j < k → Lof listed j = true := by
    intro k
    induction k with
    | zero => intro _ j hj; omega
    | succ k ihk =>
     intro hk j hj
     by_cases hjk : j < k
     ·exact ihk (by omega) j hjk
     ·obtain rfl : j = k := by omega
      cases hx : Lof listed j with
      | true => rfl
      | false =>
       exfalso
       obtain ⟨o, ho⟩ : ∃ o, ops[j]? = some o := ⟨_, Array.getElem?_eq_getElem (by omega)⟩
       have : j ∈ Region.ready md ops listed := mem_ready.2 ⟨zeG (by rw [h.size]; omega) hx, o, ho, fun e he hb => ihk (by omega) e.on (((zcr hB).2 j o ho).1 e he hb)⟩
       rw [hnil] at this
       cases this
   have := h.cnt
   rw [List.filter_eq_nil_iff.2 (fun j hj => by rw [hal ops.size (Nat.le_refl _) j (by have := (List.mem_range'_1.1 hj).2; omega)]; simp)] at this
   simp at this
  ·obtain ⟨h0, o, ho, hal⟩ := mem_ready.1 hi
   obtain ⟨hex, hwa⟩ := h.looks hB ho hi
   have hiL := (zbV h0).2
   have stepE : ∀ b w', C (onL (Lof listed) i) (updB B i b) w' → wpAny P md ops Q fuel (listed.setIfInBounds i true) (a.put o.dst (vf i (updB B i b))) w' := fun b w' hc' => by
    have h' := h.congrV (V' := fun j => vf j (updB B i b)) (fun j hj => hd j _ _ fun j' hj' => by
     have := zdw h.down zfK j j' hj hj'
     unfold updB
     rw [if_neg (fun e => by rw [e, hiL] at this; cases this)])
    have h2 := h'.step hB ho hi (w' := w') trivial
    exact ih _ _ _ (updB B i b) h2 (by rw [zeK (by rw [h.size]; exact (Array.getElem?_eq_some_iff.1 ho).1)]; exact hc')
   have hE := hV i o ho B (Lof listed) w (zbV h0).2 (fun j hj => by
    unfold zaG at hj
    rw [← Array.any_toList, List.any_eq_true] at hj
    obtain ⟨e, he, h3⟩ := hj
    simp only [Bool.and_eq_true, beq_iff_eq] at h3
    rw [← h3.2]
    exact hal e (by simpa using he) h3.1) hc
   unfold wpOp
   simp only [ho]
   rw [hwa]
   rcases hE with ⟨hw, hE⟩ | ⟨hw, b, hv, hE⟩
   ·simp only [hw, if_true]
    refine .inl ?_
    unfold zdS at hE
    unfold Oper.wp
    rw [hex]
    generalize (execOp (zaf ops (fun j => vf j B) (List.range' 0 i) a0).eval o).run P w = r at hE ⊢
    cases r with
    | ok n w' =>
     cases n <;> simp only [zdf] at hE <;> simp only [Oper.upon]
     case value u =>
      obtain ⟨b, e1, e2⟩ := hE
      rw [e1]
      exact stepE b _ e2
     case skip =>
      obtain ⟨b, e1, e2⟩ := hE
      rw [← e1]
      exact stepE b _ e2
     case enter f args =>
      exact hE.mono fun e w'' h => by
       rcases h with ⟨b, he, hw''⟩ | ⟨ch, he, hp⟩
       ·subst he; exact stepE b _ hw''
       ·subst he; exact hKP ch _ _ (by rw [h.frame]; exact zf7 _ _ _) hp
    | halt x w' => simp only [zdf] at hE
   ·simp only [hw, Bool.false_eq_true, if_false]
    rw [← hv]
    exact stepE b _ hE
theorem zh3 {id : Nat} {Q : Exit → Act → World → Prop} {a : Act} {w : World} {l : List Oper} (KP : List PanicEntry → World → Prop) (hKP : ∀ ch w (a' : Act), a'.defers = a.defers → KP ch w → Q (.panic ch) a' w) (C : (Nat → Bool) → Bk → World → Prop) (B0 : Bk) (hm : P.follows .mixedOrders = true) (hB : effB .any l.toArray = true) (hC : C (fun _ => false) B0 w.drew)
  (h : zcM .any P KP l.toArray C (fun B a' => ∀ w', C (fun j => decide (j < l.length)) B w' → Q .normal a' w') l 0 (fun _ => a)) : (Code.region id l.toArray true).wp P Q a w := by
 obtain ⟨V, h0, h1, h2⟩ := zfc l 0 (fun _ => a) (fun j => by simp) h
 refine wp_region_any hm ?_
 have hL0 : Lof (Array.replicate l.toArray.size false) = fun _ => false := by
  funext j
  unfold Lof
  by_cases hj : j < l.length
  ·simp [hj]
  ·simp [Nat.le_of_not_lt hj]
 refine zkk (vf := V) (a0 := a) hKP hB h0 (fun j o hj B => ?_) (fun B w' hw' => ?_) _ _ _ w.drew B0 ⟨by simp, fun j o _ hj => (by rw [hL0] at hj; cases hj), ?_, trivial, ?_⟩ (by rw [hL0]; exact hC)
 ·have := h1 j o (by simpa using hj) B
  simpa using this
 ·have := h2 B w' (by simpa using hw')
  simpa using this
 ·rw [hL0, List.filter_eq_nil_iff.2 (fun j _ => by simp)]; rfl
 ·rw [hL0, List.filter_eq_self.2 (fun j _ => by simp)]; simp
end
end Go.Proofs.YtippdjaakcgeoaaGreat
