/- Lemmas of the walks: NoH, Eff, EfB, Rgn, EfT, Rgt, NoI, NoL, NpA. (Laid together by shake.py.) -/
import Derived.Still
import Derived.Deep.Quiet
import Derived.Test.YtippdjaakcgeoaaGreatNe01
import Derived.Test.YtippdjaakcgeoaaGreatNe05
set_option linter.unusedVariables false
set_option linter.unusedSimpArgs false
namespace Go.Proofs.YtippdjaakcgeoaaGreat
open Go Go.RowKit
set_option linter.unusedVariables false
set_option linter.unusedSimpArgs false

/-- The letters of a link. -/
def lnk (L : List LetF) (n : Nm) : List LetF := L.filter fun x => decide ((x.src, x.dst) = n)
def restL (L : List LetF) (vs : List Nm) : List LetF := L.filter fun x => !decide ((x.src, x.dst) ∈ vs)
def sumL (L : List LetF) : List Nm → Nat
  | [] => 0
  | n :: vs => (lnk L n).length + sumL L vs
theorem rest_cons (L : List LetF) (n : Nm) (vs : List Nm) (h : n ∉ vs) : (restL L vs).length = (lnk L n).length + (restL L (n :: vs)).length := by
  unfold restL lnk
  induction L with
  | nil => rfl
  | cons x L ih =>
    simp only [List.filter_cons]
    simp only [List.mem_cons] at ih ⊢
    by_cases h1 : (x.src, x.dst) = n
    · subst h1
      simp only [h, decide_false, Bool.not_false, if_true, decide_true, List.mem_cons, true_or, Bool.not_true, Bool.false_eq_true, if_false, List.length_cons]
      omega
    · by_cases h2 : (x.src, x.dst) ∈ vs
      · simp only [h1, h2, decide_true, decide_false, Bool.not_true, Bool.false_eq_true, if_false, List.mem_cons, or_true]
        exact ih
      · simp only [h1, h2, decide_false, Bool.not_false, Bool.false_eq_true, if_false, if_true, List.mem_cons, or_self, List.length_cons]
        omega
theorem sum_rest (L : List LetF) (vs : List Nm) (h : vs.Nodup) : sumL L vs + (restL L vs).length = L.length := by
  induction vs with
  | nil => simp [sumL, restL]
  | cons n vs ih =>
    obtain ⟨h1, h2⟩ := List.nodup_cons.1 h
    have := ih h2
    have := rest_cons L n vs h1
    simp only [sumL]
    omega
theorem sum_le (L : List LetF) (vs : List Nm) (h : vs.Nodup) : sumL L vs ≤ L.length := by have := sum_rest L vs h; omega
theorem sum_all (L : List LetF) (vs : List Nm) (h : vs.Nodup) (ha : ∀ x ∈ L, (x.src, x.dst) ∈ vs) : sumL L vs = L.length := by
  have h1 := sum_rest L vs h
  have h2 : restL L vs = [] := by
    unfold restL
    rw [List.filter_eq_nil_iff]
    intro x hx
    simp [ha x hx]
  rw [h2] at h1
  simpa using h1
def manyR (w : World) (Y : NetM) (L : List LetF) (r : Nat) (v : Value) (wr : World) : Prop :=
  ∃ (vs : List Nm) (cnt : Nat), v = I64 (sumL L vs : Nat) ∧ vs.Nodup ∧ MapRg Tryz.prog 90 wr Y.m r Y.s (fun n => (Y.f n).map Ls.v) vs cnt ∧ Nw w wr
set_option maxRecDepth 100000 in
set_option maxHeartbeats 4000000 in
theorem netMany_any (w : World) (O I : Nat → Prop) (Y : NetM) (h : IsNet w O I Y) (L : List LetF) (hL : ∀ n, Y.p n = lnk L n) (hsz : L.length ≤ 1000000000) :
    Calls Tryz.prog 22 #[.pointer (some ⟨Y.g, 0, none⟩)] w fun e w' => e = .returned (I64 (L.length : Nat)) ∧ Nw w w' := by
  have hb := h.blk
  have hM := h.map
  have g0 : w.cell? ⟨Y.g, 0, none⟩ = some (.map (some Y.m)) := by simpa using hb.cell 0
  have HL := Lib.hid hL
  clear hL
  go_enter Tryz.func22, Tryz.ntmps22
  go_wp2_with (first | (go_at_call 49; refine (netKnown_yes _ Y.g Y.m hb).mono ?_; rintro e w' ⟨rfl, rfl⟩) | (at_range; refine wl_rangeW rfl _ 54 rfl 90 28 no_way Tryz.underlying54 Y.m Y.s _ rfl hM ?_; intro w0 cnt0 hc0 hrg0 q0 hs0))
  go_frame
  go_loopw [3, 5] (fun v l wr => manyR w Y L w.heap.size v wr) (fun _ _ wr => wr.rangeLeft Y.m w.heap.size)
  case atStart => exact ⟨[], cnt0, rfl, List.nodup_nil, hrg0, q0⟩
  case round =>
    obtain ⟨vs, cnt, rfl, hnd, hrg, hq⟩ := hrel
    have hsum := sum_le L vs hnd
    go_wp2_with (at_next; refine wl_nextW rfl _ rfl 90 no_way Y.m w.heap.size Y.s _ vs cnt rfl hrg ?_ ?_)
    · intro hc0 hall
      have hfin : sumL L vs = L.length := sum_all L vs hnd (fun x hx => by
        have h1 : x ∈ lnk L (x.src, x.dst) := by unfold lnk; rw [List.mem_filter]; exact ⟨hx, by simp⟩
        rw [← HL.out] at h1
        cases hf : Y.f (x.src, x.dst) with
        | none => rw [NetM.p_none hf] at h1; cases h1
        | some s => exact hall _ _ (h.link _ _ hf).wf (by simp [hf]))
      clear hrg
      go_wp2_with fail
      go_ret
      exact ⟨by rw [← hfin]; rfl, hq⟩
    · intro n1 n2 v w1 cnt1 hn s hf hsv hnot hrg1 hlt f1 hs1 hen
      subst hsv
      obtain ⟨n, hn12⟩ : ∃ n : Nm, n = (n1, n2) := ⟨_, rfl⟩
      rw [← hn12] at hf hnot hrg1
      have HN12 := Lib.hid hn12
      clear hn12
      have e1 : s.l.length = (lnk L n).length := by rw [← HL.out, NetM.p_some hf, List.length_map]
      have hnd1 : (n :: vs).Nodup := List.nodup_cons.2 ⟨hnot, hnd⟩
      have hsum1 := sum_le L (n :: vs) hnd1
      have e2 : sumL L (n :: vs) = s.l.length + sumL L vs := by rw [e1]; rfl
      have hlf := hrg.left_eq
      have hlf1 := hrg1.left_eq
      obtain ⟨N, hN⟩ : ∃ N, N = sumL L vs := ⟨_, rfl⟩
      rw [← hN] at e2 hsum ⊢
      have HE2 := Lib.hid e2
      have hb1 : N + s.l.length ≤ 1000000000 := by omega
      have HN := Lib.hid hN
      clear e1 e2 hN hf
      go_wp2_with fail
      go_roundw
      case rel => exact ⟨n :: vs, cnt1, by rw [HE2.out]; go_num, hnd1, hrg1, hq.new f1 (fun b hb => by omega)⟩
      case measure => omega
end Go.Proofs.YtippdjaakcgeoaaGreat

namespace Go.Proofs.YtippdjaakcgeoaaGreat
open Go Go.RowKit

section
variable {P : Program} {ops : Array Oper} {md : Region.Mode} {C : (Nat → Bool) → World → Prop}
/-- What is asked of one operation's result. -/
def effUpon (P : Program) (K : World → Prop) (v : Value) : Result Next → Prop
  | .ok (.value u) w' => u = v ∧ K w'
  | .ok .skip w' => v = undef ∧ K w'
  | .ok (.enter f args) w' => Calls P f args w' (fun e w'' => e = .returned v ∧ K w'')
  | _ => False
def effAt (P : Program) (o : Oper) (a : Act) (v : Value) (K : World → Prop) (w : World) : Prop := effUpon P K v ((execOp a.eval o).run P w)
def onL (L : Nat → Bool) (k : Nat) : Nat → Bool := fun j => if j = k then true else L j
/-- Does an operation wait for another one? -/
def waitsFor (md : Region.Mode) (o : Oper) (j : Nat) : Bool := o.after.any fun e => Region.binds md e && e.on == j
def effB (md : Region.Mode) (ops : Array Oper) : Bool :=
  Region.noSelect ops && (List.range ops.size).all fun k => match ops[k]? with
    | none => true
    | some o => (o.after.all fun e => !Region.binds md e || decide (e.on < k)) && (List.range ops.size).all fun j => decide (j ≤ k) || (match ops[j]? with
      | none => true
      | some oj => (oj.after.any fun e => Region.binds md e && e.on == k) || o.apart ops oj)
theorem effB_spec (h : effB md ops = true) : Region.noSelect ops = true ∧ ∀ k o, ops[k]? = some o → (∀ e ∈ o.after, Region.binds md e = true → e.on < k) ∧
    ∀ j oj, k < j → ops[j]? = some oj → (∃ e ∈ oj.after, Region.binds md e = true ∧ e.on = k) ∨ o.apart ops oj = true := by
  unfold effB at h
  rw [Bool.and_eq_true] at h
  refine ⟨h.1, fun k o ho => ?_⟩
  have hk : k < ops.size := (Array.getElem?_eq_some_iff.1 ho).1
  have h1 := List.all_eq_true.1 h.2 k (List.mem_range.2 hk)
  rw [ho] at h1
  simp only [Bool.and_eq_true] at h1
  refine ⟨fun e he hb => ?_, fun j oj hj hoj => ?_⟩
  · have h2 := Array.all_eq_true_iff_forall_mem.1 h1.1 e he
    rw [hb] at h2
    simpa using h2
  · have hjn : j < ops.size := (Array.getElem?_eq_some_iff.1 hoj).1
    have h2 := List.all_eq_true.1 h1.2 j (List.mem_range.2 hjn)
    rw [hoj] at h2
    simp only [Bool.or_eq_true, decide_eq_true_eq] at h2
    rcases h2 with h2 | h2 | h2
    · omega
    · rw [← Array.any_toList, List.any_eq_true] at h2
      obtain ⟨e, he, h3⟩ := h2
      simp only [Bool.and_eq_true, beq_iff_eq] at h3
      exact .inl ⟨e, by simpa using he, h3.1, h3.2⟩
    · exact .inr h2
/-- The frame behind some operations. -/
def dstOf (ops : Array Oper) (i : Nat) : Option Tmp := (ops[i]?).bind (·.dst)
def frameL (ops : Array Oper) (V : Nat → Value) (is : List Nat) (a : Act) : Act := is.foldl (fun a i => a.put (dstOf ops i) (V i)) a
theorem frameL_append (V : Nat → Value) (l m : List Nat) (a : Act) : frameL ops V (l ++ m) a = frameL ops V m (frameL ops V l a) := List.foldl_append
theorem put_ne (a : Act) (t : Tmp) (d : Option Tmp) (v : Value) (h : ∀ d', d = some d' → d' ≠ t) : (a.put d v).tmps[t]? = a.tmps[t]? := by
  cases d with
  | none => rfl
  | some d => simp [Act.put, Array.getElem?_setIfInBounds_ne (h d rfl)]
theorem put_agree (a b : Act) (t : Tmp) (d : Option Tmp) (v : Value) (h : a.tmps[t]? = b.tmps[t]?) : (a.put d v).tmps[t]? = (b.put d v).tmps[t]? := by
  cases d with
  | none => exact h
  | some d =>
    by_cases hdt : d = t
    · subst hdt
      have hsz : d < a.tmps.size ↔ d < b.tmps.size := by
        constructor
        · intro hl
          rcases Nat.lt_or_ge d b.tmps.size with h1 | h1
          · exact h1
          · rw [Array.getElem?_eq_none h1, Array.getElem?_eq_getElem hl] at h; cases h
        · intro hl
          rcases Nat.lt_or_ge d a.tmps.size with h1 | h1
          · exact h1
          · rw [Array.getElem?_eq_none h1, Array.getElem?_eq_getElem hl] at h; cases h
      simp only [Act.put, Array.getElem?_setIfInBounds_self]
      by_cases hl : d < a.tmps.size
      · rw [if_pos hl, if_pos (hsz.1 hl)]
      · rw [if_neg hl, if_neg (fun h => hl (hsz.2 h))]
    · have hne : ∀ d', some d = some d' → d' ≠ t := fun d' h1 h2 => hdt (by injection h1 with h1; rw [h1, h2])
      rw [put_ne _ _ _ _ hne, put_ne _ _ _ _ hne]
      exact h
theorem frameL_at (V : Nat → Value) (t : Tmp) (keep : Nat → Bool) (l : List Nat) (a b : Act) (hab : a.tmps[t]? = b.tmps[t]?) (h : ∀ i ∈ l, keep i = false → ∀ d, dstOf ops i = some d → d ≠ t) :
    (frameL ops V l a).tmps[t]? = (frameL ops V (l.filter keep) b).tmps[t]? := by
  induction l generalizing a b with
  | nil => exact hab
  | cons i l ih =>
    cases hk : keep i with
    | true =>
      rw [List.filter_cons_of_pos hk]
      exact ih _ _ (put_agree a b t _ _ hab) (fun j hj => h j (by simp [hj]))
    | false =>
      rw [List.filter_cons_of_neg (by simp [hk])]
      exact ih _ _ ((put_ne _ _ _ _ (h i (by simp) hk)).trans hab) (fun j hj => h j (by simp [hj]))
/-- Two frames that agree wherever an operation looks. -/
theorem frameL_looks (V : Nat → Value) (o : Oper) (hsel : ∀ cs b, o.op ≠ .select cs b) (keep : Nat → Bool) (l : List Nat) (a : Act) (h : ∀ i ∈ l, keep i = false → ∀ d, dstOf ops i = some d → d ∉ o.looksAt ops) :
    execOp (frameL ops V l a).eval o = execOp (frameL ops V (l.filter keep) a).eval o ∧ Region.wanted o (yielded ops (frameL ops V l a).tmps) = Region.wanted o (yielded ops (frameL ops V (l.filter keep) a).tmps) := by
  have hev : ∀ t, t ∈ o.looksAt ops → (frameL ops V l a).tmps[t]? = (frameL ops V (l.filter keep) a).tmps[t]? := fun t ht =>
    frameL_at V t keep l a a rfl fun i hi hk d hd e => h i hi hk d hd (by rw [e]; exact ht)
  refine ⟨execOp_congr o hsel fun x hx => ?_, ?_⟩
  · cases x with
    | tmp t =>
      have := hev t (List.mem_append_left _ (List.mem_filterMap.2 ⟨.tmp t, by simpa using hx, rfl⟩))
      simp only [Act.eval, Array.getD_eq_getD_getElem?, this]
    | _ => rfl
  · unfold Region.wanted
    cases hg : o.guard with
    | none => rfl
    | some gw =>
      obtain ⟨g, want⟩ := gw
      have hy : yielded ops (frameL ops V l a).tmps g = yielded ops (frameL ops V (l.filter keep) a).tmps g := by
        unfold yielded
        cases ht : (ops[g]?).bind (·.dst) with
        | none => rfl
        | some t =>
          have := hev t (by simp [Oper.looksAt, hg, ht])
          simp only [Option.bind_some, this]
      simp only [hy]
def Lof (listed : Array Bool) : Nat → Bool := fun j => listed.getD j false
theorem Lof_set {listed : Array Bool} {i : Nat} (hi : i < listed.size) : Lof (listed.setIfInBounds i true) = onL (Lof listed) i := by
  funext j
  unfold Lof onL
  by_cases h : j = i
  · subst h; simp [hi]
  · rw [if_neg h, getD_set_ne false (Ne.symm h)]
/-- How a state stands. -/
structure EffInv (ops : Array Oper) (md : Region.Mode) (C : (Nat → Bool) → World → Prop) (V : Nat → Value) (a0 : Act) (fuel : Nat) (listed : Array Bool) (a : Act) (w : World) : Prop where
  size : listed.size = ops.size
  down : ∀ j o, ops[j]? = some o → Lof listed j = true → ∀ e ∈ o.after, Region.binds md e = true → Lof listed e.on = true
  frame : a = frameL ops V ((List.range' 0 ops.size).filter (Lof listed)) a0
  cls : C (Lof listed) w
  cnt : fuel = ((List.range' 0 ops.size).filter (fun j => !Lof listed j)).length
theorem range_split (n i : Nat) (h : i < n) : List.range' 0 n = List.range' 0 i ++ i :: List.range' (i + 1) (n - i - 1) := by
  have e : n = i + ((n - i - 1) + 1) := by omega
  conv => lhs; rw [e]
  rw [← List.range'_append_1, Nat.zero_add, List.range'_succ]
theorem Lof_lt {listed : Array Bool} {j : Nat} (h : Lof listed j = true) : j < listed.size := by
  unfold Lof at h
  rcases Nat.lt_or_ge j listed.size with h1 | h1
  · exact h1
  · simp [h1] at h
theorem getD_tf {listed : Array Bool} {j : Nat} (h : listed.getD j true = false) : j < listed.size ∧ Lof listed j = false := by
  unfold Lof
  rcases Nat.lt_or_ge j listed.size with h1 | h1
  · refine ⟨h1, ?_⟩
    simp [h1] at h ⊢
    exact h
  · simp [h1] at h
theorem getD_ft {listed : Array Bool} {j : Nat} (hj : j < listed.size) (h : Lof listed j = false) : listed.getD j true = false := by
  unfold Lof at h
  simp [hj] at h ⊢
  exact h
theorem onL_filter {L : Nat → Bool} {i : Nat} (l : List Nat) (h : ∀ j ∈ l, j ≠ i) : l.filter (onL L i) = l.filter L :=
  List.filter_congr fun j hj => by unfold onL; rw [if_neg (h j hj)]
theorem frameL_comm (V : Nat → Value) (d : Option Tmp) (v : Value) (l : List Nat) (x : Act) (h : ∀ b ∈ l, ∀ t, d = some t → dstOf ops b ≠ some t) : (frameL ops V l x).put d v = frameL ops V l (x.put d v) := by
  induction l generalizing x with
  | nil => rfl
  | cons b l ih =>
    show (frameL ops V l (x.put (dstOf ops b) (V b))).put d v = frameL ops V l ((x.put d v).put (dstOf ops b) (V b))
    rw [ih _ (fun c hc => h c (by simp [hc])), Act.put_comm x v (V b) (h b (by simp))]
theorem dstOf_some {i : Nat} {o : Oper} (h : ops[i]? = some o) : dstOf ops i = o.dst := by simp [dstOf, h]
/-- One operation put. -/
theorem EffInv.step {V : Nat → Value} {a0 : Act} {fuel : Nat} {listed : Array Bool} {a : Act} {w w' : World} (hB : effB md ops = true) (h : EffInv ops md C V a0 (fuel + 1) listed a w) {i : Nat} {o : Oper} (hi : ops[i]? = some o)
    (hr : i ∈ Region.ready md ops listed) (hc : C (onL (Lof listed) i) w') : EffInv ops md C V a0 fuel (listed.setIfInBounds i true) (a.put o.dst (V i)) w' := by
  have hin : i < ops.size := (Array.getElem?_eq_some_iff.1 hi).1
  obtain ⟨h0, o', ho', hall⟩ := mem_ready.1 hr
  obtain rfl : o' = o := by rw [hi] at ho'; injection ho' with ho'; exact ho'.symm
  have hiL := (getD_tf h0).2
  have hset := Lof_set (listed := listed) (i := i) (by rw [h.size]; exact hin)
  have hsp := range_split ops.size i hin
  have hlo : ∀ j ∈ List.range' 0 i, j ≠ i := fun j hj => by have := (List.mem_range'_1.1 hj).2; omega
  have hhi : ∀ j ∈ List.range' (i + 1) (ops.size - i - 1), j ≠ i := fun j hj => by have := (List.mem_range'_1.1 hj).1; omega
  refine ⟨by simpa using h.size, fun j oj hj hjl e he hb => ?_, ?_, by rw [hset]; exact hc, ?_⟩
  · rw [hset] at hjl ⊢
    unfold onL at hjl ⊢
    split
    · rfl
    · by_cases hji : j = i
      · subst hji
        rw [hj] at hi
        injection hi with hi
        subst hi
        exact hall e he hb
      · rw [if_neg hji] at hjl
        exact h.down j oj hj hjl e he hb
  · rw [hset, hsp, List.filter_append, onL_filter _ hlo, List.filter_cons_of_pos (by simp [onL]), onL_filter _ hhi, h.frame, hsp, List.filter_append, List.filter_cons_of_neg (by simp [hiL]), frameL_append, frameL_append]
    have hcm := frameL_comm (ops := ops) V o'.dst (V i) ((List.range' (i + 1) (ops.size - i - 1)).filter (Lof listed)) (frameL ops V ((List.range' 0 i).filter (Lof listed)) a0) (fun b hb t ht => by
      obtain ⟨hb1, hb2⟩ := List.mem_filter.1 hb
      have hbi := (List.mem_range'_1.1 hb1).1
      have hbn : b < ops.size := by rw [← h.size]; exact Lof_lt hb2
      obtain ⟨ob, hob⟩ : ∃ ob, ops[b]? = some ob := ⟨_, Array.getElem?_eq_getElem hbn⟩
      rw [dstOf_some hob]
      rcases ((effB_spec hB).2 i _ hi).2 b ob (by omega) hob with ⟨e, he, h1, h2⟩ | hap
      · have := h.down b ob hob hb2 e he h1
        rw [h2, hiL] at this
        cases this
      · exact (Oper.apart_spec hap).2.1 t ht)
    rw [hcm]
    show _ = frameL ops V _ ((frameL ops V _ a0).put (dstOf ops i) (V i))
    rw [dstOf_some hi]
  · have h1 := h.cnt
    have e1 : (List.range' 0 ops.size).filter (fun j => !Lof listed j) = (List.range' 0 i).filter (fun j => !Lof listed j) ++ i :: (List.range' (i + 1) (ops.size - i - 1)).filter (fun j => !Lof listed j) := by
      rw [hsp, List.filter_append, List.filter_cons_of_pos (by simp [hiL])]
    have e2 : (List.range' 0 ops.size).filter (fun j => !Lof (listed.setIfInBounds i true) j) = (List.range' 0 i).filter (fun j => !Lof listed j) ++ (List.range' (i + 1) (ops.size - i - 1)).filter (fun j => !Lof listed j) := by
      rw [hset, hsp, List.filter_append, List.filter_cons_of_neg (by simp [onL])]
      congr 1
      · exact List.filter_congr fun j hj => by unfold onL; rw [if_neg (hlo j hj)]
      · exact List.filter_congr fun j hj => by unfold onL; rw [if_neg (hhi j hj)]
    rw [e1, List.length_append, List.length_cons] at h1
    rw [e2, List.length_append]
    omega
/-- Where an operation may come up it finds what it looks at as in the order of the text. -/
theorem EffInv.looks {V : Nat → Value} {a0 : Act} {fuel : Nat} {listed : Array Bool} {a : Act} {w : World} (hB : effB md ops = true) (h : EffInv ops md C V a0 fuel listed a w) {i : Nat} {o : Oper} (hi : ops[i]? = some o)
    (hr : i ∈ Region.ready md ops listed) : execOp a.eval o = execOp (frameL ops V (List.range' 0 i) a0).eval o ∧ Region.wanted o (yielded ops a.tmps) = Region.wanted o (yielded ops (frameL ops V (List.range' 0 i) a0).tmps) := by
  have hin : i < ops.size := (Array.getElem?_eq_some_iff.1 hi).1
  obtain ⟨h0, o', ho', hall⟩ := mem_ready.1 hr
  obtain rfl : o' = o := by rw [hi] at ho'; injection ho' with ho'; exact ho'.symm
  have hiL := (getD_tf h0).2
  have hsel : ∀ cs b, o'.op ≠ .select cs b := fun cs b => Region.noSelect_spec (effB_spec hB).1 i o' cs b hi
  have k1 := frameL_looks (ops := ops) V o' hsel (fun j => decide (j < i)) ((List.range' 0 ops.size).filter (Lof listed)) a0 (fun b hb hk d hd => by
    obtain ⟨hb1, hb2⟩ := List.mem_filter.1 hb
    have hbn : b < ops.size := by rw [← h.size]; exact Lof_lt hb2
    obtain ⟨ob, hob⟩ : ∃ ob, ops[b]? = some ob := ⟨_, Array.getElem?_eq_getElem hbn⟩
    have hbi : i < b := by
      have h1 : ¬ b < i := by simpa using hk
      have h2 : b ≠ i := fun e => by rw [e, hiL] at hb2; cases hb2
      omega
    rw [dstOf_some hob] at hd
    rcases ((effB_spec hB).2 i _ hi).2 b ob hbi hob with ⟨e, he, h1, h2⟩ | hap
    · have := h.down b ob hob hb2 e he h1
      rw [h2, hiL] at this
      cases this
    · exact (Oper.apart_spec hap).2.2 d hd)
  have k2 := frameL_looks (ops := ops) V o' hsel (Lof listed) (List.range' 0 i) a0 (fun b hb hk d hd => by
    have hbi := (List.mem_range'_1.1 hb).2
    have hbn : b < ops.size := by omega
    obtain ⟨ob, hob⟩ : ∃ ob, ops[b]? = some ob := ⟨_, Array.getElem?_eq_getElem hbn⟩
    rw [dstOf_some hob] at hd
    rcases ((effB_spec hB).2 b ob hob).2 i _ (by omega) hi with ⟨e, he, h1, h2⟩ | hap
    · have := hall e he h1
      rw [h2] at this
      unfold Lof at hk
      rw [hk] at this
      cases this
    · exact (Oper.apart_spec hap).1 d hd)
  have e : ((List.range' 0 ops.size).filter (Lof listed)).filter (fun j => decide (j < i)) = (List.range' 0 i).filter (Lof listed) := by
    rw [range_split ops.size i hin, List.filter_append, List.filter_append, List.filter_cons_of_neg (by simp [hiL])]
    have z1 : ((List.range' 0 i).filter (Lof listed)).filter (fun j => decide (j < i)) = (List.range' 0 i).filter (Lof listed) :=
      List.filter_eq_self.2 fun j hj => by
        have := (List.mem_range'_1.1 (List.mem_filter.1 hj).1).2
        exact decide_eq_true (by omega)
    have z2 : ((List.range' (i + 1) (ops.size - i - 1)).filter (Lof listed)).filter (fun j => decide (j < i)) = [] :=
      List.filter_eq_nil_iff.2 fun j hj => by
        have := (List.mem_range'_1.1 (List.mem_filter.1 hj).1).1
        simp; omega
    rw [z1, z2, List.append_nil]
  rw [e] at k1
  rw [h.frame]
  exact ⟨k1.1.trans k2.1.symm, k1.2.trans k2.2.symm⟩
end
end Go.Proofs.YtippdjaakcgeoaaGreat

namespace Go.Proofs.YtippdjaakcgeoaaGreat
open Go Go.RowKit

/-- What is told of an operation as it comes: where its memory lies, how much there is. -/
abbrev Bk := Nat → Nat × Option Addr
section
variable {P : Program} {ops : Array Oper} {md : Region.Mode} {C : (Nat → Bool) → Bk → World → Prop}
/-- What an operation waits for, at some removes. -/
def reach (md : Region.Mode) (ops : Array Oper) : Nat → Nat → Nat → Bool
  | 0, k, j => k == j
  | f + 1, k, j => k == j || (match ops[k]? with
    | none => false
    | some o => o.after.any fun e => Region.binds md e && reach md ops f e.on j)
abbrev fuelR : Nat := 3
theorem frameL_congr (V V' : Nat → Value) (m : List Nat) (b : Act) (h : ∀ i ∈ m, V i = V' i) : frameL ops V m b = frameL ops V' m b := by
  induction m generalizing b with
  | nil => rfl
  | cons i m ihm =>
    show frameL ops V m (b.put _ _) = frameL ops V' m (b.put _ _)
    rw [h i (by simp)]
    exact ihm _ fun j hj => h j (by simp [hj])
theorem reach_listed {listed : Array Bool} (hdn : ∀ j o, ops[j]? = some o → Lof listed j = true → ∀ e ∈ o.after, Region.binds md e = true → Lof listed e.on = true) (f k j : Nat) (hk : Lof listed k = true) (h : reach md ops f k j = true) : Lof listed j = true := by
  induction f generalizing k with
  | zero =>
    unfold reach at h
    rw [beq_iff_eq] at h
    rw [← h]
    exact hk
  | succ f ih =>
    unfold reach at h
    rw [Bool.or_eq_true, beq_iff_eq] at h
    rcases h with h | h
    · rw [← h]
      exact hk
    · cases ho : ops[k]? with
      | none => rw [ho] at h; cases h
      | some o =>
        rw [ho] at h
        simp only at h
        rw [← Array.any_toList, List.any_eq_true] at h
        obtain ⟨e, he, h3⟩ := h
        rw [Bool.and_eq_true] at h3
        exact ih e.on (hdn k o ho hk e (by simpa using he) h3.1) h3.2
theorem EffInv.congrV {V V' : Nat → Value} {a0 : Act} {fuel : Nat} {listed : Array Bool} {a : Act} {w : World} (h : EffInv ops md (fun _ _ => True) V a0 fuel listed a w) (hV : ∀ j, Lof listed j = true → V j = V' j) : EffInv ops md (fun _ _ => True) V' a0 fuel listed a w :=
  ⟨h.size, h.down, by rw [h.frame]; exact frameL_congr _ _ _ _ fun i hi => hV i (List.mem_filter.1 hi).2, trivial, h.cnt⟩
end
end Go.Proofs.YtippdjaakcgeoaaGreat

namespace Go.Proofs.YtippdjaakcgeoaaGreat
open Go Go.RowKit
set_option linter.unusedVariables false
set_option linter.unusedSimpArgs false
/-- What is listed is closed under what it waits for. -/
def DownB (md : Region.Mode) (ops : Array Oper) (L : Nat → Bool) : Prop := ∀ k o, ops[k]? = some o → L k = true → ∀ j, waitsFor md o j = true → L j = true
theorem DownB.step {md : Region.Mode} {ops : Array Oper} {L : Nat → Bool} (h : DownB md ops L) {k : Nat} {o : Oper} (ho : ops[k]? = some o) (hD : ∀ j, waitsFor md o j = true → L j = true) : DownB md ops (onL L k) := fun i o' hi hl j hj => by
  unfold onL at hl ⊢
  by_cases e : j = k
  · rw [if_pos e]
  rw [if_neg e]
  by_cases e2 : i = k
  · subst e2
    rw [ho] at hi
    injection hi with hi
    subst hi
    exact hD j hj
  · rw [if_neg e2] at hl
    exact h i o' hi hl j hj
def waitsB (md : Region.Mode) (ops : Array Oper) (a b : Nat) : Bool := match ops[a]? with
  | none => false
  | some o => waitsFor md o b
theorem DownB.of {md : Region.Mode} {ops : Array Oper} {L : Nat → Bool} (h : DownB md ops L) {a b : Nat} (hw : waitsB md ops a b = true) (ha : L a = true) : L b = true := by
  unfold waitsB at hw
  cases ho : ops[a]? with
  | none => rw [ho] at hw; cases hw
  | some o => rw [ho] at hw; exact h a o ho ha b hw
theorem DownB.no {md : Region.Mode} {ops : Array Oper} {L : Nat → Bool} (h : DownB md ops L) {a b : Nat} (hw : waitsB md ops a b = true) (hb : L b = false) : L a = false := by
  cases ha : L a with
  | false => rfl
  | true => rw [h.of hw ha] at hb; cases hb
section
variable {md : Region.Mode} {ops : Array Oper} {kc kb ka ks : Nat} {S0 S1 : World → Prop} {S2 : Nat → World → Prop} {S3 S4 : Nat × Option Addr → World → Prop} {L : Nat → Bool} {B : Bk} {w w' : World} {o : Oper}
theorem onL_neB {j k : Nat} (h : (k != j) = true) : onL L j k = L k := if_neg (by simpa using h)
theorem onL_self {j : Nat} : onL L j j = true := if_pos rfl
end
end Go.Proofs.YtippdjaakcgeoaaGreat

namespace Go.Proofs.YtippdjaakcgeoaaGreat
open Go Go.RowKit

/-- What is told of each operation. -/
abbrev BkT (T : Type) := Nat → T
section
variable {T : Type} {P : Program} {ops : Array Oper} {md : Region.Mode} {C : (Nat → Bool) → BkT T → World → Prop}
def updT (B : BkT T) (k : Nat) (b : T) : BkT T := fun j => if j = k then b else B j
theorem updT_self (B : BkT T) (k : Nat) : updT B k (B k) = B := by
  funext j
  unfold updT
  by_cases h : j = k
  · rw [if_pos h, h]
  · rw [if_neg h]
theorem updT_at (B : BkT T) (k : Nat) (b : T) : updT B k b k = b := if_pos rfl
def effUponT (P : Program) (K : T → World → Prop) (vf : T → Value) : Result Next → Prop
  | .ok (.value u) w' => ∃ b, u = vf b ∧ K b w'
  | .ok .skip w' => ∃ b, vf b = undef ∧ K b w'
  | .ok (.enter f args) w' => Calls P f args w' (fun e w'' => ∃ b, e = .returned (vf b) ∧ K b w'')
  | _ => False
def effAtT (P : Program) (o : Oper) (a : Act) (vf : T → Value) (K : T → World → Prop) (w : World) : Prop := effUponT P K vf ((execOp a.eval o).run P w)
def EffInT (md : Region.Mode) (P : Program) (ops : Array Oper) (C : (Nat → Bool) → BkT T → World → Prop) (o : Oper) (k : Nat) (vf : BkT T → Value) (a : Act) (B : BkT T) : Prop :=
  ∀ L w, L k = false → (∀ j, waitsFor md o j = true → L j = true) → C L B w → (Region.wanted o (yielded ops a.tmps) = true ∧ effAtT P o a (fun b => vf (updT B k b)) (fun b w' => C (onL L k) (updT B k b) w') w) ∨ (Region.wanted o (yielded ops a.tmps) = false ∧ ∃ b, vf (updT B k b) = undef ∧ C (onL L k) (updT B k b) w)
def DepT (md : Region.Mode) (ops : Array Oper) (k : Nat) (vf : BkT T → Value) : Prop := ∀ B B' : BkT T, (∀ j, reach md ops fuelR k j = true → B j = B' j) → vf B = vf B'
/-- The walk. -/
def wpEffT (md : Region.Mode) (P : Program) (ops : Array Oper) (C : (Nat → Bool) → BkT T → World → Prop) (Q : BkT T → Act → Prop) : List Oper → Nat → (BkT T → Act) → Prop
  | [], _, a => ∀ B, Q B (a B)
  | o :: rest, k, a => ∃ vf : BkT T → Value, DepT md ops k vf ∧ (∀ B, EffInT md P ops C o k vf (a B) B) ∧ wpEffT md P ops C Q rest (k + 1) (fun B => (a B).put o.dst (vf B))
theorem effUponT_const {K : World → Prop} {K' : T → World → Prop} {v : Value} {vf : T → Value} {b : T} (hv : vf b = v) (hK : ∀ w, K w → K' b w) {r : Result Next} (h : effUpon P K v r) : effUponT P K' vf r := by
  cases r with
  | ok n w' =>
    cases n <;> simp only [effUpon, effUponT] at h ⊢
    case value u => exact ⟨b, by rw [hv]; exact h.1, hK _ h.2⟩
    case skip => exact ⟨b, by rw [hv]; exact h.1, hK _ h.2⟩
    case enter f args => exact h.mono fun e w'' ⟨he, hw⟩ => ⟨b, by rw [hv]; exact he, hK _ hw⟩
  | halt x w' => simp only [effUpon] at h
/-- A value that hangs on what is told of those that it waits for. -/
theorem wpEffT_dep {Q : BkT T → Act → Prop} {o : Oper} {rest : List Oper} {k : Nat} {a : BkT T → Act} (vf : BkT T → Value) (hd : DepT md ops k vf)
    (h1 : ∀ B L w, L k = false → (∀ j, waitsFor md o j = true → L j = true) → C L B w → (Region.wanted o (yielded ops (a B).tmps) = true ∧ effAt P o (a B) (vf B) (C (onL L k) B) w) ∨ (Region.wanted o (yielded ops (a B).tmps) = false ∧ vf B = undef ∧ C (onL L k) B w))
    (h2 : wpEffT md P ops C Q rest (k + 1) (fun B => (a B).put o.dst (vf B))) : wpEffT md P ops C Q (o :: rest) k a := by
  refine ⟨vf, hd, fun B L w hL hD hC => ?_, h2⟩
  rcases h1 B L w hL hD hC with ⟨hw, he⟩ | ⟨hw, hv, hc⟩
  · refine .inl ⟨hw, effUponT_const (b := B k) (by show vf _ = _; rw [updT_self]) (fun w h => ?_) he⟩
    rw [updT_self]
    exact h
  · refine .inr ⟨hw, B k, by rw [updT_self]; exact hv, ?_⟩
    rw [updT_self]
    exact hc
theorem wpEffT_cons {Q : BkT T → Act → Prop} {o : Oper} {rest : List Oper} {k : Nat} {a : BkT T → Act} {v : Value}
    (h1 : ∀ B L w, L k = false → (∀ j, waitsFor md o j = true → L j = true) → C L B w → (Region.wanted o (yielded ops (a B).tmps) = true ∧ effAt P o (a B) v (C (onL L k) B) w) ∨ (Region.wanted o (yielded ops (a B).tmps) = false ∧ v = undef ∧ C (onL L k) B w))
    (h2 : wpEffT md P ops C Q rest (k + 1) (fun B => (a B).put o.dst v)) : wpEffT md P ops C Q (o :: rest) k a :=
  wpEffT_dep (fun _ => v) (fun _ _ _ => rfl) h1 h2
theorem wpEffT_free {Q : BkT T → Act → Prop} {o : Oper} {rest : List Oper} {k : Nat} {a : BkT T → Act} (vf : T → Value)
    (h1 : ∀ B L w, L k = false → (∀ j, waitsFor md o j = true → L j = true) → C L B w → (Region.wanted o (yielded ops (a B).tmps) = true ∧ effAtT P o (a B) vf (fun b w' => C (onL L k) (updT B k b) w') w) ∨ (Region.wanted o (yielded ops (a B).tmps) = false ∧ ∃ b, vf b = undef ∧ C (onL L k) (updT B k b) w))
    (h2 : wpEffT md P ops C Q rest (k + 1) (fun B => (a B).put o.dst (vf (B k)))) : wpEffT md P ops C Q (o :: rest) k a := by
  refine ⟨fun B => vf (B k), fun B B' h => by show vf _ = vf _; rw [h k (by simp [reach])], fun B L w hL hD hC => ?_, h2⟩
  have := h1 B L w hL hD hC
  simpa only [updT_at] using this
theorem wpEffT_nil {Q : BkT T → Act → Prop} {k : Nat} {a : BkT T → Act} (h : ∀ B, Q B (a B)) : wpEffT md P ops C Q [] k a := h
theorem wpEffT_values {Q : BkT T → Act → Prop} (l : List Oper) (k : Nat) (a : BkT T → Act) (hl : ∀ j, l[j]? = ops[k + j]?) (h : wpEffT md P ops C Q l k a) :
    ∃ vf : Nat → BkT T → Value, (∀ j, DepT md ops j (vf j)) ∧ (∀ j o, l[j]? = some o → ∀ B, EffInT md P ops C o (k + j) (vf (k + j)) (frameL ops (fun j => vf j B) (List.range' k j) (a B)) B) ∧ ∀ B, Q B (frameL ops (fun j => vf j B) (List.range' k l.length) (a B)) := by
  induction l generalizing k a with
  | nil => exact ⟨fun _ _ => undef, fun _ _ _ _ => rfl, fun j o hj => (by simp at hj), fun B => h B⟩
  | cons o l ih =>
    obtain ⟨v, hdp, he, hr⟩ := h
    obtain ⟨V, h0, h1, h2⟩ := ih (k + 1) _ (fun j => by have := hl (j + 1); simpa [Nat.add_assoc, Nat.add_comm 1 j] using this) hr
    have hd : dstOf ops k = o.dst := by
      have := hl 0
      simp at this
      simp [dstOf, ← this]
    have hF : ∀ B j, frameL ops (fun i => (if i = k then v else V i) B) (List.range' k (j + 1)) (a B) = frameL ops (fun i => V i B) (List.range' (k + 1) j) ((a B).put o.dst (v B)) := fun B j => by
      rw [List.range'_succ]
      show frameL ops _ (List.range' (k + 1) j) ((a B).put (dstOf ops k) ((if k = k then v else V k) B)) = _
      rw [if_pos rfl, hd]
      refine frameL_congr _ _ _ _ fun i hi => ?_
      have := (List.mem_range'_1.1 hi).1
      show (if i = k then v else V i) B = V i B
      rw [if_neg (by omega)]
    refine ⟨fun i => if i = k then v else V i, fun j => ?_, fun j o' hj B => ?_, fun B => ?_⟩
    · show DepT md ops j (if j = k then v else V j)
      by_cases hjk : j = k
      · rw [if_pos hjk, hjk]; exact hdp
      · rw [if_neg hjk]; exact h0 j
    · cases j with
      | zero =>
        simp at hj
        subst hj
        simpa [frameL] using he B
      | succ j =>
        have hj' : l[j]? = some o' := by simpa using hj
        have := h1 j o' hj' B
        rw [hF B j]
        have e : k + (j + 1) = k + 1 + j := by omega
        simp only [e]
        rw [if_neg (by omega)]
        exact this
    · rw [List.length_cons, hF]
      exact h2 B
theorem wpAny_effT {vf : Nat → BkT T → Value} {a0 : Act} {Q : Exit → Act → World → Prop} (hB : effB md ops = true) (hd : ∀ j, DepT md ops j (vf j)) (hV : ∀ j o, ops[j]? = some o → ∀ B, EffInT md P ops C o j (vf j) (frameL ops (fun j => vf j B) (List.range' 0 j) a0) B)
    (hQ : ∀ B w, C (fun j => decide (j < ops.size)) B w → Q .normal (frameL ops (fun j => vf j B) (List.range' 0 ops.size) a0) w) (fuel : Nat) (listed : Array Bool) (a : Act) (w : World) (B : BkT T) (h : EffInv ops md (fun _ _ => True) (fun j => vf j B) a0 fuel listed a w) (hc : C (Lof listed) B w) : wpAny P md ops Q fuel listed a w := by
  induction fuel generalizing listed a w B with
  | zero =>
    have hnil := List.eq_nil_of_length_eq_zero h.cnt.symm
    have hal : ∀ j, j < ops.size → Lof listed j = true := fun j hj => by
      have := List.filter_eq_nil_iff.1 hnil j (List.mem_range'_1.2 ⟨by omega, by omega⟩)
      simpa using this
    have hLe : Lof listed = fun j => decide (j < ops.size) := by
      funext j
      by_cases hj : j < ops.size
      · rw [hal j hj, decide_eq_true hj]
      · rw [decide_eq_false hj]
        cases hx : Lof listed j with
        | false => rfl
        | true => exact absurd (h.size ▸ Lof_lt hx) hj
    refine ⟨?_, ?_⟩
    · refine List.eq_nil_iff_forall_not_mem.2 fun i hi => ?_
      obtain ⟨h0, _⟩ := mem_ready.1 hi
      obtain ⟨h1, h2⟩ := getD_tf h0
      rw [hal i (h.size ▸ h1)] at h2
      cases h2
    · have hf := h.frame
      rw [List.filter_eq_self.2 (fun j hj => hal j (by have := (List.mem_range'_1.1 hj).2; omega))] at hf
      rw [hf]
      exact hQ B w (hLe ▸ hc)
  | succ fuel ih =>
    refine ⟨fun hnil => ?_, fun i hi => ?_⟩
    · exfalso
      have hal : ∀ k, k ≤ ops.size → ∀ j, j < k → Lof listed j = true := by
        intro k
        induction k with
        | zero => intro _ j hj; omega
        | succ k ihk =>
          intro hk j hj
          by_cases hjk : j < k
          · exact ihk (by omega) j hjk
          · obtain rfl : j = k := by omega
            cases hx : Lof listed j with
            | true => rfl
            | false =>
              exfalso
              obtain ⟨o, ho⟩ : ∃ o, ops[j]? = some o := ⟨_, Array.getElem?_eq_getElem (by omega)⟩
              have : j ∈ Region.ready md ops listed := mem_ready.2 ⟨getD_ft (by rw [h.size]; omega) hx, o, ho, fun e he hb => ihk (by omega) e.on (((effB_spec hB).2 j o ho).1 e he hb)⟩
              rw [hnil] at this
              cases this
      have := h.cnt
      rw [List.filter_eq_nil_iff.2 (fun j hj => by rw [hal ops.size (Nat.le_refl _) j (by have := (List.mem_range'_1.1 hj).2; omega)]; simp)] at this
      simp at this
    · obtain ⟨h0, o, ho, hal⟩ := mem_ready.1 hi
      obtain ⟨hex, hwa⟩ := h.looks hB ho hi
      have hiL := (getD_tf h0).2
      have stepE : ∀ b w', C (onL (Lof listed) i) (updT B i b) w' → wpAny P md ops Q fuel (listed.setIfInBounds i true) (a.put o.dst (vf i (updT B i b))) w' := fun b w' hc' => by
        have h' := h.congrV (V' := fun j => vf j (updT B i b)) (fun j hj => hd j _ _ fun j' hj' => by
          have := reach_listed h.down fuelR j j' hj hj'
          unfold updT
          rw [if_neg (fun e => by rw [e, hiL] at this; cases this)])
        have h2 := h'.step hB ho hi (w' := w') trivial
        exact ih _ _ _ (updT B i b) h2 (by rw [Lof_set (by rw [h.size]; exact (Array.getElem?_eq_some_iff.1 ho).1)]; exact hc')
      have hE := hV i o ho B (Lof listed) w (getD_tf h0).2 (fun j hj => by
        unfold waitsFor at hj
        rw [← Array.any_toList, List.any_eq_true] at hj
        obtain ⟨e, he, h3⟩ := hj
        simp only [Bool.and_eq_true, beq_iff_eq] at h3
        rw [← h3.2]
        exact hal e (by simpa using he) h3.1) hc
      unfold wpOp
      simp only [ho]
      rw [hwa]
      rcases hE with ⟨hw, hE⟩ | ⟨hw, b, hv, hE⟩
      · simp only [hw, if_true]
        refine .inl ?_
        unfold effAtT at hE
        unfold Oper.wp
        rw [hex]
        generalize (execOp (frameL ops (fun j => vf j B) (List.range' 0 i) a0).eval o).run P w = r at hE ⊢
        cases r with
        | ok n w' =>
          cases n <;> simp only [effUponT] at hE <;> simp only [Oper.upon]
          case value u =>
            obtain ⟨b, e1, e2⟩ := hE
            rw [e1]
            exact stepE b _ e2
          case skip =>
            obtain ⟨b, e1, e2⟩ := hE
            rw [← e1]
            exact stepE b _ e2
          case enter f args =>
            exact hE.mono fun e w'' ⟨b, he, hw''⟩ => by subst he; exact stepE b _ hw''
        | halt x w' => simp only [effUponT] at hE
      · simp only [hw, Bool.false_eq_true, if_false]
        rw [← hv]
        exact stepE b _ hE
/-- A drawn region, walked once. -/
theorem wp_region_effT {id : Nat} {Q : Exit → Act → World → Prop} {a : Act} {w : World} {l : List Oper} (C : (Nat → Bool) → BkT T → World → Prop) (B0 : BkT T) (hm : P.follows .mixedOrders = true) (hB : effB .any l.toArray = true) (hC : C (fun _ => false) B0 w.drew)
    (h : wpEffT .any P l.toArray C (fun B a' => ∀ w', C (fun j => decide (j < l.length)) B w' → Q .normal a' w') l 0 (fun _ => a)) : (Code.region id l.toArray true).wp P Q a w := by
  obtain ⟨V, h0, h1, h2⟩ := wpEffT_values l 0 (fun _ => a) (fun j => by simp) h
  refine wp_region_any hm ?_
  have hL0 : Lof (Array.replicate l.toArray.size false) = fun _ => false := by
    funext j
    unfold Lof
    by_cases hj : j < l.length
    · simp [hj]
    · simp [Nat.le_of_not_lt hj]
  refine wpAny_effT (vf := V) (a0 := a) hB h0 (fun j o hj B => ?_) (fun B w' hw' => ?_) _ _ _ w.drew B0 ⟨by simp, fun j o _ hj => (by rw [hL0] at hj; cases hj), ?_, trivial, ?_⟩ (by rw [hL0]; exact hC)
  · have := h1 j o (by simpa using hj) B
    simpa using this
  · have := h2 B w' (by simpa using hw')
    simpa using this
  · rw [hL0, List.filter_eq_nil_iff.2 (fun j _ => by simp)]; rfl
  · rw [hL0, List.filter_eq_self.2 (fun j _ => by simp)]; simp
end
end Go.Proofs.YtippdjaakcgeoaaGreat

namespace Go.Proofs.YtippdjaakcgeoaaGreat
open Go Go.RowKit
set_option linter.unusedVariables false
set_option linter.unusedSimpArgs false
/-- Call (kc), slice made (kb), append (ka), store (ks). -/
def RgAppT (md : Region.Mode) (ops : Array Oper) (kc kb ka ks : Nat) {T : Type} (S0 : World → Prop) (S1 : T → World → Prop) (S2 S3 S4 : T → T → World → Prop) (L : Nat → Bool) (B : BkT T) (w : World) : Prop :=
  DownB md ops L ∧ (if L ks = true then S4 (B kc) (B ka) w else if L ka = true then S3 (B kc) (B ka) w else if L kb = true then S2 (B kc) (B kb) w else if L kc = true then S1 (B kc) w else S0 w)
section
variable {md : Region.Mode} {ops : Array Oper} {kc kb ka ks : Nat} {T : Type} {S0 : World → Prop} {S1 : T → World → Prop} {S2 S3 S4 : T → T → World → Prop} {L : Nat → Bool} {B : BkT T} {w w' : World} {o : Oper}
theorem RgAppT.start (h : S0 w) : RgAppT md ops kc kb ka ks S0 S1 S2 S3 S4 (fun _ => false) B w := ⟨fun _ _ _ h => (by cases h), by simpa using h⟩
theorem updT_neB {j k : Nat} {b : T} (h : (k != j) = true) : updT B j b k = B k := if_neg (by simpa using h)
theorem RgAppT.keep (h : RgAppT md ops kc kb ka ks S0 S1 S2 S3 S4 L B w) {j : Nat} (ho : ops[j]? = some o) (hD : ∀ i, waitsFor md o i = true → L i = true) (n1 : (kc != j) = true) (n2 : (kb != j) = true) (n3 : (ka != j) = true) (n4 : (ks != j) = true) : RgAppT md ops kc kb ka ks S0 S1 S2 S3 S4 (onL L j) B w :=
  ⟨h.1.step ho hD, by rw [onL_neB n1, onL_neB n2, onL_neB n3, onL_neB n4]; exact h.2⟩
theorem RgAppT.all (h : RgAppT md ops kc kb ka ks S0 S1 S2 S3 S4 L B w) {φ : Prop} (h0 : S0 w → φ) (h1 : ∀ a, S1 a w → φ) (h2 : ∀ a b, S2 a b w → φ) (h3 : ∀ a b, S3 a b w → φ) (h4 : ∀ a b, S4 a b w → φ) : φ := by
  have h5 := h.2
  split at h5
  · exact h4 _ _ h5
  split at h5
  · exact h3 _ _ h5
  split at h5
  · exact h2 _ _ h5
  split at h5
  · exact h1 _ h5
  · exact h0 h5
theorem RgAppT.early (h : RgAppT md ops kc kb ka ks S0 S1 S2 S3 S4 L B w) {j : Nat} (hL : L j = false) (hj : waitsB md ops ka j = true) (hs : waitsB md ops ks ka = true) {φ : Prop} (h0 : S0 w → φ) (h1 : ∀ a, S1 a w → φ) (h2 : ∀ a b, S2 a b w → φ) : φ := by
  have h5 := h.2
  have ha := h.1.no hj hL
  rw [ha, h.1.no hs ha, if_neg (by simp), if_neg (by simp)] at h5
  split at h5
  · exact h2 _ _ h5
  split at h5
  · exact h1 _ h5
  · exact h0 h5
theorem RgAppT.call (h : RgAppT md ops kc kb ka ks S0 S1 S2 S3 S4 L B w) (hL : L kc = false) (hb : waitsB md ops kb kc = true) (ha : waitsB md ops ka kb = true) (hs : waitsB md ops ks ka = true) (ho : ops[kc]? = some o) (hD : ∀ i, waitsFor md o i = true → L i = true) (n2 : (kb != kc) = true) (n3 : (ka != kc) = true) (n4 : (ks != kc) = true) :
    S0 w ∧ ∀ w' b, S1 b w' → RgAppT md ops kc kb ka ks S0 S1 S2 S3 S4 (onL L kc) (updT B kc b) w' := by
  have lb := h.1.no hb hL
  have la := h.1.no ha lb
  have ls := h.1.no hs la
  refine ⟨by simpa [lb, la, ls, hL] using h.2, fun w' b h1 => ⟨h.1.step ho hD, ?_⟩⟩
  rw [onL_neB n2, onL_neB n3, onL_neB n4, onL_self, lb, la, ls]
  simpa [updT] using h1
theorem RgAppT.build (h : RgAppT md ops kc kb ka ks S0 S1 S2 S3 S4 L B w) (hL : L kb = false) (hc : L kc = true) (ha : waitsB md ops ka kb = true) (hs : waitsB md ops ks ka = true) (ho : ops[kb]? = some o) (hD : ∀ i, waitsFor md o i = true → L i = true) (n1 : (kc != kb) = true) (n3 : (ka != kb) = true) (n4 : (ks != kb) = true) :
    S1 (B kc) w ∧ ∀ w' b, S2 (B kc) b w' → RgAppT md ops kc kb ka ks S0 S1 S2 S3 S4 (onL L kb) (updT B kb b) w' := by
  have la := h.1.no ha hL
  have ls := h.1.no hs la
  refine ⟨by simpa [la, ls, hL, hc] using h.2, fun w' b h1 => ⟨h.1.step ho hD, ?_⟩⟩
  rw [onL_neB n3, onL_neB n4, onL_self, la, ls, updT_neB n1, updT_at]
  simpa using h1
theorem RgAppT.app (h : RgAppT md ops kc kb ka ks S0 S1 S2 S3 S4 L B w) (hL : L ka = false) (hb : L kb = true) (hs : waitsB md ops ks ka = true) (ho : ops[ka]? = some o) (hD : ∀ i, waitsFor md o i = true → L i = true) (n1 : (kc != ka) = true) (n4 : (ks != ka) = true) :
    S2 (B kc) (B kb) w ∧ ∀ w' b, S3 (B kc) b w' → RgAppT md ops kc kb ka ks S0 S1 S2 S3 S4 (onL L ka) (updT B ka b) w' := by
  have ls := h.1.no hs hL
  refine ⟨by simpa [ls, hL, hb] using h.2, fun w' b h1 => ⟨h.1.step ho hD, ?_⟩⟩
  rw [onL_neB n4, onL_self, ls, updT_neB n1, updT_at]
  simpa using h1
theorem RgAppT.store (h : RgAppT md ops kc kb ka ks S0 S1 S2 S3 S4 L B w) (hL : L ks = false) (ha : L ka = true) (ho : ops[ks]? = some o) (hD : ∀ i, waitsFor md o i = true → L i = true) :
    S3 (B kc) (B ka) w ∧ ∀ w', S4 (B kc) (B ka) w' → RgAppT md ops kc kb ka ks S0 S1 S2 S3 S4 (onL L ks) B w' := by
  refine ⟨by simpa [hL, ha] using h.2, fun w' h1 => ⟨h.1.step ho hD, ?_⟩⟩
  rw [onL_self]
  simpa using h1
theorem RgAppT.fin (h : RgAppT md ops kc kb ka ks S0 S1 S2 S3 S4 L B w) (hs : L ks = true) : S4 (B kc) (B ka) w := by
  have h5 := h.2
  rwa [if_pos hs] at h5
end
/-- An append in such a region. -/
theorem effAtT_append {P : Program} {T : Type} {E : TypeId} {size n cap : Nat} {A : Option Addr} {cs : List Value} {F : Nat → Prop} {w : World} {o : Oper} {a : Act} {vf : T → Value} {K : T → World → Prop} (s x : Operand) (t : TypeId)
    (ho : o.op = .call { callee := .builtin .append, args := #[s, x], argTypes := #[t, t] }) (bytes : Nat) (z : Value) (ht : P.underlying t = some (.slice E))
    (hinfo : (P.info? E).map (fun i => (i.zero, i.size, i.bytes)) = some (some z, size, bytes)) (hzs : z.cells.size = size) (hsz : 0 < size)
    (hs : a.eval s = .slice A n cap) (hown : Own w E size A n cap cs) {A2 : Option Addr} {m c : Nat} {news : List Value} (hx : a.eval x = .slice A2 m c) (hsl : Sl w F A2 news) (hl : news.length = m * size) (h1 : ∀ u ∈ news, u.oneCell' = true)
    (hbytes : (n + m) * bytes ≤ 140737488355328) (hmax : n + m ≤ maxLen)
    (h : ∀ A' cap' w', AppTo w E size A n cap m cs news A' cap' w' → ∃ b, .slice A' (n + m) cap' = vf b ∧ K b w') : effAtT P o a vf K w := by
  obtain ⟨A', cap', w', hrun, h2⟩ := run_append_two (P := P) w t o.type bytes z ht hinfo hzs hsz hown hsl hl h1 hbytes hmax (c := c)
  unfold effAtT execOp
  simp only [ho, resolve, invoke, builtin, Sem.run_bind, Sem.run_pure, Result.andThen_ok, List.map_toArray, List.map_cons, List.map_nil, hs, hx]
  rw [hrun]
  exact h A' cap' w' h2
/-- Such a region, walked once. -/
theorem wp_region_appT {T : Type} {P : Program} {id : Nat} {Q : Exit → Act → World → Prop} {a : Act} {w : World} {l : List Oper} (kc kb ka ks : Nat) (S0 : World → Prop) (S1 : T → World → Prop) (S2 S3 S4 : T → T → World → Prop) (B0 : BkT T) (hm : P.follows .mixedOrders = true) (hB : effB .any l.toArray = true) (h0 : S0 w.drew)
    (h : wpEffT .any P l.toArray (RgAppT .any l.toArray kc kb ka ks S0 S1 S2 S3 S4) (fun B a' => ∀ w', RgAppT .any l.toArray kc kb ka ks S0 S1 S2 S3 S4 (fun j => decide (j < l.length)) B w' → Q .normal a' w') l 0 (fun _ => a)) : (Code.region id l.toArray true).wp P Q a w :=
  wp_region_effT (RgAppT .any l.toArray kc kb ka ks S0 S1 S2 S3 S4) B0 hm hB (RgAppT.start h0) h
end Go.Proofs.YtippdjaakcgeoaaGreat

namespace Go.Proofs.YtippdjaakcgeoaaGreat
open Go Go.RowKit
set_option linter.unusedVariables false
set_option linter.unusedSimpArgs false
def RgTwo (md : Region.Mode) (ops : Array Oper) (kc ks : Nat) {T : Type} (S0 : World → Prop) (S1 S2 : T → World → Prop) (L : Nat → Bool) (B : BkT T) (w : World) : Prop :=
  DownB md ops L ∧ (if L ks = true then S2 (B kc) w else if L kc = true then S1 (B kc) w else S0 w)
section
variable {md : Region.Mode} {ops : Array Oper} {kc ks : Nat} {T : Type} {S0 : World → Prop} {S1 S2 : T → World → Prop} {L : Nat → Bool} {B : BkT T} {w w' : World} {o : Oper}
theorem RgTwo.start (h : S0 w) : RgTwo md ops kc ks S0 S1 S2 (fun _ => false) B w := ⟨fun _ _ _ h => (by cases h), by simpa using h⟩
theorem RgTwo.keep (h : RgTwo md ops kc ks S0 S1 S2 L B w) {j : Nat} (ho : ops[j]? = some o) (hD : ∀ i, waitsFor md o i = true → L i = true) (n1 : (kc != j) = true) (n4 : (ks != j) = true) : RgTwo md ops kc ks S0 S1 S2 (onL L j) B w :=
  ⟨h.1.step ho hD, by rw [onL_neB n1, onL_neB n4]; exact h.2⟩
theorem RgTwo.early (h : RgTwo md ops kc ks S0 S1 S2 L B w) {j : Nat} (hL : L j = false) (hj : waitsB md ops ks j = true) {φ : Prop} (h0 : S0 w → φ) (h1 : ∀ a, S1 a w → φ) : φ := by
  have h5 := h.2
  rw [h.1.no hj hL, if_neg (by simp)] at h5
  split at h5
  · exact h1 _ h5
  · exact h0 h5
theorem RgTwo.call (h : RgTwo md ops kc ks S0 S1 S2 L B w) (hL : L kc = false) (hs : waitsB md ops ks kc = true) (ho : ops[kc]? = some o) (hD : ∀ i, waitsFor md o i = true → L i = true) (n4 : (ks != kc) = true) :
    S0 w ∧ ∀ w' b, S1 b w' → RgTwo md ops kc ks S0 S1 S2 (onL L kc) (updT B kc b) w' := by
  have ls := h.1.no hs hL
  refine ⟨by simpa [ls, hL] using h.2, fun w' b h1 => ⟨h.1.step ho hD, ?_⟩⟩
  rw [onL_neB n4, onL_self, ls]
  simpa [updT] using h1
theorem RgTwo.last (h : RgTwo md ops kc ks S0 S1 S2 L B w) (hL : L ks = false) (hc : L kc = true) (ho : ops[ks]? = some o) (hD : ∀ i, waitsFor md o i = true → L i = true) :
    S1 (B kc) w ∧ ∀ w', S2 (B kc) w' → RgTwo md ops kc ks S0 S1 S2 (onL L ks) B w' := by
  refine ⟨by simpa [hL, hc] using h.2, fun w' h1 => ⟨h.1.step ho hD, ?_⟩⟩
  rw [onL_self]
  simpa using h1
theorem RgTwo.fin (h : RgTwo md ops kc ks S0 S1 S2 L B w) (hs : L ks = true) : S2 (B kc) w := by
  have h5 := h.2
  rwa [if_pos hs] at h5
end
/-- A struct's, or an array's, cells loaded in such a region. -/
theorem effAt_cells {P : Program} {o : Oper} {a : Act} {w : World} {K : World → Prop} (ty : TypeId) (x : Operand) (ho : o.op = .load ty x) (g off : Nat) (hx : a.eval x = .pointer (some ⟨g, off, none⟩)) (cs : List Value) (d : TypeDesc) (hc : ∀ j v, cs[j]? = some v → w.cell? ⟨g, off + j, none⟩ = some v)
    (hu : P.underlying ty = some d) (hd : (match d with | .struct _ | .array _ _ => true | _ => false) = true) (hi : (P.info? ty).map (·.size) = some cs.length) (h : K w) : effAt P o a (.agg cs.toArray) K w := by
  unfold effAt execOp
  simp only [ho, hx, Instr.loadAt, Instr.sureAddr, Sem.run_bind, Sem.run_pure, Result.andThen_ok, run_loadVar_cells w g off ty cs d hc hu hd hi]
  exact ⟨rfl, h⟩
theorem wp_region_two {T : Type} {P : Program} {id : Nat} {Q : Exit → Act → World → Prop} {a : Act} {w : World} {l : List Oper} (kc ks : Nat) (S0 : World → Prop) (S1 S2 : T → World → Prop) (B0 : BkT T) (hm : P.follows .mixedOrders = true) (hB : effB .any l.toArray = true) (h0 : S0 w.drew)
    (h : wpEffT .any P l.toArray (RgTwo .any l.toArray kc ks S0 S1 S2) (fun B a' => ∀ w', RgTwo .any l.toArray kc ks S0 S1 S2 (fun j => decide (j < l.length)) B w' → Q .normal a' w') l 0 (fun _ => a)) : (Code.region id l.toArray true).wp P Q a w :=
  wp_region_effT (RgTwo .any l.toArray kc ks S0 S1 S2) B0 hm hB (RgTwo.start h0) h
end Go.Proofs.YtippdjaakcgeoaaGreat

namespace Go.Proofs.YtippdjaakcgeoaaGreat
open Go Go.RowKit
set_option linter.unusedVariables false
set_option linter.unusedSimpArgs false
/-- One letter sent: what waits, how many went. -/
def sendStep (a : (Nm → List LetF) × Nat) (x : LetF) : (Nm → List LetF) × Nat :=
  if letOk x = true ∧ (a.1 (x.src, x.dst)).length < 40 then (fun n => if n = (x.src, x.dst) then a.1 n ++ [x] else a.1 n, a.2 + 1) else a
def sendP (p : Nm → List LetF) (l : List LetF) : (Nm → List LetF) × Nat := l.foldl sendStep (p, 0)
theorem sendP_snoc (p : Nm → List LetF) (l : List LetF) (x : LetF) : sendP p (l ++ [x]) = sendStep (sendP p l) x := by unfold sendP; rw [List.foldl_append]; rfl
theorem sendP_le (p : Nm → List LetF) (l : List LetF) : (sendP p l).2 ≤ l.length := by
  unfold sendP
  have h : ∀ (l : List LetF) (a : (Nm → List LetF) × Nat), (l.foldl sendStep a).2 ≤ a.2 + l.length := by
    intro l
    induction l with
    | nil => intro a; simp
    | cons x l ih =>
      intro a
      rw [List.foldl_cons, List.length_cons]
      have h1 := ih (sendStep a x)
      have h2 : (sendStep a x).2 ≤ a.2 + 1 := by
        unfold sendStep
        split
        · exact Nat.le_refl _
        · exact Nat.le_succ _
      omega
  have := h l (p, 0)
  omega
def BldC (md : Region.Mode) (ops : Array Oper) (k : Nat) (W1 : World) (cs : List Value) (L : Nat → Bool) (B : BkT Nat) (w : World) : Prop :=
  DownB md ops L ∧ Nw W1 w ∧ (L k = true → Sl w (· = B k) (some ⟨B k, 0, none⟩) cs)
section
variable {md : Region.Mode} {ops : Array Oper} {k : Nat} {W1 w w' : World} {cs : List Value} {L : Nat → Bool} {B : BkT Nat} {o : Oper}
theorem BldC.step (h : BldC md ops k W1 cs L B w) (q : Nw w w') {j : Nat} (ho : ops[j]? = some o) (hD : ∀ i, waitsFor md o i = true → L i = true) (n : (k != j) = true) : BldC md ops k W1 cs (onL L j) B w' :=
  ⟨h.1.step ho hD, h.2.1.tr q, by rw [onL_neB n]; exact fun e => (h.2.2 e).fr q (fun _ _ h => h)⟩
theorem BldC.keep (h : BldC md ops k W1 cs L B w) {j : Nat} (ho : ops[j]? = some o) (hD : ∀ i, waitsFor md o i = true → L i = true) (n : (k != j) = true) : BldC md ops k W1 cs (onL L j) B w := h.step (Fr.refl _ _) ho hD n
theorem BldC.build (h : BldC md ops k W1 cs L B w) (q : Nw w w') (ho : ops[k]? = some o) (hD : ∀ i, waitsFor md o i = true → L i = true) (hs : Sl w' (· = w.heap.size) (some ⟨w.heap.size, 0, none⟩) cs) : BldC md ops k W1 cs (onL L k) (updT B k w.heap.size) w' :=
  ⟨h.1.step ho hD, h.2.1.tr q, fun _ => by rw [updT_at]; exact hs⟩
end
theorem wp_region_bld {P : Program} {id : Nat} {Q : Exit → Act → World → Prop} {a : Act} {w : World} {l : List Oper} (k : Nat) (W1 : World) (cs : List Value) (hm : P.follows .mixedOrders = true) (hB : effB .any l.toArray = true) (h0 : Nw W1 w)
    (h : wpEffT .any P l.toArray (BldC .any l.toArray k W1 cs) (fun B a' => ∀ w', BldC .any l.toArray k W1 cs (fun j => decide (j < l.length)) B w' → Q .normal a' w') l 0 (fun _ => a)) : (Code.region id l.toArray true).wp P Q a w :=
  wp_region_effT (BldC .any l.toArray k W1 cs) (fun _ => 0) hm hB ⟨fun _ _ _ h => (by cases h), h0.drew, fun h => (by cases h)⟩ h
end Go.Proofs.YtippdjaakcgeoaaGreat

namespace Go.Proofs.YtippdjaakcgeoaaGreat
open Go Go.RowKit
set_option linter.unusedVariables false

theorem lnk_append (A B : List LetF) (n : Nm) : lnk (A ++ B) n = lnk A n ++ lnk B n := by unfold lnk; rw [List.filter_append]
theorem lnk_self {l : List LetF} {n : Nm} (h : ∀ x ∈ l, (x.src, x.dst) = n) : lnk l n = l := by
  unfold lnk
  rw [List.filter_eq_self]
  intro x hx
  exact decide_eq_true (h x hx)
theorem lnk_other {l : List LetF} {n m : Nm} (h : ∀ x ∈ l, (x.src, x.dst) = n) (hne : m ≠ n) : lnk l m = [] := by
  unfold lnk
  rw [List.filter_eq_nil_iff]
  intro x hx
  rw [h x hx]
  simpa using fun e : n = m => hne e.symm
theorem lnk_mem {L : List LetF} {n : Nm} {x : LetF} (h : x ∈ lnk L n) : x ∈ L ∧ (x.src, x.dst) = n := by
  unfold lnk at h
  rw [List.mem_filter] at h
  exact ⟨h.1, of_decide_eq_true h.2⟩
theorem lnk_le (L : List LetF) (n : Nm) : (lnk L n).length ≤ L.length := List.length_filter_le _ _
/-- All but a link's letters. -/
def offL (L : List LetF) (n : Nm) : List LetF := L.filter fun x => !decide ((x.src, x.dst) = n)
theorem off_lnk (L : List LetF) (n : Nm) : (offL L n).length + (lnk L n).length = L.length := by
  unfold offL lnk
  induction L with
  | nil => rfl
  | cons x L ih =>
    simp only [List.filter_cons]
    by_cases h : (x.src, x.dst) = n
    · simp only [h, decide_true, Bool.not_true, Bool.false_eq_true, if_false, if_true, List.length_cons]
      omega
    · simp only [h, decide_false, Bool.not_false, Bool.false_eq_true, if_false, if_true, List.length_cons]
      omega
def setD (L : List LetF) (n : Nm) (l : List LetF) : List LetF := offL L n ++ l
theorem lnk_off (L : List LetF) (n m : Nm) : lnk (offL L n) m = if m = n then [] else lnk L m := by
  unfold lnk offL
  rw [List.filter_filter]
  split
  · rename_i e
    subst e
    rw [List.filter_eq_nil_iff]
    intro x _
    by_cases h : (x.src, x.dst) = m <;> simp [h]
  · rename_i e
    refine List.filter_congr fun x _ => ?_
    by_cases h : (x.src, x.dst) = m
    · have h2 : ¬ (x.src, x.dst) = n := fun h3 => e (h.symm.trans h3)
      simp [h, h2]
      exact fun h3 => e h3
    · simp [h]
theorem lnk_set (L : List LetF) (n m : Nm) (l : List LetF) (h : ∀ x ∈ l, (x.src, x.dst) = n) : lnk (setD L n l) m = if m = n then l else lnk L m := by
  unfold setD
  rw [lnk_append, lnk_off]
  split
  · rename_i e
    subst e
    rw [lnk_self h, List.nil_append]
  · rename_i e
    rw [lnk_other h e, List.append_nil]
def sendStepD (a : List LetF × Nat) (x : LetF) : List LetF × Nat := if letOk x = true ∧ (lnk a.1 (x.src, x.dst)).length < 40 then (a.1 ++ [x], a.2 + 1) else a
def sendD (L : List LetF) (l : List LetF) : List LetF × Nat := l.foldl sendStepD (L, 0)
theorem sendD_snoc (L l : List LetF) (x : LetF) : sendD L (l ++ [x]) = sendStepD (sendD L l) x := by unfold sendD; rw [List.foldl_append]; rfl
/-- Links are what a row of letters says. -/
def RelN (p : Nm → List LetF) (L : List LetF) : Prop := ∀ n, p n = lnk L n
theorem relN_step {p : Nm → List LetF} {L : List LetF} {k : Nat} (h : RelN p L) (x : LetF) : RelN (sendStep (p, k) x).1 (sendStepD (L, k) x).1 ∧ (sendStep (p, k) x).2 = (sendStepD (L, k) x).2 := by
  unfold sendStep sendStepD
  simp only []
  rw [h (x.src, x.dst)]
  split
  · refine ⟨fun n => ?_, rfl⟩
    simp only []
    rw [lnk_append]
    by_cases e : n = (x.src, x.dst)
    · rw [if_pos e, e, lnk_self (l := [x]) (n := (x.src, x.dst)) (fun y hy => by rw [List.mem_singleton.1 hy]), h]
    · rw [if_neg e, lnk_other (l := [x]) (n := (x.src, x.dst)) (fun y hy => by rw [List.mem_singleton.1 hy]) e, List.append_nil, h]
  · exact ⟨h, rfl⟩
theorem relN_send {p : Nm → List LetF} {L : List LetF} (h : RelN p L) (l : List LetF) : RelN (sendP p l).1 (sendD L l).1 ∧ (sendP p l).2 = (sendD L l).2 := by
  unfold sendP sendD
  have key : ∀ (l : List LetF) (a : (Nm → List LetF) × Nat) (b : List LetF × Nat), RelN a.1 b.1 → a.2 = b.2 → RelN (l.foldl sendStep a).1 (l.foldl sendStepD b).1 ∧ (l.foldl sendStep a).2 = (l.foldl sendStepD b).2 := by
    intro l
    induction l with
    | nil => intro a b h1 h2; exact ⟨h1, h2⟩
    | cons x l ih =>
      rintro ⟨a1, a2⟩ ⟨b1, b2⟩ h1 h2
      simp only [] at h1 h2
      subst h2
      rw [List.foldl_cons, List.foldl_cons]
      obtain ⟨h3, h4⟩ := relN_step (k := a2) h1 x
      exact ih _ _ h3 h4
  exact key l (p, 0) (L, 0) h rfl
theorem sendD_len (L l : List LetF) : (sendD L l).1.length ≤ L.length + l.length := by
  unfold sendD
  have key : ∀ (l : List LetF) (b : List LetF × Nat), (l.foldl sendStepD b).1.length ≤ b.1.length + l.length := by
    intro l
    induction l with
    | nil => intro b; simp
    | cons x l ih =>
      intro b
      rw [List.foldl_cons, List.length_cons]
      have h1 := ih (sendStepD b x)
      have h2 : (sendStepD b x).1.length ≤ b.1.length + 1 := by
        unfold sendStepD
        split
        · simp
        · omega
      omega
  exact key l (L, 0)
/-- A link set. -/
def setP (p : Nm → List LetF) (n : Nm) (l : List LetF) : Nm → List LetF := fun m => if m = n then l else p m
theorem relN_set {p : Nm → List LetF} {L : List LetF} (h : RelN p L) (n : Nm) (l : List LetF) (hl : ∀ x ∈ l, (x.src, x.dst) = n) : RelN (setP p n l) (setD L n l) := fun m => by
  rw [lnk_set L n m l hl]
  unfold setP
  split
  · rfl
  · exact h m
theorem relN_on {p : Nm → List LetF} {L : List LetF} (h : RelN p L) {n : Nm} {x : LetF} (hx : x ∈ p n) : (x.src, x.dst) = n := by
  rw [h n] at hx
  exact (lnk_mem hx).2
/-- All that waits for a node, and what is left. -/
def takeP (p : Nm → List LetF) (dst : Int) : Nat → List LetF × (Nm → List LetF)
  | 0 => ([], p)
  | k + 1 => ((takeP p dst k).1 ++ (takeP p dst k).2 (((k + 1 : Nat) : Int), dst), setP (takeP p dst k).2 (((k + 1 : Nat) : Int), dst) [])
def takeD (L : List LetF) (dst : Int) : Nat → List LetF × List LetF
  | 0 => ([], L)
  | k + 1 => ((takeD L dst k).1 ++ lnk (takeD L dst k).2 (((k + 1 : Nat) : Int), dst), setD (takeD L dst k).2 (((k + 1 : Nat) : Int), dst) [])
theorem relN_take {p : Nm → List LetF} {L : List LetF} (h : RelN p L) (dst : Int) (k : Nat) : RelN (takeP p dst k).2 (takeD L dst k).2 ∧ (takeP p dst k).1 = (takeD L dst k).1 := by
  induction k with
  | zero => exact ⟨h, rfl⟩
  | succ k ih =>
    refine ⟨relN_set ih.1 _ [] (by intro x hx; cases hx), ?_⟩
    unfold takeP takeD
    simp only []
    rw [ih.2, ih.1]
theorem takeD_len (L : List LetF) (dst : Int) (k : Nat) : (takeD L dst k).1.length + (takeD L dst k).2.length = L.length := by
  induction k with
  | zero => simp [takeD]
  | succ k ih =>
    unfold takeD setD
    simp only [List.length_append, List.length_nil]
    have := off_lnk (takeD L dst k).2 (((k + 1 : Nat) : Int), dst)
    omega
end Go.Proofs.YtippdjaakcgeoaaGreat
