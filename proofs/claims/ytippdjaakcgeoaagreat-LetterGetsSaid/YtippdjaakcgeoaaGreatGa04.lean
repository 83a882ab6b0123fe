/- Lemmas of the walks: FlA, CpA, ClA, Qld, ClF, FlB, HdA. (Laid together by shake.py.) -/
import Derived.Deep.DeepCutAuto
import Derived.Deep.RegionHeld3
import Derived.Test.YtippdjaakcgeoaaGreatGa02
import Derived.Test.YtippdjaakcgeoaaGreatGa03
set_option linter.unusedVariables false
set_option linter.unusedSimpArgs false
namespace Go.Proofs.YtippdjaakcgeoaaGreat
open Go Go.RowKit

/-- The block that a list may write to: none where it has no room. -/
def hom (A : Option Addr) (c : Nat) : Option Addr := if c = 0 then none else A
theorem hom_pos (A : Option Addr) {c : Nat} (h : 0 < c) : hom A c = A := if_neg (by omega)
theorem hom_in {A : Option Addr} {c b : Nat} (h : inA (hom A c) b) : inA A b ∧ 0 < c := by
  unfold hom at h
  split at h
  · exact (inA_none _ h).elim
  · exact ⟨h, by omega⟩
theorem hom_zero (A : Option Addr) (b : Nat) : ¬ inA (hom A 0) b := fun h => by have := (hom_in h).2; omega
/-- A list of the call's own, or one without any room, wherever it lies. -/
def OwnC (w : World) (E : TypeId) (z : Nat) (A : Option Addr) (n cap : Nat) (cs : List Value) : Prop := (Own w E z A n cap cs ∧ 0 < cap) ∨ (n = 0 ∧ cap = 0 ∧ cs = [])
section
variable {w w' : World} {E E' : TypeId} {z z' n n' cap cap' : Nat} {A A' : Option Addr} {cs cs' : List Value} {S : Nat → Prop}
theorem Own.c (h : Own w E z A n cap cs) : OwnC w E z A n cap cs := by
  rcases Nat.eq_zero_or_pos cap with h0 | h0
  · have h1 := h.cap_le.1
    have h2 : n = 0 := by omega
    have h3 := h.1
    rw [h2, Nat.zero_mul] at h3
    exact .inr ⟨h2, h0, List.eq_nil_of_length_eq_zero h3⟩
  · exact .inl ⟨h, h0⟩
theorem OwnC.zero (w : World) (E : TypeId) (z : Nat) (A : Option Addr) : OwnC w E z A 0 0 [] := .inr ⟨rfl, rfl, rfl⟩
theorem OwnC.len (h : OwnC w E z A n cap cs) : cs.length = n * z := by
  rcases h with ⟨h, _⟩ | ⟨rfl, _, rfl⟩
  · exact h.1
  · simp
theorem OwnC.cap_le (h : OwnC w E z A n cap cs) : n ≤ cap ∧ cap ≤ maxLen := by
  rcases h with ⟨h, _⟩ | ⟨rfl, rfl, rfl⟩
  · exact h.cap_le
  · exact ⟨Nat.le_refl _, Nat.zero_le _⟩
theorem OwnC.fr (h : OwnC w E z A n cap cs) (hf : Fr S w w') (hn : ∀ k, inA (hom A cap) k → ¬ S k) : OwnC w' E z A n cap cs := by
  rcases h with ⟨h, h0⟩ | h
  · exact .inl ⟨h.fr hf (fun k hk => hn k (by rw [hom_pos A h0]; exact hk)), h0⟩
  · exact .inr h
theorem OwnC.nw (h : OwnC w E z A n cap cs) (hf : Nw w w') : OwnC w' E z A n cap cs := h.fr hf (fun _ _ h => h)
theorem OwnC.lt (h : OwnC w E z A n cap cs) : ∀ k, inA (hom A cap) k → k < w.heap.size := by
  intro k hk
  rcases h with ⟨h, h0⟩ | ⟨rfl, rfl, rfl⟩
  · exact h.lt k (hom_in hk).1
  · exact (hom_zero _ _ hk).elim
theorem OwnC.at_ (h : OwnC w E z A n cap cs) (h0 : 0 < cap) : ∃ g, A = some ⟨g, 0, none⟩ ∧ hom A cap = some ⟨g, 0, none⟩ ∧ Own w E z (some ⟨g, 0, none⟩) n cap cs := by
  rcases h with ⟨h, _⟩ | ⟨_, h1, _⟩
  · rcases h.2 with ⟨_, _, h2⟩ | ⟨g, cur, rfl, _⟩
    · omega
    · exact ⟨g, rfl, hom_pos _ h0, h⟩
  · omega
theorem OwnC.off (h : OwnC w E z A n cap cs) (h' : OwnC w E' z' A' n' cap' cs') (hne : E' ≠ E) : ∀ j, inA (hom A' cap') j → ¬ inA (hom A cap) j := by
  intro j hj hh
  obtain ⟨_, h1⟩ := hom_in hj
  obtain ⟨_, h2⟩ := hom_in hh
  obtain ⟨g, rfl, e1, o1⟩ := h.at_ h2
  obtain ⟨g', rfl, e2, o2⟩ := h'.at_ h1
  rw [e1] at hh
  rw [e2] at hj
  have e3 := (inA_some _ _).1 hj
  have e4 := (inA_some _ _).1 hh
  subst e3
  subst e4
  obtain ⟨cur, hb, _⟩ := o2.blk
  exact o1.ne_ hb hne ((inA_some _ _).2 rfl)
theorem OwnC.offB (h : OwnC w E z A n cap cs) {g : Nat} {t : TypeId} {bs : Array Value} (hb : Blk w g t bs) (hne : t ≠ E) : ¬ inA (hom A cap) g := by
  intro hk
  obtain ⟨_, h1⟩ := hom_in hk
  obtain ⟨g', rfl, e1, o1⟩ := h.at_ h1
  rw [e1] at hk
  exact o1.ne_ hb hne hk
theorem OwnC.sl (h : OwnC w E z A n cap cs) : Sl w (inA (hom A cap)) A cs := by
  rcases h with ⟨h, h0⟩ | ⟨_, _, rfl⟩
  · rw [hom_pos A h0]; exact h.sl
  · exact .inl rfl
theorem Own.storeL {g : Nat} (h : Own w E z (some ⟨g, 0, none⟩) n cap cs) (o : Nat) (vs : List Value) : Own (w.setCells g o vs) E z (some ⟨g, 0, none⟩) n cap (putL cs o vs) := by
  induction vs generalizing w o cs with
  | nil => rw [putL_nil]; exact h
  | cons v vs ih =>
    rw [putL_cons]
    exact ih (h.store o v) (o + 1)
theorem putL_at (cs : List Value) (o : Nat) (vs : List Value) (h : o + vs.length ≤ cs.length) : putL cs o vs = cs.take o ++ (vs ++ cs.drop (o + vs.length)) := by
  induction vs generalizing o cs with
  | nil => rw [putL_nil]; simp
  | cons v vs ih =>
    simp only [List.length_cons] at h
    rw [putL_cons, ih _ _ (by rw [List.length_set]; omega), List.take_succ_eq_append_getElem (by rw [List.length_set]; omega)]
    simp only [List.getElem_set_self, List.length_cons, List.append_assoc, List.cons_append, List.nil_append]
    rw [List.take_set_of_le (Nat.le_refl _), List.drop_set_of_lt (by omega)]
    congr 4
    omega

/-- What an append leaves: it had room, or it grew. -/
def AppC (w : World) (E : TypeId) (z : Nat) (A : Option Addr) (n cap m : Nat) (cs news : List Value) (A' : Option Addr) (cap' : Nat) (w' : World) : Prop :=
  Own w' E z A' (n + m) cap' (cs ++ news) ∧ ((n + m ≤ cap ∧ A' = A ∧ cap' = cap ∧ Fr (inA (hom A cap)) w w') ∨ (cap < n + m ∧ A' = some ⟨w.heap.size, 0, none⟩ ∧ Nw w w'))
theorem AppC.fr {m : Nat} {news : List Value} (h : AppC w E z A n cap m cs news A' cap' w') : Fr (inA (hom A cap)) w w' := by
  rcases h.2 with ⟨_, _, _, h⟩ | ⟨_, _, h⟩
  · exact h
  · exact Nw.on h
variable {P : Program} {F : Nat → Prop}
/-- 'append(s, x...)', something is appended. -/
theorem run_append_c (w : World) (t ty : TypeId) (bytes : Nat) (zv : Value) (ht : P.underlying t = some (.slice E))
    (hinfo : (P.info? E).map (fun i => (i.zero, i.size, i.bytes)) = some (some zv, z, bytes)) (hzs : zv.cells.size = z) (hsz : 0 < z)
    (hown : OwnC w E z A n cap cs) {A2 : Option Addr} {m c : Nat} {news : List Value} (hsl : Sl w F A2 news) (hl : news.length = m * z) (h1 : ∀ u ∈ news, u.oneCell' = true)
    (hbytes : (n + m) * bytes ≤ 140737488355328) (hmax : n + m ≤ maxLen) (hm : 0 < m) :
    ∃ A' cap' w', (Builtin.append_ #[t, t] ty #[.slice A n cap, .slice A2 m c]).run P w = .ok (.slice A' (n + m) cap') w' ∧ AppC w E z A n cap m cs news A' cap' w' := by
  rcases hown with ⟨hown, h0⟩ | ⟨rfl, rfl, rfl⟩
  · obtain ⟨A', cap', w', hr, h2, _, h3⟩ := run_append_two (P := P) w t ty bytes zv ht hinfo hzs hsz hown hsl hl h1 hbytes hmax (c := c)
    refine ⟨A', cap', w', hr, h2, ?_⟩
    rw [hom_pos A h0]
    exact h3
  · obtain ⟨i, hi, hz0, hz1, hz2⟩ := info_parts hinfo
    subst hz1
    subst hz2
    have hne : news ≠ [] := by
      rintro rfl
      have := Nat.mul_pos hm hsz
      simp at hl; omega
    obtain ⟨b, o, rfl, _, _, hc⟩ := hsl.at_ hne
    have hcells : ∀ j u, news[j]? = some u → w.cell? ((⟨b, o, none⟩ : Addr).add j) = some u := by
      intro j u hu
      rw [Addr.add_lit]
      exact hc j u hu
    have hsmall : 0 + m ≤ 9223372036854775807 := by simp only [maxLen] at hmax; omega
    have fin : ∀ old, (Builtin.append_ #[t, t] ty #[.slice A 0 0, .slice (some ⟨b, o, none⟩) m c]).run P w = .ok (.slice (some ⟨w.heap.size, 0, none⟩) (0 + m) (grownCap w (0 + m) old E))
          (w.drew.alloc (.cells (([] : List Value).toArray ++ news.toArray ++ Builtin.zeroCells zv.cells (grownCap w (0 + m) old E - (0 + m))) E)) →
        ∃ A' cap' w', (Builtin.append_ #[t, t] ty #[.slice A 0 0, .slice (some ⟨b, o, none⟩) m c]).run P w = .ok (.slice A' (0 + m) cap') w' ∧ AppC w E i.size A 0 0 m [] news A' cap' w' := by
      intro old hr
      have hge := grownCap_ge w (0 + m) old E
      have hcm : grownCap w (0 + m) old E ≤ maxLen := grownCap_le_maxLen w (0 + m) old E hmax
      refine ⟨_, _, _, hr, ⟨by simp [hl], .inr ⟨w.heap.size, _, rfl, heap_alloc_new w.drew _, hge, hcm, ?_, ?_⟩⟩, .inr ⟨by omega, rfl, ((Fr.refl _ w).drew).alloc _⟩⟩
      · simp only [Array.size_append, List.size_toArray, size_zeroCells, hzs, hl, List.length_nil, Nat.zero_add, ← Nat.add_mul]
        congr 1
        simp only [Nat.zero_add] at hge
        omega
      · simp only [Array.toList_append, List.nil_append, Nat.zero_add]
        rw [← hl]
        exact List.take_left
    cases A with
    | none =>
      refine fin 0 ?_
      have hr := run_append_nil (P := P) w t ty E i zv ht hi hz0 _ m c news hl hcells (by omega) (by omega) (by have hb := hbytes; simp only [Nat.zero_add] at hb; omega)
      simp only [Nat.zero_add, Array.empty_append] at hr ⊢
      exact hr
    | some a =>
      refine fin 0 ?_
      exact run_append_grow (P := P) w t ty E i zv ht hi hz0 a 0 0 [] (by simp) (by intro j u hu; simp at hu) _ m c news hl hcells (by omega) (by omega) (growslice_fits (by omega) hbytes)
/-- The walk over such an append. -/
theorem wl_appendC {w : World} {ops : Array Oper} {rest : List Oper} {o : Oper} {a : Act} {Q : Exit → Act → World → Prop} (hgd : o.guard = none) (s x : Operand) (t : TypeId)
    (ho : o.op = .call { callee := .builtin .append, args := #[s, x], argTypes := #[t, t] }) (bytes : Nat) (zv : Value) (ht : P.underlying t = some (.slice E))
    (hinfo : (P.info? E).map (fun i => (i.zero, i.size, i.bytes)) = some (some zv, z, bytes)) (hzs : zv.cells.size = z) (hsz : 0 < z)
    (hs : a.eval s = .slice A n cap) (hown : OwnC w E z A n cap cs) {A2 : Option Addr} {m c : Nat} {news : List Value} (hx : a.eval x = .slice A2 m c) (hsl : Sl w F A2 news) (hl : news.length = m * z) (h1 : ∀ u ∈ news, u.oneCell' = true)
    (hbytes : (n + m) * bytes ≤ 140737488355328) (hmax : n + m ≤ maxLen) (hm : 0 < m)
    (h : ∀ A' cap' w', AppC w E z A n cap m cs news A' cap' w' → wpList P ops Q rest (a.put o.dst (.slice A' (n + m) cap')) w') :
    wpList P ops Q (o :: rest) a w := by
  refine wpList_plain hgd fun K hK' => ?_
  obtain ⟨A', cap', w', hrun, h2⟩ := run_append_c (P := P) w t o.type bytes zv ht hinfo hzs hsz hown hsl hl h1 hbytes hmax hm (c := c)
  unfold Oper.wp execOp
  simp only [ho, resolve, invoke, builtin, Sem.run_bind, Sem.run_pure, Result.andThen_ok, List.map_toArray, List.map_cons, List.map_nil, hs, hx]
  rw [hrun]
  exact hK' _ _ (h A' cap' w' h2)
end

/-! What an append to a list of the call's own leaves. -/
theorem AppTo.newOwn {w0 w w' : World} {E : TypeId} {size n cap m : Nat} {A A' : Option Addr} {cap' : Nat} {cs news : List Value} (h : AppTo w E size A n cap m cs news A' cap' w') (hq : Nw w0 w) (hA : ∀ k, inA A k → w0.heap.size ≤ k) :
    Own w' E size A' (n + m) cap' (cs ++ news) ∧ Nw w0 w' ∧ (∀ k, inA A' k → w0.heap.size ≤ k) := by
  obtain ⟨ho2, _, hcase⟩ := h
  refine ⟨ho2, ?_, ?_⟩
  · rcases hcase with ⟨_, rfl, _, hf⟩ | ⟨_, rfl, hf⟩
    · exact hq.new hf hA
    · exact hq.tr hf
  · intro k hk
    rcases hcase with ⟨_, rfl, _, hf⟩ | ⟨_, rfl, hf⟩
    · exact hA k hk
    · rw [(inA_some _ _).1 hk]; exact hq.size

theorem AppTo.fr {w w' : World} {E : TypeId} {size n cap m : Nat} {A A' : Option Addr} {cap' : Nat} {cs news : List Value} (h : AppTo w E size A n cap m cs news A' cap' w') : Fr (inA A) w w' := by
  obtain ⟨_, _, ⟨_, _, _, hf⟩ | ⟨_, _, hf⟩⟩ := h
  · exact hf
  · exact Nw.on hf

theorem AppTo.inA_ {w w' : World} {E : TypeId} {size n cap m : Nat} {A A' : Option Addr} {cap' : Nat} {cs news : List Value} (h : AppTo w E size A n cap m cs news A' cap' w') : ∀ j, inA A' j → inA A j ∨ j = w.heap.size := by
  intro j hj
  rcases h.2.2 with ⟨_, rfl, _, _⟩ | ⟨_, rfl, _⟩
  · exact .inl hj
  · exact .inr ((inA_some _ _).1 hj)

/-! Marks: whatever they are, of z cells each. -/
def mksL (mk : Nat → Nat → List Value) (k n : Nat) : List Value := ((List.range n).map (mk k)).flatten
section
variable {mk : Nat → Nat → List Value} {z : Nat}
theorem mksL_len (hmk : ∀ k i, (mk k i).length = z) (k n : Nat) : (mksL mk k n).length = n * z := by
  unfold mksL
  induction n with
  | zero => simp
  | succ n ih => rw [List.range_succ, List.map_append, List.flatten_append, List.length_append, ih]; simp [hmk, Nat.succ_mul]
theorem mksL_succ (mk : Nat → Nat → List Value) (k n : Nat) : mksL mk k (n + 1) = mksL mk k n ++ mk k n := by
  unfold mksL
  rw [List.range_succ, List.map_append, List.flatten_append]
  simp
theorem mksL_take (hmk : ∀ k i, (mk k i).length = z) (k n i : Nat) (h : i ≤ n) : (mksL mk k n).take (i * z) = mksL mk k i := by
  induction n with
  | zero =>
    obtain rfl : i = 0 := by omega
    simp [mksL]
  | succ n ih =>
    rcases Nat.lt_or_ge i (n + 1) with h1 | h1
    · rw [mksL_succ, List.take_append_of_le_length (by rw [mksL_len hmk]; exact Nat.mul_le_mul_right _ (by omega))]
      exact ih (by omega)
    · obtain rfl : i = n + 1 := by omega
      rw [List.take_of_length_le (by rw [mksL_len hmk]; exact Nat.le_refl _)]
theorem mksL_at (hmk : ∀ k i, (mk k i).length = z) (k n i j : Nat) (h : i < n) (hj : j < z) : (mksL mk k n)[i * z + j]? = (mk k i)[j]? := by
  induction n with
  | zero => omega
  | succ n ih =>
    rw [mksL_succ]
    rcases Nat.lt_or_ge i n with h1 | h1
    · have h2 := Nat.mul_le_mul_right z (show i + 1 ≤ n from h1)
      rw [Nat.succ_mul] at h2
      rw [List.getElem?_append_left (by rw [mksL_len hmk]; omega)]
      exact ih h1
    · obtain rfl : i = n := by omega
      rw [List.getElem?_append_right (by rw [mksL_len hmk]; omega), mksL_len hmk]
      congr 1
      omega
end
end Go.Proofs.YtippdjaakcgeoaaGreat

namespace Go.Proofs.YtippdjaakcgeoaaGreat
open Go Go.RowKit
set_option linter.unusedVariables false
set_option linter.unusedSimpArgs false
/-- Blocks made since w. -/
abbrev Since (w : World) (k : Nat) : Prop := w.heap.size ≤ k
theorem Own.ls {α : Type} {w w0 : World} {E : TypeId} {z n c : Nat} {A : Option Addr} {f : List α → List Value} {l : List α} (h : Own w E z A n c (f l)) (hn : l.length = n) (hA : ∀ k, inA A k → w0.heap.size ≤ k) : LsIn w (Since w0) f ⟨A, c, l⟩ :=
  ⟨h.sl.mono fun k hk _ => hA k hk, by show l.length ≤ c; rw [hn]; exact h.cap_le.1, h.cap_le.2⟩
end Go.Proofs.YtippdjaakcgeoaaGreat

namespace Go.Proofs.YtippdjaakcgeoaaGreat
open Go Go.RowKit
set_option linter.unusedVariables false
set_option linter.unusedSimpArgs false
/-- A list of the call's own, made since w0. -/
structure LsOwn {α : Type} (w0 w : World) (E : TypeId) (z : Nat) (f : List α → List Value) (s : Ls α) : Prop where
  own : Own w E z s.a s.l.length s.c (f s.l)
  base : ∀ k, inA s.a k → w0.heap.size ≤ k
theorem LsOwn.in_ {α : Type} {w0 w : World} {E : TypeId} {z : Nat} {f : List α → List Value} {s : Ls α} (h : LsOwn w0 w E z f s) : LsIn w (Since w0) f s :=
  ⟨h.own.sl.mono fun k hk _ => h.base k hk, h.own.cap_le⟩
theorem LsOwn.fr {α : Type} {w0 w w' : World} {S : Nat → Prop} {E : TypeId} {z : Nat} {f : List α → List Value} {s : Ls α} (h : LsOwn w0 w E z f s) (hf : Fr S w w') (hn : ∀ k, inA s.a k → ¬ S k) : LsOwn w0 w' E z f s := ⟨h.own.fr hf hn, h.base⟩
theorem LsOwn.nw {α : Type} {w0 w w' : World} {E : TypeId} {z : Nat} {f : List α → List Value} {s : Ls α} (h : LsOwn w0 w E z f s) (hf : Nw w w') : LsOwn w0 w' E z f s := h.fr hf (fun _ _ h => h)
theorem LsOwn.from_ {α : Type} {w0 w1 w : World} {E : TypeId} {z : Nat} {f : List α → List Value} {s : Ls α} (h : LsOwn w1 w E z f s) (hb : w0.heap.size ≤ w1.heap.size) : LsOwn w0 w E z f s := ⟨h.own, fun k hk => Nat.le_trans hb (h.base k hk)⟩
theorem LsOwn.lt {α : Type} {w0 w : World} {E : TypeId} {z : Nat} {f : List α → List Value} {s : Ls α} (h : LsOwn w0 w E z f s) : ∀ k, inA s.a k → k < w.heap.size := h.own.lt
/-- A config whose lists are its own: each made behind the one ahead. -/
structure CfgOwn (w0 w : World) (c : CfgM) : Prop where
  v : LsOwn w0 w 3 1 intsC c.v
  o : LsOwn w0 w 3 1 intsC c.o
  l : LsOwn w0 w 3 1 intsC c.l
  w : LsOwn w0 w 3 1 intsC c.w
  vo : ∀ k j, inA c.v.a k → inA c.o.a j → k < j
  ol : ∀ k j, inA c.o.a k → inA c.l.a j → k < j
  lw : ∀ k j, inA c.l.a k → inA c.w.a j → k < j
  vl : ∀ k j, inA c.v.a k → inA c.l.a j → k < j
  vw : ∀ k j, inA c.v.a k → inA c.w.a j → k < j
  ow : ∀ k j, inA c.o.a k → inA c.w.a j → k < j
theorem CfgOwn.nw {w0 w w' : World} {c : CfgM} (h : CfgOwn w0 w c) (f : Nw w w') : CfgOwn w0 w' c := { h with v := h.v.nw f, o := h.o.nw f, l := h.l.nw f, w := h.w.nw f }
theorem CfgOwn.fr {w0 w w' : World} {S : Nat → Prop} {c : CfgM} (h : CfgOwn w0 w c) (f : Fr S w w') (hn : ∀ k, w0.heap.size ≤ k → ¬ S k) : CfgOwn w0 w' c :=
  { h with v := h.v.fr f (fun k hk => hn k (h.v.base k hk)), o := h.o.fr f (fun k hk => hn k (h.o.base k hk)), l := h.l.fr f (fun k hk => hn k (h.l.base k hk)), w := h.w.fr f (fun k hk => hn k (h.w.base k hk)) }
theorem CfgOwn.from_ {w0 w1 w : World} {c : CfgM} (h : CfgOwn w1 w c) (hb : w0.heap.size ≤ w1.heap.size) : CfgOwn w0 w c := { h with v := h.v.from_ hb, o := h.o.from_ hb, l := h.l.from_ hb, w := h.w.from_ hb }
theorem CfgOwn.in_ {w0 w : World} {c : CfgM} (h : CfgOwn w0 w c) : CfgIn w (Since w0) c := ⟨h.v.in_, h.o.in_, h.l.in_, h.w.in_⟩
end Go.Proofs.YtippdjaakcgeoaaGreat

namespace Go.Proofs.YtippdjaakcgeoaaGreat
open Go Go.RowKit

theorem quiet_load_cells {P : Program} {ops : Array Oper} {C : World → Prop} {L : Act → Prop} {rest : List Oper} {o : Oper} {a : Act} (hw : Region.wanted o (yielded ops a.tmps) = true) (ty : TypeId) (x : Operand) (ho : o.op = .load ty x)
    (g off : Nat) (hx : a.eval x = .pointer (some ⟨g, off, none⟩)) (cs : List Value) (d : TypeDesc) (hc : ∀ w, C w → ∀ j v, cs[j]? = some v → w.cell? ⟨g, off + j, none⟩ = some v)
    (hu : P.underlying ty = some d) (hd : (match d with | .struct _ | .array _ _ => true | _ => false) = true) (hi : (P.info? ty).map (·.size) = some cs.length)
    (h : wpQuiet P ops C L rest (a.put o.dst (.agg cs.toArray))) : wpQuiet P ops C L (o :: rest) a := by
  unfold wpQuiet
  rw [if_pos hw]
  refine ⟨.agg cs.toArray, fun w hC => ?_, h⟩
  unfold Oper.quietAt execOp
  simp only [ho, hx, Instr.loadAt, Instr.sureAddr, Sem.run_bind, Sem.run_pure, Result.andThen_ok, run_loadVar_cells w g off ty cs d (hc w hC) hu hd hi]
  exact ⟨rfl, rfl⟩
/-- Cells that stand as they stood. -/
theorem Later.cells {w : World} {g off : Nat} {cs : List Value} (h : ∀ j v, cs[j]? = some v → w.cell? ⟨g, off + j, none⟩ = some v) : ∀ w', (∃ n : Later w, w' = n.at_) → ∀ j v, cs[j]? = some v → w'.cell? ⟨g, off + j, none⟩ = some v := by
  rintro w' ⟨n, rfl⟩ j v hv
  exact n.cell (h j v hv)
/-- A struct's cells loaded behind a guard that says yes. -/
theorem wl_cells_want {P : Program} {w : World} {ops : Array Oper} {rest : List Oper} {o : Oper} {a : Act} {Q : Exit → Act → World → Prop} (hw : Region.wanted o (yielded ops a.tmps) = true) (ty : TypeId) (x : Operand) (ho : o.op = .load ty x)
    (g off : Nat) (hx : a.eval x = .pointer (some ⟨g, off, none⟩)) (cs : List Value) (d : TypeDesc) (hc : ∀ j v, cs[j]? = some v → w.cell? ⟨g, off + j, none⟩ = some v) (hu : P.underlying ty = some d) (hd : (match d with | .struct _ | .array _ _ => true | _ => false) = true) (hi : (P.info? ty).map (·.size) = some cs.length)
    (h : wpList P ops Q rest (a.put o.dst (.agg cs.toArray)) w) : wpList P ops Q (o :: rest) a w := by
  refine BigFrame.wpList_want hw fun K hK => ?_
  exact wp_load_cells ty x ho g off hx cs d hc hu hd hi (hK _ _ h)
end Go.Proofs.YtippdjaakcgeoaaGreat

namespace Go.Proofs.YtippdjaakcgeoaaGreat
open Go Go.RowKit
set_option linter.unusedVariables false
set_option linter.unusedSimpArgs false
/-- The blocks of an entry's lists. -/
def CfgHas (c : CfgM) (k : Nat) : Prop := inA c.v.a k ∨ inA c.o.a k ∨ inA c.l.a k ∨ inA c.w.a k
def EntHas (e : EntM) (k : Nat) : Prop := inA e.cmd.a k ∨ CfgHas e.cfg k
/-- An entry whose lists are its own. -/
structure EntOwn (w0 w : World) (e : EntM) : Prop where
  kind : 0 ≤ e.kind ∧ e.kind ≤ 255
  cmd : LsOwn w0 w 5 1 bytesC e.cmd
  cfg : CfgOwn w0 w e.cfg
section
variable {w0 w1 w w' : World} {S : Nat → Prop}
theorem EntOwn.fr {e : EntM} (h : EntOwn w0 w e) (f : Fr S w w') (hn : ∀ k, w0.heap.size ≤ k → ¬ S k) : EntOwn w0 w' e := ⟨h.kind, h.cmd.fr f (fun k hk => hn k (h.cmd.base k hk)), h.cfg.fr f hn⟩
theorem EntOwn.nw {e : EntM} (h : EntOwn w0 w e) (f : Nw w w') : EntOwn w0 w' e := ⟨h.kind, h.cmd.nw f, h.cfg.nw f⟩
theorem EntOwn.from_ {e : EntM} (h : EntOwn w1 w e) (hb : w0.heap.size ≤ w1.heap.size) : EntOwn w0 w e := ⟨h.kind, h.cmd.from_ hb, h.cfg.from_ hb⟩
theorem EntOwn.in_ {e : EntM} (h : EntOwn w0 w e) : EntIn w (Since w0) e := ⟨h.kind, h.cmd.in_, h.cfg.in_⟩
end
def EntBefore (e f : EntM) : Prop := ∀ k j, EntHas e k → EntHas f j → k < j
/-- A letter whose lists are its own: its bytes, its entries, their lists one entry behind the other, its base's config. -/
structure LetOwn (w0 w : World) (y : LetM) : Prop where
  kind : 0 ≤ y.kind ∧ y.kind ≤ 255
  bytes : LsOwn w0 w 5 1 bytesC y.bytes
  ents : LsOwn w0 w 87 7 entsC y.ents
  each : ∀ e ∈ y.ents.l, EntOwn w0 w e
  cfg : CfgOwn w0 w y.base.cfg
  sorted : y.ents.l.Pairwise EntBefore
  ahead : ∀ e ∈ y.ents.l, ∀ k j, inA y.bytes.a k → EntHas e j → k < j
  behind : ∀ e ∈ y.ents.l, ∀ k j, EntHas e k → CfgHas y.base.cfg j → k < j
theorem LetOwn.in_ {w0 w : World} {y : LetM} (h : LetOwn w0 w y) : LetIn w (Since w0) y := ⟨h.kind, h.ents.in_, fun e he => (h.each e he).in_, h.cfg.in_, h.bytes.in_⟩
theorem LetOwn.nw {w0 w w' : World} {y : LetM} (h : LetOwn w0 w y) (f : Nw w w') : LetOwn w0 w' y := { h with bytes := h.bytes.nw f, ents := h.ents.nw f, each := fun e he => (h.each e he).nw f, cfg := h.cfg.nw f }
theorem LetOwn.fr {w0 w w' : World} {S : Nat → Prop} {y : LetM} (h : LetOwn w0 w y) (f : Fr S w w') (hn : ∀ k, w0.heap.size ≤ k → ¬ S k) : LetOwn w0 w' y :=
  { h with bytes := h.bytes.fr f (fun k hk => hn k (h.bytes.base k hk)), ents := h.ents.fr f (fun k hk => hn k (h.ents.base k hk)), each := fun e he => (h.each e he).fr f hn, cfg := h.cfg.fr f hn }
theorem LetOwn.from_ {w0 w1 w : World} {y : LetM} (h : LetOwn w1 w y) (hb : w0.heap.size ≤ w1.heap.size) : LetOwn w0 w y :=
  { h with bytes := h.bytes.from_ hb, ents := h.ents.from_ hb, each := fun e he => (h.each e he).from_ hb, cfg := h.cfg.from_ hb }
end Go.Proofs.YtippdjaakcgeoaaGreat

namespace Go.Proofs.YtippdjaakcgeoaaGreat
open Go Go.RowKit

section
variable {w w' wr wo wx w1 : World} {E : TypeId} {z m : Nat} {A : Nat → Option Addr} {N cp : Nat → Nat} {f : Nat → List Value}
/-- Lists of one kind, each the call's own. -/
def RowsC (w : World) (E : TypeId) (z m : Nat) (A : Nat → Option Addr) (N cp : Nat → Nat) (f : Nat → List Value) : Prop := ∀ k, k < m → OwnC w E z (A k) (N k) (cp k) (f k)
/-- No two lie in one block. -/
def FarC (m : Nat) (A : Nat → Option Addr) (cp : Nat → Nat) : Prop := ∀ i j, i < m → j < m → i ≠ j → ∀ b, inA (hom (A i) (cp i)) b → ¬ inA (hom (A j) (cp j)) b
def InC (m : Nat) (A : Nat → Option Addr) (cp : Nat → Nat) (b : Nat) : Prop := ∃ k, k < m ∧ inA (hom (A k) (cp k)) b
theorem RowsC.fr {S : Nat → Prop} (h : RowsC w E z m A N cp f) (hf : Fr S w w') (hn : ∀ k, k < m → ∀ b, inA (hom (A k) (cp k)) b → ¬ S b) : RowsC w' E z m A N cp f := fun k hk => (h k hk).fr hf (hn k hk)
theorem RowsC.nw (h : RowsC w E z m A N cp f) (hf : Nw w w') : RowsC w' E z m A N cp f := h.fr hf (fun _ _ _ _ h => h)
theorem RowsC.congr {g : Nat → List Value} (h : RowsC w E z m A N cp f) (hg : ∀ k, k < m → f k = g k) : RowsC w E z m A N cp g := fun k hk => by rw [← hg k hk]; exact h k hk
theorem RowsC.inlt (h : RowsC w E z m A N cp f) {b : Nat} (hb : InC m A cp b) : b < w.heap.size := by
  obtain ⟨k, hk, hb⟩ := hb
  exact (h k hk).lt b hb
def updL (f : Nat → List Value) (k : Nat) (g : List Value) : Nat → List Value := fun j => if j = k then g else f j
theorem updL_same (f : Nat → List Value) (k : Nat) (g : List Value) : updL f k g k = g := by simp [updL]
theorem updL_ne (f : Nat → List Value) {k j : Nat} (g : List Value) (h : j ≠ k) : updL f k g j = f j := by simp [updL, h]
theorem RowsC.step (h : RowsC w E z m A N cp f) (hfar : FarC m A cp) {k : Nat} (hk : k < m) {g : List Value} (hf : Fr (inA (hom (A k) (cp k))) w w') (ho : OwnC w' E z (A k) (N k) (cp k) g) : RowsC w' E z m A N cp (updL f k g) := by
  intro j hj
  by_cases e : j = k
  · subst e; rw [updL_same]; exact ho
  · rw [updL_ne f g e]
    exact (h j hj).fr hf (fun b hb hb2 => hfar j k hj hk e b hb hb2)
theorem RowsC.same (h : RowsC w E z m A N cp f) (hfar : FarC m A cp) {k : Nat} (hk : k < m) (hf : Fr (inA (hom (A k) (cp k))) w w') (ho : OwnC w' E z (A k) (N k) (cp k) (f k)) : RowsC w' E z m A N cp f := by
  intro j hj
  by_cases e : j = k
  · subst e; exact ho
  · exact (h j hj).fr hf (fun b hb hb2 => hfar j k hj hk e b hb hb2)
theorem InC.fr {k : Nat} (hk : k < m) (hf : Fr (inA (hom (A k) (cp k))) w w') : Fr (InC m A cp) w w' := hf.mono fun _ hb => .inl ⟨k, hk, hb⟩

/-- How the lists' headers stand in a list. -/
abbrev hdr (A : Nat → Option Addr) (N cp : Nat → Nat) (k : Nat) : Value := .slice (A k) (N k) (cp k)
def hdrs (m : Nat) (A : Nat → Option Addr) (N cp : Nat → Nat) : List Value := (List.range m).map (hdr A N cp)
theorem hdrs_len : (hdrs m A N cp).length = m := by simp [hdrs]
theorem hdrs_at {k : Nat} (h : k < m) : (hdrs m A N cp)[k]? = some (hdr A N cp k) := by simp [hdrs, h]
theorem Sl.hdr {F : Nat → Prop} {B : Option Addr} (h : Sl w F B (hdrs m A N cp)) {k : Nat} (hk : k < m) : ∃ b o, B = some ⟨b, o, none⟩ ∧ F b ∧ w.cell? ⟨b, o + k, none⟩ = some (.slice (A k) (N k) (cp k)) := by
  obtain ⟨b, o, hB, hF, _, hc⟩ := h.at_ (by intro e; have := congrArg List.length e; rw [hdrs_len] at this; simp at this; omega)
  exact ⟨b, o, hB, hF, hc k _ (hdrs_at hk)⟩

variable {mk : Nat → Nat → List Value}
/-- Stage one: the first k lists bear their marks, and i places of the next one. -/
def Fl1 (mk : Nat → Nat → List Value) (E : TypeId) (z : Nat) (w : World) (m : Nat) (A : Nat → Option Addr) (N cp : Nat → Nat) (k : Nat) (wr : World) : Prop :=
  ∃ f, RowsC wr E z m A N cp f ∧ (∀ j, j < k → f j = mksL mk j (N j)) ∧ Fr (InC m A cp) w wr
def Fl1o (mk : Nat → Nat → List Value) (E : TypeId) (z : Nat) (w : World) (m : Nat) (A : Nat → Option Addr) (N cp : Nat → Nat) (i : Value) (wr : World) : Prop := ∃ k : Nat, k ≤ m ∧ i = .int .i64 k ∧ Fl1 mk E z w m A N cp k wr
def Fl1i (mk : Nat → Nat → List Value) (E : TypeId) (z : Nat) (w : World) (m : Nat) (A : Nat → Option Addr) (N cp : Nat → Nat) (k : Nat) (i : Value) (wr : World) : Prop :=
  ∃ (j : Nat) (f : Nat → List Value), j ≤ N k ∧ i = .int .i64 j ∧ RowsC wr E z m A N cp f ∧ (∀ j, j < k → f j = mksL mk j (N j)) ∧ (f k).take (j * z) = mksL mk k j ∧ Fr (InC m A cp) w wr
theorem putL_next (hmk : ∀ k i, (mk k i).length = z) {l : List Value} {k j n : Nat} (hl : l.length = n * z) (hj : j < n) (ht : l.take (j * z) = mksL mk k j) : (putL l (j * z) (mk k j)).take ((j + 1) * z) = mksL mk k (j + 1) := by
  have h1 := Nat.mul_le_mul_right z (show j + 1 ≤ n from hj)
  rw [Nat.succ_mul] at h1 ⊢
  rw [putL_at _ _ _ (by rw [hmk]; omega), ht, mksL_succ, ← List.append_assoc]
  rw [List.take_left' (by rw [List.length_append, mksL_len hmk, hmk])]
theorem Fl1i.next (hmk : ∀ k i, (mk k i).length = z) {k j : Nat} (hfar : FarC m A cp) (hk : k < m) (hj : j < N k) (hr : RowsC wr E z m A N cp f) (hb : ∀ j, j < k → f j = mksL mk j (N j)) (ht : (f k).take (j * z) = mksL mk k j) (hf : Fr (InC m A cp) w wr)
    {g : Nat} (hA : A k = some ⟨g, 0, none⟩) (hw : w' = wr.setCells g (j * z) (mk k j)) : Fl1i mk E z w m A N cp k (.int .i64 ((j : Int) + 1)) w' := by
  subst hw
  have ho := hr k hk
  have hcp : 0 < cp k := by have := ho.cap_le.1; omega
  have hh : hom (A k) (cp k) = some ⟨g, 0, none⟩ := by rw [hom_pos _ hcp, hA]
  obtain ⟨g', e1, _, o1⟩ := ho.at_ hcp
  rw [hA] at e1
  injection e1 with e1
  injection e1 with e1
  subst e1
  have hs := o1.storeL (j * z) (mk k j)
  have hf1 : Fr (inA (hom (A k) (cp k))) wr (wr.setCells g (j * z) (mk k j)) := by
    rw [hh]
    exact (Fr.setCells (Fr.refl (· = g) wr) _ _).mono fun b hb => .inl ((inA_some _ _).2 hb)
  rw [← hA] at hs
  refine ⟨j + 1, updL f k (putL (f k) (j * z) (mk k j)), hj, by go_num, hr.step hfar hk hf1 hs.c, fun i hi => ?_, ?_, hf.tr (InC.fr hk hf1)⟩
  · rw [updL_ne _ _ (by omega)]; exact hb i hi
  · rw [updL_same]
    exact putL_next hmk ho.len hj ht

/-- The first k lists have grown, to these; what was handed in bears its marks still. -/
def FlG (mk : Nat → Nat → List Value) (E EE : TypeId) (z : Nat) (w : World) (m : Nat) (A : Nat → Option Addr) (N cp : Nat → Nat) (gg : Nat) (con : Nat → List Value) (k : Nat) (wr : World) : Prop :=
  ∃ (cells : List Value) (GA : Nat → Option Addr) (Gc : Nat → Nat), Own wr EE 1 (some ⟨gg, 0, none⟩) m m cells ∧ (∀ j, j < k → cells[j]? = some (.slice (GA j) (N j + 64) (Gc j))) ∧
    (∀ j, j < k → OwnC wr E z (GA j) (N j + 64) (Gc j) (con j)) ∧ (∀ j, j < k → ∀ b, inA (GA j) b → inA (hom (A j) (cp j)) b ∨ w.heap.size ≤ b) ∧ RowsC wr E z m A N cp (fun j => mksL mk j (N j)) ∧ Fr (InC m A cp) w wr
def FlGo (mk : Nat → Nat → List Value) (E EE : TypeId) (z : Nat) (w : World) (m : Nat) (A : Nat → Option Addr) (N cp : Nat → Nat) (gg : Nat) (con : Nat → List Value) (i : Value) (wr : World) : Prop := ∃ k : Nat, k ≤ m ∧ i = .int .i64 k ∧ FlG mk E EE z w m A N cp gg con k wr
/-- The k-th has grown. -/
def FlX (mk : Nat → Nat → List Value) (E : TypeId) (z : Nat) (A : Nat → Option Addr) (N cp : Nat → Nat) (k : Nat) (wo : World) (con : List Value) (X : Option Addr) (n c : Nat) (wx : World) : Prop :=
  Fr (inA (hom (A k) (cp k))) wo wx ∧ OwnC wx E z X n c con ∧ ((X = A k ∧ c = cp k) ∨ ∀ b, inA X b → wo.heap.size ≤ b) ∧ OwnC wx E z (A k) (N k) (cp k) (mksL mk k (N k))
def FlXi (mk : Nat → Nat → List Value) (E : TypeId) (z : Nat) (A : Nat → Option Addr) (N cp : Nat → Nat) (k : Nat) (wo : World) (v i : Value) (wx : World) : Prop :=
  ∃ (j : Nat) (X : Option Addr) (c : Nat), j ≤ 64 ∧ i = .int .i64 j ∧ v = .slice X (N k + j) c ∧ FlX mk E z A N cp k wo (mksL mk k (N k + j)) X (N k + j) c wx
variable {EE : TypeId} {gg k : Nat} {con : Nat → List Value}
theorem FlG.next (hEE : EE ≠ E) (hn64 : 0 < 64) (h : FlG mk E EE z w m A N cp gg con k wo) (hgg : w.heap.size ≤ gg) (hr : RowsC w E z m A N cp f) (hfar : FarC m A cp) (hk : k < m) {X : Option Addr} {c : Nat} (hx : FlX mk E z A N cp k wo (con k) X (N k + 64) c wx) (hw : w' = wx.setCell ⟨gg, k, none⟩ (.slice X (N k + 64) c)) : FlG mk E EE z w m A N cp gg con (k + 1) w' := by
  subst hw
  obtain ⟨cells, GA, Gc, ho, hc, hG, hb, hrow, hf⟩ := h
  obtain ⟨hf2, hX, hXb, hk2⟩ := hx
  have hcX : 0 < c := by have := hX.cap_le.1; omega
  obtain ⟨gX, hXA, hhX, oX⟩ := hX.at_ hcX
  have hok := hrow k hk
  obtain ⟨cur0, hbg, _⟩ := ho.blk
  have hgk : ¬ inA (hom (A k) (cp k)) gg := fun h => hok.offB hbg hEE h
  have ho2 := ho.fr hf2 (fun j hj => by rw [(inA_some _ _).1 hj]; exact hgk)
  obtain ⟨cur2, hbg2, _⟩ := ho2.blk
  have hst := ho2.store k (.slice X (N k + 64) c)
  have hs1 : Fr (· = gg) wx (wx.setCell ⟨gg, k, none⟩ (.slice X (N k + 64) c)) := (Fr.refl (· = gg) wx).setCell (p := ⟨gg, k, none⟩) (.inl rfl) _
  have keep : ∀ {A' : Option Addr} {n' c' : Nat} {cs' : List Value}, OwnC wx E z A' n' c' cs' → OwnC (wx.setCell ⟨gg, k, none⟩ (.slice X (N k + 64) c)) E z A' n' c' cs' := fun h1 =>
    h1.fr hs1 (fun b hb hb2 => by rw [hb2] at hb; exact h1.offB hbg2 hEE hb)
  refine ⟨_, fun j => if j = k then X else GA j, fun j => if j = k then c else Gc j, hst, fun j hj => ?_, fun j hj => ?_, fun j hj b hbb => ?_, ?_, (hf.tr (InC.fr hk hf2)).setCell (p := ⟨gg, k, none⟩) (.inr hgg) _⟩
  · by_cases e : j = k
    · subst e
      simp only [if_true]
      have hcl := ho2.1
      rw [List.getElem?_set_self (by omega)]
    · simp only [if_neg e]
      rw [List.getElem?_set_ne (fun h => e h.symm)]
      exact hc j (by omega)
  · by_cases e : j = k
    · subst e
      simp only [if_true]
      exact keep hX
    · simp only [if_neg e]
      refine keep ((hG j (by omega)).fr hf2 (fun b hb1 hb2 => ?_))
      rcases hb j (by omega) b (hom_in hb1).1 with h | h
      · exact hfar j k (by omega) hk e b h hb2
      · have := hr.inlt ⟨k, hk, hb2⟩; omega
  · by_cases e : j = k
    · subst e
      simp only [if_true] at hbb
      rcases hXb with ⟨rfl, hcc⟩ | h
      · refine .inl ?_
        rw [← hcc, hom_pos _ hcX]
        exact hbb
      · exact .inr (Nat.le_trans hf.size (h b hbb))
    · simp only [if_neg e] at hbb
      exact hb j (by omega) b hbb
  · have h1 := hrow.same hfar hk hf2 hk2
    exact fun j hj => keep (h1 j hj)
theorem FlG.rows (h : FlG mk E EE z w m A N cp gg con k wo) : RowsC wo E z m A N cp (fun j => mksL mk j (N j)) := by obtain ⟨_, _, _, _, _, _, _, h, _⟩ := h; exact h
theorem FlG.fr (h : FlG mk E EE z w m A N cp gg con k wo) : Fr (InC m A cp) w wo := by obtain ⟨_, _, _, _, _, _, _, _, h⟩ := h; exact h
theorem FlG.own (h : FlG mk E EE z w m A N cp gg con k wo) : ∃ cells, Own wo EE 1 (some ⟨gg, 0, none⟩) m m cells := by obtain ⟨c, _, _, h, _⟩ := h; exact ⟨c, h⟩
theorem FlX.next {con x : List Value} {X A' : Option Addr} {n c cap' q : Nat} (h : FlX mk E z A N cp k wo con X n c wx) (q1 : Nw wx w1) (hq : 0 < q) (hcn : con.length = n * z) (hNn : N k ≤ n) (hpre : con.take (N k * z) = mksL mk k (N k)) (hlt : ∀ b, inA (hom (A k) (cp k)) b → b < wo.heap.size)
    (hap : AppC w1 E z X n c q con x A' cap' w') : FlX mk E z A N cp k wo (con ++ x) A' (n + q) cap' w' := by
  obtain ⟨hf, ho, hXb, hk2⟩ := h
  obtain ⟨ho2, hcase⟩ := hap
  have hsz := hf.size
  refine ⟨?_, ho2.c, ?_, ?_⟩
  · rcases hcase with ⟨_, rfl, _, hf2⟩ | ⟨_, _, hf2⟩
    · rcases hXb with ⟨rfl, rfl⟩ | h
      · exact (hf.tr (Nw.on q1)).tr hf2
      · exact (hf.tr (Nw.on q1)).trans hf2 (fun b hb => .inr (h b (hom_in hb).1))
    · exact (hf.tr (Nw.on q1)).tr (Nw.on hf2)
  · rcases hcase with ⟨_, rfl, rfl, _⟩ | ⟨_, rfl, _⟩
    · exact hXb
    · refine .inr fun b hb => ?_
      rw [(inA_some _ _).1 hb]
      exact Nat.le_trans hsz q1.size
  · have hk3 := hk2.nw q1
    rcases hcase with ⟨hcp, rfl, rfl, hf2⟩ | ⟨_, rfl, hf2⟩
    · rcases hXb with ⟨rfl, rfl⟩ | h
      · have hne : A k ≠ none := by
          intro he
          rcases ho2.2 with ⟨_, h, _⟩ | ⟨g, cur, h, _⟩
          · omega
          · rw [he] at h; cases h
        have h3 := ho2.pre (k := N k) (by omega) hne
        have h4 := Nat.mul_le_mul_right z hNn
        rw [List.take_append_of_le_length (by omega), hpre] at h3
        exact h3.c
      · exact hk3.fr hf2 (fun b hb hb2 => by have := h b (hom_in hb2).1; have := hlt b hb; omega)
    · exact hk3.nw hf2
end

theorem Own.cellEx {w : World} {E : TypeId} {g n c k z : Nat} {cs : List Value} (h : Own w E z (some ⟨g, 0, none⟩) n c cs) (hk : k < n * z) : ∃ u, w.cell? ⟨g, k, none⟩ = some u := by
  have hl := h.1
  exact ⟨_, (h.cellAt hk).trans (List.getElem?_eq_getElem (by omega))⟩
/-- What is to be appended, as far as it is filled. -/
def ManyL (mk : Nat → Nat → List Value) (E : TypeId) (z : Nat) (kk : Nat) (g : Nat) (wy : World) (i : Value) (wx : World) : Prop :=
  ∃ (j : Nat) (cs : List Value), j ≤ 64 ∧ i = .int .i64 j ∧ Own wx E z (some ⟨g, 0, none⟩) 64 64 cs ∧ cs.take (j * z) = mksL mk kk j ∧ Fr (· = g) wy wx
theorem ManyL.next {mk : Nat → Nat → List Value} {E : TypeId} {z kk g j : Nat} {wy wx w' : World} {cs : List Value} (hmk : ∀ k i, (mk k i).length = z) (ho : Own wx E z (some ⟨g, 0, none⟩) 64 64 cs) (ht : cs.take (j * z) = mksL mk kk j) (hf : Fr (· = g) wy wx) (hj : j < 64) (hw : w' = wx.setCells g (j * z) (mk kk j)) : ManyL mk E z kk g wy (.int .i64 ((j : Int) + 1)) w' := by
  subst hw
  exact ⟨j + 1, _, hj, by go_num, ho.storeL (j * z) (mk kk j), putL_next hmk ho.1 hj ht, hf.setCells _ _⟩
/-- What has grown, by the first sort of growth, and by the second. -/
def conA (mk : Nat → Nat → List Value) (N : Nat → Nat) (j : Nat) : List Value := mksL mk j (N j + 64)
def conB (mk : Nat → Nat → List Value) (m : Nat) (N : Nat → Nat) (j : Nat) : List Value := mksL mk j (N j) ++ mksL mk (j + m) 64
theorem conB_at {mk : Nat → Nat → List Value} {z : Nat} (hmk : ∀ k i, (mk k i).length = z) (m : Nat) (N : Nat → Nat) (j i p : Nat) (h : i < N j) (hp : p < z) : (conB mk m N j)[i * z + p]? = (mk j i)[p]? := by
  unfold conB
  have h2 := Nat.mul_le_mul_right z (show i + 1 ≤ N j from h)
  rw [Nat.succ_mul] at h2
  rw [List.getElem?_append_left (by rw [mksL_len hmk]; omega)]
  exact mksL_at hmk _ _ _ _ h hp
/-- The header of a grown list, and its cells. -/
theorem FlG.cells {mk : Nat → Nat → List Value} {E EE : TypeId} {z : Nat} {w wr : World} {m : Nat} {A : Nat → Option Addr} {N cp : Nat → Nat} {gg : Nat} {con : Nat → List Value} (h : FlG mk E EE z w m A N cp gg con m wr) {k : Nat} (hk : k < m) :
    ∃ (X : Option Addr) (c : Nat), wr.cell? ⟨gg, k, none⟩ = some (.slice X (N k + 64) c) ∧ ∀ i x, (con k)[i]? = some x → ∃ g, X = some ⟨g, 0, none⟩ ∧ wr.cell? ⟨g, i, none⟩ = some x := by
  obtain ⟨cells, GA, Gc, ho, hc, hG, hb, hrow, hf⟩ := h
  refine ⟨GA k, Gc k, (ho.cellAt (k := k) (by omega)).trans (hc k hk), fun i x hx => ?_⟩
  have h1 := hG k hk
  obtain ⟨g, hg, _, o1⟩ := h1.at_ (by have := h1.cap_le.1; omega)
  refine ⟨g, hg, ?_⟩
  have hi : i < (con k).length := by
    rcases Nat.lt_or_ge i (con k).length with h | h
    · exact h
    · rw [List.getElem?_eq_none h] at hx; cases hx
  rw [o1.cellAt (by have := h1.len; omega)]
  exact hx
/-- A cell of a list that bears its marks. -/
theorem RowsC.cell {mk : Nat → Nat → List Value} {E : TypeId} {z : Nat} {w : World} {m : Nat} {A : Nat → Option Addr} {N cp : Nat → Nat} (hmk : ∀ k i, (mk k i).length = z) (h : RowsC w E z m A N cp (fun j => mksL mk j (N j))) {k i : Nat} (hk : k < m) (hi : i < N k) :
    ∃ g, A k = some ⟨g, 0, none⟩ ∧ ∀ p u, (mk k i)[p]? = some u → w.cell? ⟨g, i * z + p, none⟩ = some u := by
  have h1 := h k hk
  obtain ⟨g, hg, _, o1⟩ := h1.at_ (by have := h1.cap_le.1; omega)
  refine ⟨g, hg, fun p u hu => ?_⟩
  have hp : p < z := by
    rcases Nat.lt_or_ge p (mk k i).length with h | h
    · rwa [hmk] at h
    · rw [List.getElem?_eq_none h] at hu; cases hu
  have h2 := Nat.mul_le_mul_right z (show i + 1 ≤ N k from hi)
  rw [Nat.succ_mul] at h2
  rw [o1.cellAt (by omega), mksL_at hmk _ _ _ _ hi hp]
  exact hu
def KnownNw (w : World) (n : Nat) (i : Value) (wx : World) : Prop := ∃ k : Nat, k ≤ n ∧ i = .int .i64 k ∧ Nw w wx
end Go.Proofs.YtippdjaakcgeoaaGreat

namespace Go.Proofs.YtippdjaakcgeoaaGreat
open Go Go.RowKit
set_option linter.unusedVariables false
set_option linter.unusedSimpArgs false
/-- Two lists that lie in no common block. -/
def LsFar {α : Type} (s t : Ls α) : Prop := ∀ k, inA s.a k → ¬ inA t.a k
/-- A list of the call's own, in blocks of F. -/
structure LsHd {α : Type} (w : World) (F : Nat → Prop) (E : TypeId) (z : Nat) (f : List α → List Value) (s : Ls α) : Prop where
  own : Own w E z s.a s.l.length s.c (f s.l)
  base : ∀ k, inA s.a k → F k
/-- Lists of the call's own, each apart from the others. -/
structure Held {α : Type} (w : World) (F : Nat → Prop) (E : TypeId) (z : Nat) (f : List α → List Value) (ss : List (Ls α)) : Prop where
  each : ∀ s ∈ ss, LsHd w F E z f s
  far : ss.Pairwise LsFar
section
variable {α : Type} {w w' w0 : World} {F G H S : Nat → Prop} {E : TypeId} {z : Nat} {f : List α → List Value} {s : Ls α} {ss tt : List (Ls α)}
theorem LsHd.fr (h : LsHd w F E z f s) (hf : Fr S w w') (hn : ∀ k, F k → ¬ S k) : LsHd w' F E z f s := ⟨h.own.fr hf (fun k hk => hn k (h.base k hk)), h.base⟩
theorem LsHd.mono (h : LsHd w F E z f s) (hF : ∀ k, F k → k < w.heap.size → G k) : LsHd w G E z f s := ⟨h.own, fun k hk => hF k (h.base k hk) (h.own.lt k hk)⟩
theorem Held.fr (h : Held w F E z f ss) (hf : Fr S w w') (hn : ∀ k, F k → ¬ S k) : Held w' F E z f ss := ⟨fun s hs => (h.each s hs).fr hf hn, h.far⟩
theorem Held.mono (h : Held w F E z f ss) (hF : ∀ k, F k → k < w.heap.size → G k) : Held w G E z f ss := ⟨fun s hs => (h.each s hs).mono hF, h.far⟩
theorem Held.nw (h : Held w F E z f ss) (hf : Nw w w') : Held w' F E z f ss := h.fr hf (fun _ _ h => h)
theorem Held.nil (w : World) (F : Nat → Prop) (E : TypeId) (z : Nat) (f : List α → List Value) : Held w F E z f [] := ⟨fun _ h => (by cases h), .nil⟩
theorem Held.one (h : LsHd w F E z f s) : Held w F E z f [s] := ⟨fun t ht => by rw [List.mem_singleton.1 ht]; exact h, List.pairwise_singleton _ _⟩
theorem Held.append (h : Held w F E z f ss) (h' : Held w G E z f tt) (hFG : ∀ k, F k → ¬ G k) (hF : ∀ k, F k → k < w.heap.size → H k) (hG : ∀ k, G k → k < w.heap.size → H k) : Held w H E z f (ss ++ tt) :=
  ⟨fun s hs => (List.mem_append.1 hs).elim (fun hs => (h.each s hs).mono hF) (fun hs => (h'.each s hs).mono hG),
    List.pairwise_append.2 ⟨h.far, h'.far, fun a ha b hb k h1 h2 => hFG k ((h.each a ha).base k h1) ((h'.each b hb).base k h2)⟩⟩
/-- The blocks of these lists. -/
def InH (ss : List (Ls α)) (k : Nat) : Prop := ∃ s ∈ ss, inA s.a k
theorem Held.inH (h : Held w F E z f ss) {k : Nat} (hk : InH ss k) : F k := by
  obtain ⟨s, hs, hk⟩ := hk
  exact (h.each s hs).base k hk
theorem Held.frH (h : Held w F E z f ss) (hf : Fr S w w') (hn : ∀ k, InH ss k → ¬ S k) : Held w' F E z f ss := ⟨fun s hs => ⟨(h.each s hs).own.fr hf (fun k hk => hn k ⟨s, hs, hk⟩), (h.each s hs).base⟩, h.far⟩
theorem LsOwn.hd (h : LsOwn w0 w E z f s) : LsHd w (Since w0) E z f s := ⟨h.own, h.base⟩
end
def cfgInts (c : CfgM) : List (Ls Int) := [c.v, c.o, c.l, c.w]
def entInts (e : EntM) : List (Ls Int) := cfgInts e.cfg
def letInts (y : LetM) : List (Ls Int) := y.ents.l.flatMap entInts ++ cfgInts y.base.cfg
def letByts (y : LetM) : List (Ls UInt8) := y.ents.l.map EntM.cmd ++ [y.bytes]
/-- Entries whose lists are their own, each apart from all others. -/
structure EntsHd (w : World) (F : Nat → Prop) (l : List EntM) : Prop where
  each : ∀ e ∈ l, EntIn w F e
  ints : Held w F 3 1 intsC (l.flatMap entInts)
  cmds : Held w F 5 1 bytesC (l.map EntM.cmd)
/-- Letters whose lists are their own, each apart from all others. -/
structure LetsHd (w : World) (F : Nat → Prop) (l : List LetM) : Prop where
  each : ∀ y ∈ l, LetIn w F y
  ints : Held w F 3 1 intsC (l.flatMap letInts)
  byts : Held w F 5 1 bytesC (l.flatMap letByts)
  ents : Held w F 87 7 entsC (l.map LetM.ents)
def LetHd (w : World) (F : Nat → Prop) (y : LetM) : Prop := LetsHd w F [y]
section
variable {w w' w0 : World} {F G H S : Nat → Prop}
theorem EntsHd.fr {l : List EntM} (h : EntsHd w F l) (hf : Fr S w w') (hn : ∀ k, F k → ¬ S k) : EntsHd w' F l := ⟨fun e he => (h.each e he).fr hf hn, h.ints.fr hf hn, h.cmds.fr hf hn⟩
theorem EntsHd.mono {l : List EntM} (h : EntsHd w F l) (hF : ∀ k, F k → k < w.heap.size → G k) : EntsHd w G l := ⟨fun e he => (h.each e he).mono hF, h.ints.mono hF, h.cmds.mono hF⟩
theorem EntsHd.nw {l : List EntM} (h : EntsHd w F l) (hf : Nw w w') : EntsHd w' F l := h.fr hf (fun _ _ h => h)
theorem EntsHd.nil (w : World) (F : Nat → Prop) : EntsHd w F [] := ⟨fun _ h => (by cases h), Held.nil _ _ _ _ _, Held.nil _ _ _ _ _⟩
theorem EntsHd.append {l m : List EntM} (h : EntsHd w F l) (h' : EntsHd w G m) (hFG : ∀ k, F k → ¬ G k) (hF : ∀ k, F k → k < w.heap.size → H k) (hG : ∀ k, G k → k < w.heap.size → H k) : EntsHd w H (l ++ m) := by
  refine ⟨fun e he => ?_, ?_, ?_⟩
  · rcases List.mem_append.1 he with he | he
    · exact (h.each e he).mono hF
    · exact (h'.each e he).mono hG
  · rw [List.flatMap_append]; exact h.ints.append h'.ints hFG hF hG
  · rw [List.map_append]; exact h.cmds.append h'.cmds hFG hF hG
theorem LetsHd.fr {l : List LetM} (h : LetsHd w F l) (hf : Fr S w w') (hn : ∀ k, F k → ¬ S k) : LetsHd w' F l := ⟨fun e he => (h.each e he).fr hf hn, h.ints.fr hf hn, h.byts.fr hf hn, h.ents.fr hf hn⟩
theorem LetsHd.mono {l : List LetM} (h : LetsHd w F l) (hF : ∀ k, F k → k < w.heap.size → G k) : LetsHd w G l := ⟨fun e he => (h.each e he).mono hF, h.ints.mono hF, h.byts.mono hF, h.ents.mono hF⟩
theorem LetsHd.nw {l : List LetM} (h : LetsHd w F l) (hf : Nw w w') : LetsHd w' F l := h.fr hf (fun _ _ h => h)
theorem LetsHd.nil (w : World) (F : Nat → Prop) : LetsHd w F [] := ⟨fun _ h => (by cases h), Held.nil _ _ _ _ _, Held.nil _ _ _ _ _, Held.nil _ _ _ _ _⟩
theorem LetsHd.append {l m : List LetM} (h : LetsHd w F l) (h' : LetsHd w G m) (hFG : ∀ k, F k → ¬ G k) (hF : ∀ k, F k → k < w.heap.size → H k) (hG : ∀ k, G k → k < w.heap.size → H k) : LetsHd w H (l ++ m) := by
  refine ⟨fun e he => ?_, ?_, ?_, ?_⟩
  · rcases List.mem_append.1 he with he | he
    · exact (h.each e he).mono hF
    · exact (h'.each e he).mono hG
  · rw [List.flatMap_append]; exact h.ints.append h'.ints hFG hF hG
  · rw [List.flatMap_append]; exact h.byts.append h'.byts hFG hF hG
  · rw [List.map_append]; exact h.ents.append h'.ents hFG hF hG
theorem LetHd.fr {y : LetM} (h : LetHd w F y) (hf : Fr S w w') (hn : ∀ k, F k → ¬ S k) : LetHd w' F y := LetsHd.fr h hf hn
theorem LetHd.mono {y : LetM} (h : LetHd w F y) (hF : ∀ k, F k → k < w.heap.size → G k) : LetHd w G y := LetsHd.mono h hF
theorem LetHd.nw {y : LetM} (h : LetHd w F y) (hf : Nw w w') : LetHd w' F y := LetsHd.nw h hf
theorem LetHd.in_ {y : LetM} (h : LetHd w F y) : LetIn w F y := h.each y (by simp)

theorem CfgOwn.hd {c : CfgM} (h : CfgOwn w0 w c) : Held w (Since w0) 3 1 intsC (cfgInts c) := by
  have far : ∀ {s t : Ls Int}, (∀ k j, inA s.a k → inA t.a j → k < j) → LsFar s t := fun h k h1 h2 => by have := h k k h1 h2; omega
  refine ⟨fun s hs => ?_, ?_⟩
  · simp only [cfgInts, List.mem_cons, List.not_mem_nil, or_false] at hs
    rcases hs with rfl | rfl | rfl | rfl
    · exact h.v.hd
    · exact h.o.hd
    · exact h.l.hd
    · exact h.w.hd
  · unfold cfgInts
    refine List.pairwise_cons.2 ⟨fun t ht => ?_, List.pairwise_cons.2 ⟨fun t ht => ?_, List.pairwise_cons.2 ⟨fun t ht => ?_, List.pairwise_singleton _ _⟩⟩⟩
    · simp only [List.mem_cons, List.not_mem_nil, or_false] at ht
      rcases ht with rfl | rfl | rfl
      · exact far h.vo
      · exact far h.vl
      · exact far h.vw
    · simp only [List.mem_cons, List.not_mem_nil, or_false] at ht
      rcases ht with rfl | rfl
      · exact far h.ol
      · exact far h.ow
    · rw [List.mem_singleton.1 ht]
      exact far h.lw
theorem EntOwn.hd {e : EntM} (h : EntOwn w0 w e) : EntsHd w (Since w0) [e] := by
  refine ⟨fun x hx => by rw [List.mem_singleton.1 hx]; exact h.in_, ?_, ?_⟩
  · have : [e].flatMap entInts = cfgInts e.cfg := by simp [entInts]
    rw [this]
    exact h.cfg.hd
  · exact Held.one h.cmd.hd
theorem has_ints {c : CfgM} {s : Ls Int} (hs : s ∈ cfgInts c) {k : Nat} (hk : inA s.a k) : CfgHas c k := by
  simp only [cfgInts, List.mem_cons, List.not_mem_nil, or_false] at hs
  rcases hs with rfl | rfl | rfl | rfl
  · exact .inl hk
  · exact .inr (.inl hk)
  · exact .inr (.inr (.inl hk))
  · exact .inr (.inr (.inr hk))
theorem flatMap_far {α β : Type} {g : α → List (Ls β)} {l : List α} {R : α → α → Prop} (h : l.Pairwise R) (h1 : ∀ e ∈ l, (g e).Pairwise LsFar) (h2 : ∀ e ∈ l, ∀ f ∈ l, R e f → ∀ s ∈ g e, ∀ t ∈ g f, LsFar s t) : (l.flatMap g).Pairwise LsFar := by
  induction l with
  | nil => exact .nil
  | cons a l ih =>
    rw [List.flatMap_cons]
    obtain ⟨ha, hl⟩ := List.pairwise_cons.1 h
    refine List.pairwise_append.2 ⟨h1 a List.mem_cons_self, ih hl (fun e he => h1 e (List.mem_cons_of_mem _ he)) (fun e he f hf => h2 e (List.mem_cons_of_mem _ he) f (List.mem_cons_of_mem _ hf)), fun s hs t ht => ?_⟩
    obtain ⟨f, hf, ht⟩ := List.mem_flatMap.1 ht
    exact h2 a List.mem_cons_self f (List.mem_cons_of_mem _ hf) (ha f hf) s hs t ht
theorem LetOwn.hd {y : LetM} (h : LetOwn w0 w y) : LetHd w (Since w0) y := by
  have e1 : [y].flatMap letInts = letInts y := by simp
  have e2 : [y].flatMap letByts = letByts y := by simp
  have hI : ∀ e ∈ y.ents.l, Held w (Since w0) 3 1 intsC (entInts e) := fun e he => (h.each e he).cfg.hd
  refine ⟨fun x hx => by rw [List.mem_singleton.1 hx]; exact h.in_, ?_, ?_, Held.one h.ents.hd⟩
  · rw [e1]
    refine ⟨fun s hs => ?_, ?_⟩
    · rcases List.mem_append.1 hs with hs | hs
      · obtain ⟨e, he, hs⟩ := List.mem_flatMap.1 hs
        exact (hI e he).each s hs
      · exact h.cfg.hd.each s hs
    · refine List.pairwise_append.2 ⟨flatMap_far h.sorted (fun e he => (hI e he).far) (fun e he f hf hef s hs t ht k h1 h2 => ?_), h.cfg.hd.far, fun s hs t ht k h1 h2 => ?_⟩
      · have := hef k k (.inr (has_ints hs h1)) (.inr (has_ints ht h2))
        omega
      · obtain ⟨e, he, hs⟩ := List.mem_flatMap.1 hs
        have := h.behind e he k k (.inr (has_ints hs h1)) (has_ints ht h2)
        omega
  · rw [e2]
    refine ⟨fun s hs => ?_, ?_⟩
    · rcases List.mem_append.1 hs with hs | hs
      · obtain ⟨e, he, rfl⟩ := List.mem_map.1 hs
        exact (h.each e he).cmd.hd
      · rw [List.mem_singleton.1 hs]
        exact h.bytes.hd
    · refine List.pairwise_append.2 ⟨List.pairwise_map.2 (h.sorted.imp fun hef k h1 h2 => ?_), List.pairwise_singleton _ _, fun s hs t ht k h1 h2 => ?_⟩
      · have := hef k k (.inl h1) (.inl h2)
        omega
      · obtain ⟨e, he, rfl⟩ := List.mem_map.1 hs
        rw [List.mem_singleton.1 ht] at h2
        have := h.ahead e he k k h2 (.inl h1)
        omega
/-- What a letter is made of that was read. -/
theorem LetHd.make {y : LetM} (F1 F2 F3 : Nat → Prop) (hk : 0 ≤ y.kind ∧ y.kind ≤ 255) (he : EntsHd w F1 y.ents.l) (hl : LsHd w H 87 7 entsC y.ents) (hc : CfgIn w H y.base.cfg) (hi : Held w F2 3 1 intsC (cfgInts y.base.cfg)) (hb : LsHd w F3 5 1 bytesC y.bytes)
    (h12 : ∀ k, F1 k → ¬ F2 k) (h13 : ∀ k, F1 k → ¬ F3 k) (h1 : ∀ k, F1 k → k < w.heap.size → H k) (h2 : ∀ k, F2 k → k < w.heap.size → H k) (h3 : ∀ k, F3 k → k < w.heap.size → H k) : LetHd w H y := by
  have e1 : [y].flatMap letInts = letInts y := by simp
  have e2 : [y].flatMap letByts = letByts y := by simp
  have lin : ∀ {α : Type} {E : TypeId} {z : Nat} {f : List α → List Value} {s : Ls α}, LsHd w H E z f s → LsIn w H f s := fun h => ⟨h.own.sl.mono fun k hk _ => h.base k hk, h.own.cap_le⟩
  refine ⟨fun x hx => ?_, ?_, ?_, Held.one hl⟩
  · rw [List.mem_singleton.1 hx]
    exact ⟨hk, lin hl, fun e hee => (he.each e hee).mono h1, hc, lin (hb.mono h3)⟩
  · rw [e1]
    exact he.ints.append hi h12 h1 h2
  · rw [e2]
    exact he.cmds.append (Held.one hb) h13 h1 h3
end

/-- Lists of two kinds lie in no common block. -/
theorem Own.off2 {w : World} {E E' : TypeId} {z z' n n' c c' : Nat} {A A' : Option Addr} {cs cs' : List Value} (h : Own w E z A n c cs) (h' : Own w E' z' A' n' c' cs') (hne : E' ≠ E) : ∀ k, inA A' k → ¬ inA A k := by
  intro k hk hh
  rcases h'.2 with ⟨rfl, _⟩ | ⟨g, cur, rfl, hb, _⟩
  · exact inA_none _ hk
  · rw [(inA_some _ _).1 hk] at hh
    exact h.ne_ hb hne hh
theorem Held.off {α β : Type} {w : World} {F G : Nat → Prop} {E E' : TypeId} {z z' : Nat} {f : List α → List Value} {f' : List β → List Value} {ss : List (Ls α)} {tt : List (Ls β)} (h : Held w F E z f ss) (h' : Held w G E' z' f' tt) (hne : E' ≠ E) : ∀ k, InH tt k → ¬ InH ss k := by
  rintro k ⟨t, ht, h1⟩ ⟨s, hs, h2⟩
  exact (h.each s hs).own.off2 (h'.each t ht).own hne k h1 h2

/-! Lists as functions of their place. -/
section
variable {α : Type} {w w' : World} {F : Nat → Prop} {E : TypeId} {z : Nat} {f : List α → List Value}
def atA (ss : List (Ls α)) (k : Nat) : Option Addr := (ss.getD k lsZ).a
def atN (ss : List (Ls α)) (k : Nat) : Nat := (ss.getD k lsZ).l.length
def atC (ss : List (Ls α)) (k : Nat) : Nat := (ss.getD k lsZ).c
theorem hdrs_of (ss : List (Ls α)) : hdrs ss.length (atA ss) (atN ss) (atC ss) = ss.map Ls.v := by
  refine List.ext_getElem (by simp [hdrs]) fun i h1 h2 => ?_
  simp only [List.length_map] at h2
  simp [hdrs, hdr, atA, atN, atC, h2]
theorem Held.rows {ss : List (Ls α)} (h : Held w F E z f ss) : RowsC w E z ss.length (atA ss) (atN ss) (atC ss) (fun k => f (ss.getD k lsZ).l) := fun k hk => by
  have h1 := (h.each _ (List.getElem_mem hk)).own.c
  simpa [atA, atN, atC, List.getD, List.getElem?_eq_getElem hk] using h1
theorem LsFar.symm {s t : Ls α} (h : LsFar s t) : LsFar t s := fun k h1 h2 => h k h2 h1
theorem Held.farC {ss : List (Ls α)} (h : Held w F E z f ss) : FarC ss.length (atA ss) (atC ss) := by
  intro i j hi hj hij b hb hb2
  have h1 := (hom_in hb).1
  have h2 := (hom_in hb2).1
  simp only [atA, List.getD, List.getElem?_eq_getElem hi, List.getElem?_eq_getElem hj, Option.getD_some] at h1 h2
  rcases Nat.lt_or_ge i j with hlt | hge
  · exact (List.pairwise_iff_getElem.1 h.far i j hi hj hlt) b h1 h2
  · exact (List.pairwise_iff_getElem.1 h.far j i hj hi (by omega)) b h2 h1
theorem inC_H {ss : List (Ls α)} {b : Nat} (hb : InC ss.length (atA ss) (atC ss) b) : InH ss b := by
  obtain ⟨k, hk, hb⟩ := hb
  have h1 := (hom_in hb).1
  simp only [atA, List.getD, List.getElem?_eq_getElem hk, Option.getD_some] at h1
  exact ⟨_, List.getElem_mem hk, h1⟩
end
end Go.Proofs.YtippdjaakcgeoaaGreat
