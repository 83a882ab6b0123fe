/- Lists that lie apart, of any kind: the words. A list without any room may lie anywhere. -/
import Derived.Test.YtippdjaakcgeoaaMemB
import Derived.Test.YtippdjaakcgeoaaMid
namespace Go.Proofs.Ytippdjaakcgeoaa
open Go Go.RowKit

/-- The block that a list may write to: none where it has no room. -/
def hom (A : Option Addr) (c : Nat) : Option Addr := if c = 0 then none else A
theorem hom_pos (A : Option Addr) {c : Nat} (h : 0 < c) : hom A c = A := if_neg (by omega)
theorem hom_in {A : Option Addr} {c b : Nat} (h : inA (hom A c) b) : inA A b ∧ 0 < c := by
  unfold hom at h
  split at h
  · exact (inA_none _ h).elim
  · exact ⟨h, by omega⟩
theorem hom_zero (A : Option Addr) (b : Nat) : ¬ inA (hom A 0) b := fun h => by have := (hom_in h).2; omega
/-- A list of the call's own, or one without any room, wherever it lies. -/
def OwnC (w : World) (E : TypeId) (z : Nat) (A : Option Addr) (n cap : Nat) (cs : List Value) : Prop := (Own w E z A n cap cs ∧ 0 < cap) ∨ (n = 0 ∧ cap = 0 ∧ cs = [])
section
variable {w w' : World} {E E' : TypeId} {z z' n n' cap cap' : Nat} {A A' : Option Addr} {cs cs' : List Value} {S : Nat → Prop}
theorem Own.c (h : Own w E z A n cap cs) : OwnC w E z A n cap cs := by
  rcases Nat.eq_zero_or_pos cap with h0 | h0
  · have h1 := h.cap_le.1
    have h2 : n = 0 := by omega
    have h3 := h.1
    rw [h2, Nat.zero_mul] at h3
    exact .inr ⟨h2, h0, List.eq_nil_of_length_eq_zero h3⟩
  · exact .inl ⟨h, h0⟩
theorem OwnC.zero (w : World) (E : TypeId) (z : Nat) (A : Option Addr) : OwnC w E z A 0 0 [] := .inr ⟨rfl, rfl, rfl⟩
theorem OwnC.len (h : OwnC w E z A n cap cs) : cs.length = n * z := by
  rcases h with ⟨h, _⟩ | ⟨rfl, _, rfl⟩
  · exact h.1
  · simp
theorem OwnC.cap_le (h : OwnC w E z A n cap cs) : n ≤ cap ∧ cap ≤ maxLen := by
  rcases h with ⟨h, _⟩ | ⟨rfl, rfl, rfl⟩
  · exact h.cap_le
  · exact ⟨Nat.le_refl _, Nat.zero_le _⟩
theorem OwnC.fr (h : OwnC w E z A n cap cs) (hf : Fr S w w') (hn : ∀ k, inA (hom A cap) k → ¬ S k) : OwnC w' E z A n cap cs := by
  rcases h with ⟨h, h0⟩ | h
  · exact .inl ⟨h.fr hf (fun k hk => hn k (by rw [hom_pos A h0]; exact hk)), h0⟩
  · exact .inr h
theorem OwnC.nw (h : OwnC w E z A n cap cs) (hf : Nw w w') : OwnC w' E z A n cap cs := h.fr hf (fun _ _ h => h)
theorem OwnC.lt (h : OwnC w E z A n cap cs) : ∀ k, inA (hom A cap) k → k < w.heap.size := by
  intro k hk
  rcases h with ⟨h, h0⟩ | ⟨rfl, rfl, rfl⟩
  · exact h.lt k (hom_in hk).1
  · exact (hom_zero _ _ hk).elim
theorem OwnC.at_ (h : OwnC w E z A n cap cs) (h0 : 0 < cap) : ∃ g, A = some ⟨g, 0, none⟩ ∧ hom A cap = some ⟨g, 0, none⟩ ∧ Own w E z (some ⟨g, 0, none⟩) n cap cs := by
  rcases h with ⟨h, _⟩ | ⟨_, h1, _⟩
  · rcases h.2 with ⟨_, _, h2⟩ | ⟨g, cur, rfl, _⟩
    · omega
    · exact ⟨g, rfl, hom_pos _ h0, h⟩
  · omega
theorem OwnC.off (h : OwnC w E z A n cap cs) (h' : OwnC w E' z' A' n' cap' cs') (hne : E' ≠ E) : ∀ j, inA (hom A' cap') j → ¬ inA (hom A cap) j := by
  intro j hj hh
  obtain ⟨_, h1⟩ := hom_in hj
  obtain ⟨_, h2⟩ := hom_in hh
  obtain ⟨g, rfl, e1, o1⟩ := h.at_ h2
  obtain ⟨g', rfl, e2, o2⟩ := h'.at_ h1
  rw [e1] at hh
  rw [e2] at hj
  have e3 := (inA_some _ _).1 hj
  have e4 := (inA_some _ _).1 hh
  subst e3
  subst e4
  obtain ⟨cur, hb, _⟩ := o2.blk
  exact o1.ne_ hb hne ((inA_some _ _).2 rfl)
theorem OwnC.offB (h : OwnC w E z A n cap cs) {g : Nat} {t : TypeId} {bs : Array Value} (hb : Blk w g t bs) (hne : t ≠ E) : ¬ inA (hom A cap) g := by
  intro hk
  obtain ⟨_, h1⟩ := hom_in hk
  obtain ⟨g', rfl, e1, o1⟩ := h.at_ h1
  rw [e1] at hk
  exact o1.ne_ hb hne hk
theorem OwnC.sl (h : OwnC w E z A n cap cs) : Sl w (inA (hom A cap)) A cs := by
  rcases h with ⟨h, h0⟩ | ⟨_, _, rfl⟩
  · rw [hom_pos A h0]; exact h.sl
  · exact .inl rfl
theorem Own.storeL {g : Nat} (h : Own w E z (some ⟨g, 0, none⟩) n cap cs) (o : Nat) (vs : List Value) : Own (w.setCells g o vs) E z (some ⟨g, 0, none⟩) n cap (putL cs o vs) := by
  induction vs generalizing w o cs with
  | nil => rw [putL_nil]; exact h
  | cons v vs ih =>
    rw [putL_cons]
    exact ih (h.store o v) (o + 1)
theorem putL_len (cs : List Value) (o : Nat) (vs : List Value) : (putL cs o vs).length = cs.length := by
  induction vs generalizing o cs with
  | nil => rw [putL_nil]
  | cons v vs ih => rw [putL_cons, ih, List.length_set]
theorem putL_at (cs : List Value) (o : Nat) (vs : List Value) (h : o + vs.length ≤ cs.length) : putL cs o vs = cs.take o ++ (vs ++ cs.drop (o + vs.length)) := by
  induction vs generalizing o cs with
  | nil => rw [putL_nil]; simp
  | cons v vs ih =>
    simp only [List.length_cons] at h
    rw [putL_cons, ih _ _ (by rw [List.length_set]; omega), List.take_succ_eq_append_getElem (by rw [List.length_set]; omega)]
    simp only [List.getElem_set_self, List.length_cons, List.append_assoc, List.cons_append, List.nil_append]
    rw [List.take_set_of_le (Nat.le_refl _), List.drop_set_of_lt (by omega)]
    congr 4
    omega

/-- What an append leaves: it had room, or it grew. -/
def AppC (w : World) (E : TypeId) (z : Nat) (A : Option Addr) (n cap m : Nat) (cs news : List Value) (A' : Option Addr) (cap' : Nat) (w' : World) : Prop :=
  Own w' E z A' (n + m) cap' (cs ++ news) ∧ ((n + m ≤ cap ∧ A' = A ∧ cap' = cap ∧ Fr (inA (hom A cap)) w w') ∨ (cap < n + m ∧ A' = some ⟨w.heap.size, 0, none⟩ ∧ Nw w w'))
theorem AppC.fr {m : Nat} {news : List Value} (h : AppC w E z A n cap m cs news A' cap' w') : Fr (inA (hom A cap)) w w' := by
  rcases h.2 with ⟨_, _, _, h⟩ | ⟨_, _, h⟩
  · exact h
  · exact Nw.on h
variable {P : Program} {F : Nat → Prop}
/-- 'append(s, x...)', something is appended. -/
theorem run_append_c (w : World) (t ty : TypeId) (bytes : Nat) (zv : Value) (ht : P.underlying t = some (.slice E))
    (hinfo : (P.info? E).map (fun i => (i.zero, i.size, i.bytes)) = some (some zv, z, bytes)) (hzs : zv.cells.size = z) (hsz : 0 < z)
    (hown : OwnC w E z A n cap cs) {A2 : Option Addr} {m c : Nat} {news : List Value} (hsl : Sl w F A2 news) (hl : news.length = m * z) (h1 : ∀ u ∈ news, u.oneCell' = true)
    (hbytes : (n + m) * bytes ≤ 140737488355328) (hmax : n + m ≤ maxLen) (hm : 0 < m) :
    ∃ A' cap' w', (Builtin.append_ #[t, t] ty #[.slice A n cap, .slice A2 m c]).run P w = .ok (.slice A' (n + m) cap') w' ∧ AppC w E z A n cap m cs news A' cap' w' := by
  rcases hown with ⟨hown, h0⟩ | ⟨rfl, rfl, rfl⟩
  · obtain ⟨A', cap', w', hr, h2, _, h3⟩ := run_append_two (P := P) w t ty bytes zv ht hinfo hzs hsz hown hsl hl h1 hbytes hmax (c := c)
    refine ⟨A', cap', w', hr, h2, ?_⟩
    rw [hom_pos A h0]
    exact h3
  · obtain ⟨i, hi, hz0, hz1, hz2⟩ := info_parts hinfo
    subst hz1
    subst hz2
    have hne : news ≠ [] := by
      rintro rfl
      have := Nat.mul_pos hm hsz
      simp at hl; omega
    obtain ⟨b, o, rfl, _, _, hc⟩ := hsl.at_ hne
    have hcells : ∀ j u, news[j]? = some u → w.cell? ((⟨b, o, none⟩ : Addr).add j) = some u := by
      intro j u hu
      rw [Addr.add_lit]
      exact hc j u hu
    have hsmall : 0 + m ≤ 9223372036854775807 := by simp only [maxLen] at hmax; omega
    have fin : ∀ old, (Builtin.append_ #[t, t] ty #[.slice A 0 0, .slice (some ⟨b, o, none⟩) m c]).run P w = .ok (.slice (some ⟨w.heap.size, 0, none⟩) (0 + m) (grownCap w (0 + m) old E))
          (w.drew.alloc (.cells (([] : List Value).toArray ++ news.toArray ++ Builtin.zeroCells zv.cells (grownCap w (0 + m) old E - (0 + m))) E)) →
        ∃ A' cap' w', (Builtin.append_ #[t, t] ty #[.slice A 0 0, .slice (some ⟨b, o, none⟩) m c]).run P w = .ok (.slice A' (0 + m) cap') w' ∧ AppC w E i.size A 0 0 m [] news A' cap' w' := by
      intro old hr
      have hge := grownCap_ge w (0 + m) old E
      have hcm : grownCap w (0 + m) old E ≤ maxLen := grownCap_le_maxLen w (0 + m) old E hmax
      refine ⟨_, _, _, hr, ⟨by simp [hl], .inr ⟨w.heap.size, _, rfl, heap_alloc_new w.drew _, hge, hcm, ?_, ?_⟩⟩, .inr ⟨by omega, rfl, ((Fr.refl _ w).drew).alloc _⟩⟩
      · simp only [Array.size_append, List.size_toArray, size_zeroCells, hzs, hl, List.length_nil, Nat.zero_add, ← Nat.add_mul]
        congr 1
        simp only [Nat.zero_add] at hge
        omega
      · simp only [Array.toList_append, List.nil_append, Nat.zero_add]
        rw [← hl]
        exact List.take_left
    cases A with
    | none =>
      refine fin 0 ?_
      have hr := run_append_nil (P := P) w t ty E i zv ht hi hz0 _ m c news hl hcells (by omega) (by omega) (by have hb := hbytes; simp only [Nat.zero_add] at hb; omega)
      simp only [Nat.zero_add, Array.empty_append] at hr ⊢
      exact hr
    | some a =>
      refine fin 0 ?_
      exact run_append_grow (P := P) w t ty E i zv ht hi hz0 a 0 0 [] (by simp) (by intro j u hu; simp at hu) _ m c news hl hcells (by omega) (by omega) (growslice_fits (by omega) hbytes)
/-- The walk over such an append. -/
theorem wl_appendC {w : World} {ops : Array Oper} {rest : List Oper} {o : Oper} {a : Act} {Q : Exit → Act → World → Prop} (hgd : o.guard = none) (s x : Operand) (t : TypeId)
    (ho : o.op = .call { callee := .builtin .append, args := #[s, x], argTypes := #[t, t] }) (bytes : Nat) (zv : Value) (ht : P.underlying t = some (.slice E))
    (hinfo : (P.info? E).map (fun i => (i.zero, i.size, i.bytes)) = some (some zv, z, bytes)) (hzs : zv.cells.size = z) (hsz : 0 < z)
    (hs : a.eval s = .slice A n cap) (hown : OwnC w E z A n cap cs) {A2 : Option Addr} {m c : Nat} {news : List Value} (hx : a.eval x = .slice A2 m c) (hsl : Sl w F A2 news) (hl : news.length = m * z) (h1 : ∀ u ∈ news, u.oneCell' = true)
    (hbytes : (n + m) * bytes ≤ 140737488355328) (hmax : n + m ≤ maxLen) (hm : 0 < m)
    (h : ∀ A' cap' w', AppC w E z A n cap m cs news A' cap' w' → wpList P ops Q rest (a.put o.dst (.slice A' (n + m) cap')) w') :
    wpList P ops Q (o :: rest) a w := by
  refine wpList_plain hgd fun K hK' => ?_
  obtain ⟨A', cap', w', hrun, h2⟩ := run_append_c (P := P) w t o.type bytes zv ht hinfo hzs hsz hown hsl hl h1 hbytes hmax hm (c := c)
  unfold Oper.wp execOp
  simp only [ho, resolve, invoke, builtin, Sem.run_bind, Sem.run_pure, Result.andThen_ok, List.map_toArray, List.map_cons, List.map_nil, hs, hx]
  rw [hrun]
  exact hK' _ _ (h A' cap' w' h2)
end

/-! What an append to a list of the call's own leaves. -/
theorem AppTo.newOwn {w0 w w' : World} {E : TypeId} {size n cap m : Nat} {A A' : Option Addr} {cap' : Nat} {cs news : List Value} (h : AppTo w E size A n cap m cs news A' cap' w') (hq : Nw w0 w) (hA : ∀ k, inA A k → w0.heap.size ≤ k) :
    Own w' E size A' (n + m) cap' (cs ++ news) ∧ Nw w0 w' ∧ (∀ k, inA A' k → w0.heap.size ≤ k) := by
  obtain ⟨ho2, _, hcase⟩ := h
  refine ⟨ho2, ?_, ?_⟩
  · rcases hcase with ⟨_, rfl, _, hf⟩ | ⟨_, rfl, hf⟩
    · exact hq.new hf hA
    · exact hq.tr hf
  · intro k hk
    rcases hcase with ⟨_, rfl, _, hf⟩ | ⟨_, rfl, hf⟩
    · exact hA k hk
    · rw [(inA_some _ _).1 hk]; exact hq.size

theorem AppTo.fr {w w' : World} {E : TypeId} {size n cap m : Nat} {A A' : Option Addr} {cap' : Nat} {cs news : List Value} (h : AppTo w E size A n cap m cs news A' cap' w') : Fr (inA A) w w' := by
  obtain ⟨_, _, ⟨_, _, _, hf⟩ | ⟨_, _, hf⟩⟩ := h
  · exact hf
  · exact Nw.on hf

theorem AppTo.inA_ {w w' : World} {E : TypeId} {size n cap m : Nat} {A A' : Option Addr} {cap' : Nat} {cs news : List Value} (h : AppTo w E size A n cap m cs news A' cap' w') : ∀ j, inA A' j → inA A j ∨ j = w.heap.size := by
  intro j hj
  rcases h.2.2 with ⟨_, rfl, _, _⟩ | ⟨_, rfl, _⟩
  · exact .inl hj
  · exact .inr ((inA_some _ _).1 hj)

/-! Marks: whatever they are, of z cells each. -/
def mksL (mk : Nat → Nat → List Value) (k n : Nat) : List Value := ((List.range n).map (mk k)).flatten
section
variable {mk : Nat → Nat → List Value} {z : Nat}
theorem mksL_len (hmk : ∀ k i, (mk k i).length = z) (k n : Nat) : (mksL mk k n).length = n * z := by
  unfold mksL
  induction n with
  | zero => simp
  | succ n ih => rw [List.range_succ, List.map_append, List.flatten_append, List.length_append, ih]; simp [hmk, Nat.succ_mul]
theorem mksL_succ (mk : Nat → Nat → List Value) (k n : Nat) : mksL mk k (n + 1) = mksL mk k n ++ mk k n := by
  unfold mksL
  rw [List.range_succ, List.map_append, List.flatten_append]
  simp
theorem mksL_take (hmk : ∀ k i, (mk k i).length = z) (k n i : Nat) (h : i ≤ n) : (mksL mk k n).take (i * z) = mksL mk k i := by
  induction n with
  | zero =>
    obtain rfl : i = 0 := by omega
    simp [mksL]
  | succ n ih =>
    rcases Nat.lt_or_ge i (n + 1) with h1 | h1
    · rw [mksL_succ, List.take_append_of_le_length (by rw [mksL_len hmk]; exact Nat.mul_le_mul_right _ (by omega))]
      exact ih (by omega)
    · obtain rfl : i = n + 1 := by omega
      rw [List.take_of_length_le (by rw [mksL_len hmk]; exact Nat.le_refl _)]
theorem mksL_at (hmk : ∀ k i, (mk k i).length = z) (k n i j : Nat) (h : i < n) (hj : j < z) : (mksL mk k n)[i * z + j]? = (mk k i)[j]? := by
  induction n with
  | zero => omega
  | succ n ih =>
    rw [mksL_succ]
    rcases Nat.lt_or_ge i n with h1 | h1
    · have h2 := Nat.mul_le_mul_right z (show i + 1 ≤ n from h1)
      rw [Nat.succ_mul] at h2
      rw [List.getElem?_append_left (by rw [mksL_len hmk]; omega)]
      exact ih h1
    · obtain rfl : i = n := by omega
      rw [List.getElem?_append_right (by rw [mksL_len hmk]; omega), mksL_len hmk]
      congr 1
      omega
end
end Go.Proofs.Ytippdjaakcgeoaa
