/- Lemmas of the walks: NoP, NoQ, NoR, NoG, NoK, NpB. (Laid together by shake.py.) -/
import Derived.Test.YtippdjaakcgeoaaGreatNr06
import Derived.Test.YtippdjaakcgeoaaGreatNr07
import Derived.Test.YtippdjaakcgeoaaGreatNr08
import Derived.Test.YtippdjaakcgeoaaGreatNr10
set_option linter.unusedVariables false
set_option linter.unusedSimpArgs false
namespace Go.Proofs.YtippdjaakcgeoaaGreat
open Go Go.RowKit
set_option linter.unusedVariables false
set_option linter.unusedSimpArgs false

/-- A struct loaded under a guard that says yes. -/
theorem wl_load_cells_w {P : Program} {ops : Array Oper} {rest : List Oper} {o : Oper} {a : Act} {w : World} {Q : Exit → Act → World → Prop} (hw : Region.wanted o (yielded ops a.tmps) = true) (ty : TypeId) (x : Operand) (ho : o.op = .load ty x)
    (g off : Nat) (hx : a.eval x = .pointer (some ⟨g, off, none⟩)) (cs : List Value) (d : TypeDesc) (hc : ∀ j v, cs[j]? = some v → w.cell? ⟨g, off + j, none⟩ = some v)
    (hu : P.underlying ty = some d) (hd : (match d with | .struct _ | .array _ _ => true | _ => false) = true) (hi : (P.info? ty).map (·.size) = some cs.length)
    (h : wpList P ops Q rest (a.put o.dst (.agg cs.toArray)) w) : wpList P ops Q (o :: rest) a w := by
  unfold wpList
  rw [if_pos hw]
  exact .inl (wp_load_cells ty x ho g off hx cs d hc hu hd hi h)
/-- The first of a link put behind once more. -/
def twP (p : Nm → List LetF) (n : Nm) : (Nm → List LetF) × Bool :=
  match p n with
  | [] => (p, false)
  | x :: _ => ((sendP p [x]).1, decide ((sendP p [x]).2 = 1))
set_option maxRecDepth 100000 in
set_option maxHeartbeats 4000000 in
theorem netTwice_any (w : World) (O I : Nat → Prop) (Y : NetM) (h : IsNet w O I Y) (hYs : Y.s < 900000000) (a b : Int) (hn : NmWf (a, b)) :
    Calls Tryz.prog 25 #[.pointer (some ⟨Y.g, 0, none⟩), I64 a, I64 b] w fun e w' => e = .returned (.bool (twP Y.p (a, b)).2) ∧ ∃ O' I' Y', IsNet w' O' I' Y' ∧ Y'.g = Y.g ∧ Y'.m = Y.m ∧ Y'.p = (twP Y.p (a, b)).1 ∧ Y'.s ≤ Y.s + 1 ∧ Fr O w w' ∧ (∀ k, O' k → O k ∨ w.heap.size ≤ k) ∧ ∀ k, I' k → I k ∨ w.heap.size ≤ k := by
  obtain ⟨A, c, l, hL⟩ := h.link_or (a, b)
  have hw : Calls Tryz.prog 62 #[.pointer (some ⟨Y.g, 0, none⟩), .agg #[I64 a, I64 b]] w fun e w' => e = .returned (.slice A l.length c) ∧ Nw w w' := (netWaits_any w Y.g Y.m Y.s _ h.blk h.map (a, b) hn).mono fun e w' h1 => ⟨by rw [h1.1, hL.val], h1.2⟩
  cases l with
  | nil =>
    have e1 : twP Y.p (a, b) = (Y.p, false) := by unfold twP; rw [← hL.p]; rfl
    rw [e1]
    have hw2 : Calls Tryz.prog 62 #[.pointer (some ⟨Y.g, 0, none⟩), .agg #[I64 a, I64 b]] w fun e w' => e = .returned (.slice A 0 c) ∧ Nw w w' := hw
    clear hw
    go_enter Tryz.func25, Tryz.ntmps25
    go_wp2_with (go_at_call 62; refine hw2.mono ?_; rintro e w1 ⟨rfl, q1⟩)
    go_ret
    exact ⟨rfl, O, I, Y, h.nw q1, rfl, rfl, rfl, Nat.le_succ _, Nw.on q1, fun _ h => .inl h, fun _ h => .inl h⟩
  | cons x l =>
    have e1 : twP Y.p (a, b) = ((sendP Y.p [x.x]).1, decide ((sendP Y.p [x.x]).2 = 1)) := by unfold twP; rw [← hL.p]; rfl
    rw [e1]
    obtain ⟨n0, hn0⟩ : ∃ n0, n0 = (x :: l).length := ⟨_, rfl⟩
    have hpos : 0 < n0 := by rw [hn0]; simp
    have hi0 : (0 : Int) < (n0 : Int) := by omega
    rw [← hn0] at hw
    have HN0 := Lib.hid hn0
    clear hn0
    have hsl := hL.own.sl
    obtain ⟨r, hr⟩ : ∃ r, r = (sendP Y.p [x.x]).2 := ⟨_, rfl⟩
    rw [← hr]
    have HR := Lib.hid hr
    clear hr
    obtain ⟨g2, o2, rfl, _, _, hc0⟩ := hsl.let_ (k := 0) (by simp)
    simp only [Nat.zero_mul, Nat.add_zero, List.getElem_cons_zero] at hc0
    have hin : inA (some ⟨g2, o2, none⟩) g2 := (inA_some _ _).2 rfl
    have x0 := hL.each x List.mem_cons_self
    have z0 := hL.sz x List.mem_cons_self
    go_enter Tryz.func25, Tryz.ntmps25
    go_upto_region 2 with (go_at_call 62; refine hw.mono ?_; rintro e w1 ⟨rfl, q1⟩)
    have hc : ∀ j u, (letL x)[j]? = some u → w1.cell? ⟨g2, o2 + j, none⟩ = some u := fun j u hu => (q1.cell (p := ⟨g2, o2 + j, none⟩) (hL.own.lt _ hin) (fun h => h)).trans (hc0 j u hu)
    have N1 := h.nw q1
    have x1 := x0.nw q1
    obtain ⟨D, hD⟩ : ∃ D, D = w1.heap.size := ⟨_, rfl⟩
    obtain ⟨W2, hW2⟩ : ∃ W, W = w1.alloc (.cells (letA x) 50) := ⟨_, rfl⟩
    have q2 : Nw w1 W2 := by rw [hW2]; exact (Fr.refl (fun _ => False) _).alloc _
    have s2 : Sl W2 (fun k => I k ∨ k = D) (some ⟨D, 0, none⟩) (letsC [x]) := by
      rw [letsC_one, hW2, hD]
      exact (sl_new w1 50 (letL x) _ rfl).mono fun k hk _ => .inr hk
    have hsend := netSend_any W2 O I (fun k => I k ∨ k = D) Y (N1.nw q2) (some ⟨D, 0, none⟩) 1 [x] s2 (fun y hy => by rw [List.mem_singleton.1 hy]; exact (x1.nw q2).mono fun k hk _ => .inl hk) (fun y hy => by rw [List.mem_singleton.1 hy]; exact z0) (by simp) (fun k hk ho => by
      rcases hk with hk | hk
      · exact h.dis k ho hk
      · have := h.ol k ho; have := q1.size; omega) hYs
    have e2 : (sendP Y.p ([x].map LetM.x)).2 = r := HR.out.symm
    have e3 : [x].map LetM.x = [x.x] := rfl
    have e4 : [x].length = 1 := rfl
    rw [e2, e3, e4] at hsend
    have HS := Lib.hid hsend
    have HD := Lib.hid hD
    have HW2 := Lib.hid hW2
    clear hsend hD hW2 e2 e3 e4 hc0 hw
    go_wp2_with (first | (refine wl_load_cells_w (by rfl) 50 _ rfl g2 o2 rfl _ _ hc Tryz.underlying50 rfl (by kernel_rfl) ?_) | (go_at_call 19; rw [← HW2.out, ← HD.out]; refine HS.out.mono ?_; rintro e w3 ⟨rfl, hP3⟩; have HP3 := Lib.hid hP3; clear hP3))
    go_ret
    obtain ⟨O3, I3, Y3, N3, eg, em, ep, es, f3, hO3, hI3⟩ := HP3.out
    have h1 := q1.size
    have h2 := q2.size
    refine ⟨?_, O3, I3, Y3, N3, eg, em, ep, es, (Nw.on (q1.tr q2)).tr f3, fun k hk => ?_, fun k hk => ?_⟩
    · by_cases he : r = 1
      · subst he; rfl
      · have : ¬ (r : Int) = 1 := by omega
        simp [he, this]
    · rcases hO3 k hk with h3 | h3
      · exact .inl h3
      · exact .inr (by omega)
    · rcases hI3 k hk with h3 | h3
      · exact .inl h3
      · exact .inr (by omega)
end Go.Proofs.YtippdjaakcgeoaaGreat

namespace Go.Proofs.YtippdjaakcgeoaaGreat
open Go Go.RowKit
set_option linter.unusedVariables false
set_option linter.unusedSimpArgs false

/-- What a net is behind a link set to letters that it had, in memory of their own. -/
theorem LinkOr.own_ {w wx w' : World} {O I : Nat → Prop} {Y : NetM} {n : Nm} {A A' : Option Addr} {c c' : Nat} {l l' : List LetM} (h : IsNet w O I Y) (hs : LinkOr w O I Y n A c l) (q : Nw w wx) (hm : ∀ x ∈ l', x ∈ l) (h0 : 0 < l'.length) (h40 : l'.length ≤ 40)
    (ho : Own wx 50 20 A' l'.length c' (letsC l')) (hA' : ∀ k, inA A' k → w.heap.size ≤ k) (hM : WayMap w' Y.m (Y.s + 1) (setW (fun x => (Y.f x).map Ls.v) n (some (.slice A' l'.length c')))) (hf : Fr (· = Y.m) wx w') :
    ∃ O' Y', IsNet w' O' I Y' ∧ Y'.g = Y.g ∧ Y'.m = Y.m ∧ Y'.p = setP Y.p n (l'.map LetM.x) ∧ Y'.s = Y.s + 1 ∧ Fr O w w' ∧ ∀ j, O' j → O j ∨ w.heap.size ≤ j := by
  have N5 := h.nw q
  have hq := q.size
  have hfs := hf.size
  have hmw := h.map.lt
  have hA'm : ∀ k, inA A' k → ¬ k = Y.m := fun k hk e => by have := hA' k hk; omega
  have hIs : ∀ k, I k → ¬ k = Y.m := fun k hk e => h.dis _ h.om (e ▸ hk)
  have N6 := N5.set (n := n) (v := some ⟨A', c', l'⟩) (O' := fun k => O k ∨ inA A' k) (I' := I) (s' := Y.s + 1) (w' := w') hM hf h.gm (fun n' t _ ht k hk => (N5.link n' t ht).off_map N5.map k hk) hIs (fun _ h => .inl h) (fun _ h => h)
    (fun k h8 h9 => by
      rcases h8 with h8 | h8
      · exact h.dis _ h8 h9
      · have := hA' k h8; have := h.il _ h9; omega)
    (fun k h8 => by
      rcases h8 with h8 | h8
      · have := h.ol _ h8; omega
      · have := ho.lt k h8; omega)
    (fun k h8 => by have := h.il _ h8; omega)
    (fun t ht => by
      injection ht with ht
      subst ht
      refine ⟨⟨ho.o.fr hf hA'm, fun k hk => .inr hk, h0, h40, fun x hx => ((hs.each x (hm x hx)).nw q).fr hf hIs, fun x hx => hs.sz x (hm x hx), fun x hx => hs.ok x (hm x hx)⟩, fun n' t' hn ht' k h8 h9 => ?_⟩
      have := hA' k h8
      have := h.ol _ ((h.link n' t' ht').base k h9)
      omega)
  refine ⟨_, _, N6, rfl, rfl, ?_, rfl, ?_, fun j hj => ?_⟩
  · funext m
    unfold setP
    by_cases e : m = n
    · subst e
      rw [NetM.p_some (s := ⟨A', c', l'⟩) (by simp [setF]), if_pos rfl]
    · rw [if_neg e]
      unfold NetM.p
      simp [setF, e]
  · exact (Nw.on q).tr (hf.mono fun k hk => .inl (by rw [hk]; exact h.om))
  · rcases hj with hj | hj
    · exact .inl hj
    · exact .inr (hA' j hj)
/-- The last of a link made the first. -/
def fwP (p : Nm → List LetF) (n : Nm) : (Nm → List LetF) × Bool :=
  match (p n).getLast? with
  | none => (p, false)
  | some x => (setP p n (x :: (p n).dropLast), true)
abbrev FwT := Nat × Option Addr
def fwS2 (W : World) (x : LetM) (t b : FwT) (w : World) : Prop := Nw W w ∧ Own w 50 20 (some ⟨b.1, 0, none⟩) 1 1 (letL x) ∧ W.heap.size ≤ b.1
def fwS3 (W : World) (cs : List Value) (m : Nat) (t b : FwT) (w : World) : Prop := Nw W w ∧ Own w 50 20 b.2 (1 + m) b.1 cs ∧ ∀ k, inA b.2 k → W.heap.size ≤ k
def fwS4 (W : World) (cs : List Value) (m : Nat) (Ym Ys : Nat) (f : Nm → Option Value) (n : Nm) (t b : FwT) (w : World) : Prop :=
  ∃ wx, fwS3 W cs m t b wx ∧ WayMap w Ym (Ys + 1) (setW f n (some (.slice b.2 (1 + m) b.1))) ∧ Fr (· = Ym) wx w
theorem under_letsF : Tryz.prog.underlying 28 = some (.slice (Tryz.prog.elem 28)) := by kernel_rfl
theorem size_letsF (w : World) : (sizeOf (Tryz.prog.elem 28)).run Tryz.prog w = .ok 20 w := by kernel_rfl
theorem own_new (w : World) (E : TypeId) (z n : Nat) (cs : List Value) (hn : n ≤ maxLen) (hz : cs.length = n * z) : Own (w.alloc (.cells cs.toArray E)) E z (some ⟨w.heap.size, 0, none⟩) n n cs := by
  have h := Own.new w E z n n cs.toArray (Nat.le_refl _) hn (by rw [List.size_toArray]; exact hz)
  have e : cs.toArray.toList.take (n * z) = cs := by
    rw [← hz]
    exact List.take_length
  rwa [e] at h
set_option maxRecDepth 100000 in
set_option maxHeartbeats 4000000 in
theorem netForward_any (w : World) (O I : Nat → Prop) (Y : NetM) (h : IsNet w O I Y) (hYs : Y.s < 900000000) (a b : Int) (hn : NmWf (a, b)) :
    Calls Tryz.prog 26 #[.pointer (some ⟨Y.g, 0, none⟩), I64 a, I64 b] w fun e w' => e = .returned (.bool (fwP Y.p (a, b)).2) ∧ ∃ O' Y', IsNet w' O' I Y' ∧ Y'.g = Y.g ∧ Y'.m = Y.m ∧ Y'.p = (fwP Y.p (a, b)).1 ∧ Y'.s ≤ Y.s + 1 ∧ Fr O w w' ∧ ∀ k, O' k → O k ∨ w.heap.size ≤ k := by
  obtain ⟨A, c, l, hL⟩ := h.link_or (a, b)
  have hw : Calls Tryz.prog 62 #[.pointer (some ⟨Y.g, 0, none⟩), .agg #[I64 a, I64 b]] w fun e w' => e = .returned (.slice A l.length c) ∧ Nw w w' := (netWaits_any w Y.g Y.m Y.s _ h.blk h.map (a, b) hn).mono fun e w' h1 => ⟨by rw [h1.1, hL.val], h1.2⟩
  by_cases hl0 : l = []
  · subst hl0
    have e1 : fwP Y.p (a, b) = (Y.p, false) := by unfold fwP; rw [← hL.p]; rfl
    rw [e1]
    have hw2 : Calls Tryz.prog 62 #[.pointer (some ⟨Y.g, 0, none⟩), .agg #[I64 a, I64 b]] w fun e w' => e = .returned (.slice A 0 c) ∧ Nw w w' := hw
    clear hw
    go_enter Tryz.func26, Tryz.ntmps26
    go_wp2_with (go_at_call 62; refine hw2.mono ?_; rintro e w1 ⟨rfl, q1⟩)
    go_ret
    exact ⟨rfl, O, Y, h.nw q1, rfl, rfl, rfl, Nat.le_succ _, Nw.on q1, fun _ h => .inl h⟩
  · obtain ⟨x, hx⟩ : ∃ x, l.getLast? = some x := ⟨l.getLast hl0, List.getLast?_eq_some_getLast hl0⟩
    have hdl : l = l.dropLast ++ [x] := by
      obtain ⟨ys, rfl⟩ := List.getLast?_eq_some_iff.1 hx
      rw [List.dropLast_concat]
    have e1 : fwP Y.p (a, b) = (setP Y.p (a, b) ((x :: l.dropLast).map LetM.x), true) := by
      unfold fwP
      rw [← hL.p, List.getLast?_map, hx, List.map_cons, List.map_dropLast]
      rfl
    rw [e1]
    obtain ⟨i, hi⟩ : ∃ i, i = l.dropLast := ⟨_, rfl⟩
    rw [← hi] at hdl ⊢
    clear hi
    subst hdl
    obtain ⟨m, hm⟩ : ∃ m, m = i.length := ⟨_, rfl⟩
    have hlen : (i ++ [x]).length = m + 1 := by rw [List.length_append, List.length_singleton, hm]
    have hmost := hL.most
    have hsl := hL.own.sl
    have hcap := hL.own.cap_le
    rw [hlen] at hw hmost hcap
    have hlet := hsl.let_ (k := m) (by rw [hlen]; omega)
    have hxe : (i ++ [x])[m]'(by rw [hlen]; omega) = x := by simp [hm]
    rw [hxe] at hlet
    obtain ⟨g2, o2, rfl, _, _, hc0⟩ := hlet
    have hin : inA (some ⟨g2, o2, none⟩) g2 := (inA_some _ _).2 rfl
    have hmem : ∀ y ∈ x :: i, y ∈ i ++ [x] := fun y hy => by
      rcases List.mem_cons.1 hy with rfl | hy
      · simp
      · exact List.mem_append_left _ hy
    have hsi : Sl w (fun k => k = g2) (some ⟨g2, o2, none⟩) (letsC i) := by
      have h1 := hsl.pre (k := i.length * 20)
      rw [letsC_append, List.take_left' (letsC_len i)] at h1
      exact h1.mono fun k hk _ => (inA_some _ _).1 hk
    have HM := Lib.hid hm
    have hne : ¬ (m : Int) + 1 = 0 := by omega
    have hlt9 : (m : Int) < (m : Int) + 1 := by omega
    clear hxe hm hx hl0 e1
    have hg2 : g2 < w.heap.size := hL.own.lt _ hin
    have hslc := slice_h (P := Tryz.prog) 28 under_letsF 20 size_letsF (some ⟨g2, o2, none⟩) (m + 1) c m (by omega)
    go_enter Tryz.func26, Tryz.ntmps26
    go_upto_region 5 with (go_at_call 62; refine hw.mono ?_; rintro e w1 ⟨rfl, q1⟩)
    have hc : ∀ w9, Nw w1 w9 → ∀ j u, (letL x)[j]? = some u → w9.cell? ⟨g2, o2 + m * 20 + j, none⟩ = some u := fun w9 q9 j u hu => ((q1.tr q9).cell (p := ⟨g2, o2 + m * 20 + j, none⟩) hg2 (fun h => h)).trans (hc0 j u hu)
    have N1 := h.nw q1
    have y1 := N1.blk
    have m1 := N1.map
    have si1 := hsi.fr q1 (fun _ _ h => h)
    refine wp_region_appT (T := FwT) 10 11 15 16 (fun w9 => Nw w1 w9) (fun _ w9 => Nw w1 w9) (fwS2 w1 x) (fwS3 w1 (letsC (x :: i)) m) (fwS4 w1 (letsC (x :: i)) m Y.m Y.s (fun n => (Y.f n).map Ls.v) (a, b)) (fun _ => (0, none)) (by kernel_rfl) (by kernel_rfl) ((Fr.refl (fun _ => False) w1).drew) ?_
    apply wpEffT_cons
    focus
      intro B L w9 hL hD hC
      refine .inl ⟨by rfl, ?_⟩
      unfold effAt
      go_simp
      exact ⟨rfl, hC.keep (by kernel_rfl) hD (by rfl) (by rfl) (by rfl) (by rfl)⟩
    simp only [Act.put, List.setIfInBounds_toArray, List.set_cons_zero, List.set_cons_succ]
    apply wpEffT_cons
    focus
      intro B L w9 hL hD hC
      refine .inl ⟨by rfl, ?_⟩
      unfold effAt
      go_simp
      exact ⟨rfl, hC.keep (by kernel_rfl) hD (by rfl) (by rfl) (by rfl) (by rfl)⟩
    simp only [Act.put, List.setIfInBounds_toArray, List.set_cons_zero, List.set_cons_succ]
    apply wpEffT_cons
    focus
      intro B L w9 hL hD hC
      refine .inl ⟨by rfl, ?_⟩
      unfold effAt
      go_simp
      exact ⟨rfl, hC.keep (by kernel_rfl) hD (by rfl) (by rfl) (by rfl) (by rfl)⟩
    simp only [Act.put, List.setIfInBounds_toArray, List.set_cons_zero, List.set_cons_succ]
    apply wpEffT_cons
    focus
      intro B L w9 hL hD hC
      have f9 := hC.all (φ := Fr (· = Y.m) w1 w9) (fun h => Nw.on h) (fun a h => Nw.on h) (fun a b h => Nw.on h.1) (fun a b h => Nw.on h.1) (fun a b h => by obtain ⟨wx, h1, _, h2⟩ := h; exact (Nw.on h1.1).tr h2)
      have hb9 := y1.fr f9 N1.gm
      refine .inl ⟨by rfl, ?_⟩
      exact effAt_cells 56 _ rfl Y.g 0 rfl [.map (some Y.m)] _ (Blk.cells_at (l := [.map (some Y.m)]) hb9 0) Tryz.underlying56 rfl (by kernel_rfl) (hC.keep (by kernel_rfl) hD (by rfl) (by rfl) (by rfl) (by rfl))
    simp only [Act.put, List.setIfInBounds_toArray, List.set_cons_zero, List.set_cons_succ]
    apply wpEffT_cons
    focus
      intro B L w9 hL hD hC
      refine .inl ⟨by rfl, ?_⟩
      unfold effAt
      go_simp
      exact ⟨rfl, hC.keep (by kernel_rfl) hD (by rfl) (by rfl) (by rfl) (by rfl)⟩
    simp only [Act.put, List.setIfInBounds_toArray, List.set_cons_zero, List.set_cons_succ]
    apply wpEffT_cons
    focus
      intro B L w9 hL hD hC
      refine .inl ⟨by rfl, ?_⟩
      unfold effAt
      go_simp
      exact ⟨rfl, hC.keep (by kernel_rfl) hD (by rfl) (by rfl) (by rfl) (by rfl)⟩
    simp only [Act.put, List.setIfInBounds_toArray, List.set_cons_zero, List.set_cons_succ]
    apply wpEffT_cons
    focus
      intro B L w9 hL hD hC
      refine .inl ⟨by rfl, ?_⟩
      unfold effAt
      go_simp
      exact ⟨rfl, hC.keep (by kernel_rfl) hD (by rfl) (by rfl) (by rfl) (by rfl)⟩
    simp only [Act.put, List.setIfInBounds_toArray, List.set_cons_zero, List.set_cons_succ]
    apply wpEffT_cons
    focus
      intro B L w9 hL hD hC
      refine .inl ⟨by rfl, ?_⟩
      unfold effAt
      go_simp
      exact ⟨rfl, hC.keep (by kernel_rfl) hD (by rfl) (by rfl) (by rfl) (by rfl)⟩
    simp only [Act.put, List.setIfInBounds_toArray, List.set_cons_zero, List.set_cons_succ]
    apply wpEffT_cons
    focus
      intro B L w9 hL hD hC
      refine .inl ⟨by rfl, ?_⟩
      unfold effAt
      go_simp
      exact ⟨rfl, hC.keep (by kernel_rfl) hD (by rfl) (by rfl) (by rfl) (by rfl)⟩
    simp only [Act.put, List.setIfInBounds_toArray, List.set_cons_zero, List.set_cons_succ]
    apply wpEffT_cons
    focus
      intro B L w9 hL hD hC
      refine .inl ⟨by rfl, ?_⟩
      unfold effAt
      go_simp
      exact ⟨rfl, hC.keep (by kernel_rfl) hD (by rfl) (by rfl) (by rfl) (by rfl)⟩
    simp only [Act.put, List.setIfInBounds_toArray, List.set_cons_zero, List.set_cons_succ]
    refine wpEffT_free (fun b => .agg (letA x)) ?_ ?_
    focus
      intro B L w9 hL hD hC
      obtain ⟨h1, h2⟩ := hC.call hL (by kernel_rfl) (by kernel_rfl) (by kernel_rfl) (by kernel_rfl) hD (by rfl) (by rfl) (by rfl)
      refine .inl ⟨by rfl, ?_⟩
      exact effUponT_const (vf := fun b => .agg (letA x)) (b := (0, none)) rfl (fun w8 h8 => h2 w8 _ h8) (effAt_cells 50 _ rfl g2 (o2 + m * 20) rfl (letL x) _ (hc w9 h1) Tryz.underlying50 rfl (by kernel_rfl) h1)
    simp only [Act.put, List.setIfInBounds_toArray, List.set_cons_zero, List.set_cons_succ]
    refine wpEffT_free (fun b => .slice (some ⟨b.1, 0, none⟩) 1 1) ?_ ?_
    focus
      intro B L w9 hL hD hC
      obtain ⟨h1, h2⟩ := hC.build hL (hD 10 (by kernel_rfl)) (by kernel_rfl) (by kernel_rfl) (by kernel_rfl) hD (by rfl) (by rfl) (by rfl)
      refine .inl ⟨by rfl, ?_⟩
      unfold effAtT
      go_simp
      exact ⟨(w9.heap.size, none), rfl, h2 (w9.alloc (.cells (letA x) 50)) _ ⟨h1.alloc _, own_new w9 50 20 1 (letL x) (by unfold maxLen; omega) rfl, h1.size⟩⟩
    simp only [Act.put, List.setIfInBounds_toArray, List.set_cons_zero, List.set_cons_succ]
    apply wpEffT_cons
    focus
      intro B L w9 hL hD hC
      refine .inl ⟨by rfl, ?_⟩
      unfold effAt
      go_simp
      exact ⟨rfl, hC.keep (by kernel_rfl) hD (by rfl) (by rfl) (by rfl) (by rfl)⟩
    simp only [Act.put, List.setIfInBounds_toArray, List.set_cons_zero, List.set_cons_succ]
    apply wpEffT_cons
    focus
      intro B L w9 hL hD hC
      refine .inl ⟨by rfl, ?_⟩
      unfold effAt
      go_simp
      exact ⟨rfl, hC.keep (by kernel_rfl) hD (by rfl) (by rfl) (by rfl) (by rfl)⟩
    simp only [Act.put, List.setIfInBounds_toArray, List.set_cons_zero, List.set_cons_succ]
    apply wpEffT_cons
    focus
      intro B L w9 hL hD hC
      refine .inl ⟨by rfl, ?_⟩
      unfold effAt
      go_simp
      exact ⟨rfl, hC.keep (by kernel_rfl) hD (by rfl) (by rfl) (by rfl) (by rfl)⟩
    simp only [Act.put, List.setIfInBounds_toArray, List.set_cons_zero, List.set_cons_succ]
    refine wpEffT_free (fun b => .slice b.2 (1 + m) b.1) ?_ ?_
    focus
      intro B L w9 hL hD hC
      obtain ⟨h1, h2⟩ := hC.app hL (hD 11 (by kernel_rfl)) (by kernel_rfl) (by kernel_rfl) hD (by rfl) (by rfl)
      refine .inl ⟨by rfl, ?_⟩
      refine effAtT_append _ _ 28 rfl 256 (.agg #[U8V 0, I64 0, I64 0, I64 0, I64 0, I64 0, I64 0, I64 0, .bool false, .slice none 0 0, I64 0, I64 0, .slice none 0 0, .slice none 0 0, .slice none 0 0, .slice none 0 0, I64 0, I64 0, I64 0, .slice none 0 0]) Tryz.underlying28 info_let (by rfl) (by omega) rfl h1.2.1 rfl (si1.fr h1.1 (fun _ _ h => h)) (by rw [letsC_len, HM.out]) (letsC_cell _) (by omega) (by unfold maxLen; omega) (fun A' cap' w' hA => ⟨(cap', A'), rfl, h2 _ _ ?_⟩)
      have hAn : ∀ k, inA (some ⟨(B 11).1, 0, none⟩) k → w1.heap.size ≤ k := fun k hk => by rw [(inA_some _ _).1 hk]; exact h1.2.2
      exact ⟨h1.1.new hA.fr hAn, hA.1, fun k hk => (hA.inA_ k hk).elim (hAn k) (fun e => by have := h1.1.size; omega)⟩
    simp only [Act.put, List.setIfInBounds_toArray, List.set_cons_zero, List.set_cons_succ]
    apply wpEffT_cons
    focus
      intro B L w9 hL hD hC
      obtain ⟨h1, h2⟩ := hC.store hL (hD 15 (by kernel_rfl)) (by kernel_rfl) hD
      have hset := netSet_put w9 Y.m Y.s _ (m1.fr h1.1 (fun h => h)) (by unfold maxLen; omega) (a, b) hn (B 15).2 (1 + m) (B 15).1 (by omega)
      refine .inl ⟨by rfl, ?_⟩
      unfold effAt
      go_simp
      refine hset.mono ?_
      rintro e w8 ⟨rfl, hM8, f8⟩
      exact ⟨rfl, h2 _ ⟨w9, h1, hM8, f8⟩⟩
    simp only [Act.put, List.setIfInBounds_toArray, List.set_cons_zero, List.set_cons_succ]
    refine wpEffT_nil fun B wf hC => ?_
    have hfin := hC.fin (by rfl)
    obtain ⟨⟨c', A'⟩, hb⟩ : ∃ b, b = B 15 := ⟨_, rfl⟩
    rw [← hb] at hfin
    clear hC hb
    obtain ⟨wx, hs3, hMf, hff⟩ := hfin
    obtain ⟨q3, o3, b3⟩ := hs3
    dsimp only at o3 b3 hMf
    have e5 : 1 + m = (x :: i).length := by rw [List.length_cons, HM.out]; omega
    rw [e5] at o3 hMf
    obtain ⟨O', Y', N', eg', em', ep', es', f', hO'⟩ := (hL.nw q1).own_ (l' := x :: i) N1 q3 hmem (by simp) (by rw [← e5]; omega) o3 b3 hMf hff
    have HN' := Lib.hid N'
    have HE' := Lib.hid ep'
    clear N' ep' o3 b3 hMf e5
    go_wp2_with fail
    go_ret
    have h1 := q1.size
    exact ⟨rfl, O', Y', HN'.out, eg', em', HE'.out, by omega, (Nw.on q1).tr f', fun k hk => (hO' k hk).imp id (fun h => by omega)⟩
end Go.Proofs.YtippdjaakcgeoaaGreat

namespace Go.Proofs.YtippdjaakcgeoaaGreat
open Go Go.RowKit
set_option linter.unusedVariables false
set_option linter.unusedSimpArgs false

/-- What a net is behind a link dropped. -/
theorem IsNet.drop {w w' : World} {O I : Nat → Prop} {Y : NetM} (h : IsNet w O I Y) (n : Nm) (hM : WayMap w' Y.m Y.s (setW (fun x => (Y.f x).map Ls.v) n none)) (hf : Fr (· = Y.m) w w') :
    ∃ Y', IsNet w' O I Y' ∧ Y'.g = Y.g ∧ Y'.m = Y.m ∧ Y'.p = setP Y.p n [] ∧ Y'.s = Y.s := by
  have hfs := hf.size
  have hIs : ∀ k, I k → ¬ k = Y.m := fun k hk e => h.dis _ h.om (e ▸ hk)
  have N6 := h.set (n := n) (v := none) (O' := O) (I' := I) (s' := Y.s) (w' := w') hM hf h.gm (fun n' t _ ht k hk => (h.link n' t ht).off_map h.map k hk) hIs (fun _ h => h) (fun _ h => h) h.dis
    (fun k h8 => by have := h.ol _ h8; omega) (fun k h8 => by have := h.il _ h8; omega) (fun t ht => by cases ht)
  refine ⟨_, N6, rfl, rfl, ?_, rfl⟩
  funext m
  unfold setP
  by_cases e : m = n
  · subst e
    rw [NetM.p_none (by simp [setF]), if_pos rfl]
  · rw [if_neg e]
    unfold NetM.p
    simp [setF, e]
theorem setP_self {p : Nm → List LetF} {n : Nm} (h : p n = []) : setP p n [] = p := by
  funext m
  unfold setP
  split
  · rename_i e
    rw [e, h]
  · rfl
def takeR (w : World) (O I : Nat → Prop) (Y : NetM) (b : Int) (v i : Value) (wr : World) : Prop :=
  ∃ (k : Nat) (ys : List LetM) (A : Option Addr) (c : Nat) (Y2 : NetM), k ≤ 5 ∧ i = .int .i64 ((k : Int) + 1) ∧ v = .slice A ys.length c ∧ ys.length ≤ 40 * k ∧ ys.map LetM.x = (takeP Y.p b k).1 ∧ Own wr 50 20 A ys.length c (letsC ys) ∧ (∀ j, inA A j → w.heap.size ≤ j) ∧ (∀ y ∈ ys, LetIn wr I y ∧ LetSz y) ∧
    IsNet wr O I Y2 ∧ Y2.g = Y.g ∧ Y2.m = Y.m ∧ Y2.p = (takeP Y.p b k).2 ∧ Y2.s = Y.s ∧ Fr O w wr
set_option maxRecDepth 100000 in
set_option maxHeartbeats 4000000 in
theorem netTake_any (w : World) (O I : Nat → Prop) (Y : NetM) (h : IsNet w O I Y) (b : Int) (hb : -9223372036854775808 ≤ b ∧ b ≤ 9223372036854775807) :
    Calls Tryz.prog 23 #[.pointer (some ⟨Y.g, 0, none⟩), I64 b] w fun e w' => ∃ A c ys Y', e = .returned (.slice A ys.length c) ∧ ys.length ≤ 200 ∧ ys.map LetM.x = (takeP Y.p b 5).1 ∧ Own w' 50 20 A ys.length c (letsC ys) ∧ (∀ j, inA A j → w.heap.size ≤ j) ∧ (∀ y ∈ ys, LetIn w' I y ∧ LetSz y) ∧
      IsNet w' O I Y' ∧ Y'.g = Y.g ∧ Y'.m = Y.m ∧ Y'.p = (takeP Y.p b 5).2 ∧ Y'.s = Y.s ∧ Fr O w w' := by
  have hI := h.il
  have hO := h.ol
  have hd := h.dis
  go_enter Tryz.func23, Tryz.ntmps23
  go_wp2_with fail
  go_loopw [5, 6] (fun v i wr => takeR w O I Y b v i wr) (fun _ i _ => 6 - (intOf i).toNat)
  case atStart => exact ⟨0, [], none, 0, Y, Nat.zero_le _, rfl, rfl, Nat.zero_le _, rfl, Own.nil _ _ _, fun k hk => (inA_none k hk).elim, (by intro y hy; cases hy), h, rfl, rfl, rfl, rfl, Fr.refl _ _⟩
  case round =>
    obtain ⟨k, ys, A, c, Y2, hk, rfl, rfl, hl40, hys, ho, hA, hin, hN, eg, em, ep, es, hq⟩ := hrel
    have HYS := Lib.hid hys
    have HIN := Lib.hid hin
    have HP := Lib.hid ep
    have HEG := Lib.hid eg
    have HEM := Lib.hid em
    have HES := Lib.hid es
    rw [← eg]
    clear hys hin ep eg em es
    by_cases hlt : k < 5
    · have hi0 : (k : Int) + 1 ≤ 5 := by omega
      have hwf : NmWf ((k : Int) + 1, b) := by
        constructor
        · simp [Lit.wf, IntKind.min, IntKind.max, IntKind.signed, IntKind.bits]; omega
        · simp [Lit.wf, IntKind.min, IntKind.max, IntKind.signed, IntKind.bits]; omega
      obtain ⟨A1, c1, l1, hL⟩ := hN.link_or ((k : Int) + 1, b)
      have hw : Calls Tryz.prog 62 #[.pointer (some ⟨Y2.g, 0, none⟩), .agg #[I64 ((k : Int) + 1), I64 b]] wr fun e w' => e = .returned (.slice A1 l1.length c1) ∧ Nw wr w' := (netWaits_any wr Y2.g Y2.m Y2.s _ hN.blk hN.map ((k : Int) + 1, b) hwf).mono fun e w' h1 => ⟨by rw [h1.1, hL.val], h1.2⟩
      obtain ⟨n1, hn1⟩ : ∃ n1, n1 = l1.length := ⟨_, rfl⟩
      have hm1 := hL.most
      have hown1 := hL.own
      rw [← hn1] at hw hm1 hown1
      have HN1 := Lib.hid hn1
      have hT1 : (takeP Y.p b (k + 1)).1 = (takeP Y.p b k).1 ++ (takeP Y.p b k).2 (((k + 1 : Nat) : Int), b) := rfl
      have hT2 : (takeP Y.p b (k + 1)).2 = setP (takeP Y.p b k).2 (((k + 1 : Nat) : Int), b) [] := rfl
      have hkc : ((k + 1 : Nat) : Int) = (k : Int) + 1 := by omega
      rw [hkc] at hT1 hT2
      have HT1 := Lib.hid hT1
      have HT2 := Lib.hid hT2
      clear hT1 hT2 hn1 hkc
      by_cases h0 : n1 = 0
      · subst h0
        go_wp2_with (go_at_call 62; refine hw.mono ?_; rintro e w1 ⟨rfl, q1⟩)
        go_roundw
        case rel =>
          have hnil : Y2.p ((k : Int) + 1, b) = [] := by
            rw [← hL.p, List.eq_nil_of_length_eq_zero HN1.out.symm]
            rfl
          have hnil2 : (takeP Y.p b k).2 ((k : Int) + 1, b) = [] := by rw [← HP.out]; exact hnil
          exact ⟨k + 1, ys, A, c, Y2, by omega, by go_num, rfl, by omega, by rw [HT1.out, hnil2, List.append_nil]; exact HYS.out, ho.fr q1 (fun _ _ h => h), hA, fun y hy => ⟨(HIN.out y hy).1.nw q1, (HIN.out y hy).2⟩, hN.nw q1, HEG.out, HEM.out, by rw [HT2.out, setP_self hnil2]; exact HP.out, HES.out, hq.tr (Nw.on q1)⟩
        case measure => simp [intOf]; omega
      · have hi1 : (0 : Int) < (n1 : Int) := by omega
        have hb5 : ys.length ≤ 200 := by omega
        have hOA : ∀ j, O j → ¬ inA A j := fun j hj hh => by have := hO j hj; have := hA j hh; omega
        have hIA : ∀ j, I j → ¬ inA A j := fun j hj hh => by have := hI j hj; have := hA j hh; omega
        go_wp2_with (first | (go_at_call 62; refine hw.mono ?_; rintro e w1 ⟨rfl, q1⟩) | (at_builtin; refine wl_append2 rfl _ _ _ rfl 256 (.agg #[U8V 0, I64 0, I64 0, I64 0, I64 0, I64 0, I64 0, I64 0, .bool false, .slice none 0 0, I64 0, I64 0, .slice none 0 0, .slice none 0 0, .slice none 0 0, .slice none 0 0, I64 0, I64 0, I64 0, .slice none 0 0]) Tryz.underlying28 info_let rfl (by decide) rfl (ho.fr q1 (fun _ _ h => h)) rfl (hown1.fr q1 (fun _ _ h => h)).sl (by rw [letsC_len, HN1.out]) (letsC_cell _) (by omega) (by unfold maxLen; omega) ?_; intro B' c' w2 hap; have f2 := hap.fr; have N2 := (hN.nw q1).fr f2 hOA hIA; have y2 := N2.blk; have hcg := Blk.cells_at (l := [.map (some Y2.m)]) y2 0; have hdr := netSet_drop w2 Y2.m Y2.s _ N2.map ((k : Int) + 1, b) hwf none 0) | (refine wl_load_cells rfl 56 _ rfl Y2.g 0 rfl [.map (some Y2.m)] _ hcg Tryz.underlying56 rfl (by kernel_rfl) ?_) | (go_at_call 50; refine hdr.mono ?_; rintro e w3 ⟨rfl, hM3, f3⟩))
        go_roundw
        case rel =>
          obtain ⟨Y3, N3, eg3, em3, ep3, es3⟩ := N2.drop _ hM3 f3
          have hOm : ∀ j, inA B' j → ¬ j = Y2.m := fun j hj e => by
            have h5 := N2.om
            rcases hap.inA_ j hj with h6 | h6
            · exact hOA _ (e ▸ h5) h6
            · have := hN.ol _ h5; have := q1.size; omega
          have hIm : ∀ j, I j → ¬ j = Y2.m := fun j hj e => hd _ N2.om (e ▸ hj)
          refine ⟨k + 1, ys ++ l1, B', c', Y3, by omega, by go_num, ?_, ?_, ?_, ?_, ?_, ?_, N3, by rw [eg3]; exact HEG.out, by rw [em3]; exact HEM.out, ?_, by rw [es3]; exact HES.out, ?_⟩
          · rw [List.length_append, ← HN1.out]
          · rw [List.length_append, ← HN1.out]; omega
          · rw [List.map_append, HYS.out, hL.p, HT1.out, HP.out]
          · rw [List.length_append, ← HN1.out, letsC_append]
            exact hap.1.fr f3 hOm
          · intro j hj
            rcases hap.inA_ j hj with h6 | h6
            · exact hA j h6
            · have := hq.size; have := q1.size; omega
          · intro y hy
            rcases List.mem_append.1 hy with hy | hy
            · exact ⟨(((HIN.out y hy).1.nw q1).fr f2 hIA).fr f3 hIm, (HIN.out y hy).2⟩
            · exact ⟨(((hL.each y hy).nw q1).fr f2 hIA).fr f3 hIm, hL.sz y hy⟩
          · rw [HT2.out, ep3, HP.out]
          · exact ((hq.tr (Nw.on q1)).trans f2 (fun j hj => .inr (hA j hj))).tr (f3.mono fun j hj => .inl (by rw [hj]; exact N2.om))
        case measure => simp [intOf]; omega
    · obtain rfl : k = 5 := by omega
      go_wp2_with fail
      go_ret
      exact ⟨A, c, ys, Y2, rfl, by omega, HYS.out, ho, hA, HIN.out, hN, HEG.out, HEM.out, HP.out, HES.out, hq⟩
end Go.Proofs.YtippdjaakcgeoaaGreat

namespace Go.Proofs.YtippdjaakcgeoaaGreat
open Go Go.RowKit
set_option linter.unusedVariables false
set_option linter.unusedSimpArgs false

/-- A link behind its first. -/
def tailS (s : Ls LetM) : Option (Ls LetM) := if s.l.length = 1 then none else some ⟨cutA s.a s.c 1 20, s.c - 1, s.l.drop 1⟩
theorem tailS_x (s : Ls LetM) (h : 0 < s.l.length) : ((tailS s).map fun t => t.l.map LetM.x).getD [] = (s.l.map LetM.x).drop 1 := by
  unfold tailS
  split
  · rename_i e
    have : s.l.drop 1 = [] := List.drop_eq_nil_of_le (by omega)
    simp [← List.map_drop, this]
  · simp
theorem drop_letsC (l : List LetM) : (letsC l).drop 20 = letsC (l.drop 1) := by
  cases l with
  | nil => rfl
  | cons x l => simp [letsC, letF]
theorem tailS_in {w : World} {O I : Nat → Prop} {n : Nm} {s t : Ls LetM} (h : LinkIn w O I n s) (ht : tailS s = some t) : LinkIn w O I n t ∧ ∀ k, inA t.a k → inA s.a k := by
  have h1 := h.some_
  unfold tailS at ht
  split at ht
  · cases ht
  · rename_i hne
    injection ht with ht
    subst ht
    have ho := h.own.tail (by omega)
    rw [drop_letsC] at ho
    have hA : ∀ k, inA (cutA s.a s.c 1 20) k → inA s.a k := by
      intro k hk
      unfold cutA at hk
      split at hk
      · exact hk
      · cases hs : s.a with
        | none => rw [hs] at hk; exact hk
        | some a =>
          rw [hs] at hk
          obtain ⟨b, hb, rfl⟩ := hk
          simp only [Option.map_some, Option.some.injEq] at hb
          refine ⟨a, rfl, ?_⟩
          rw [← hb]
          unfold Addr.add
          split <;> rfl
    have hm : ∀ x ∈ s.l.drop 1, x ∈ s.l := fun x hx => List.mem_of_mem_drop hx
    refine ⟨⟨?_, fun k hk => h.base k (hA k hk), ?_, ?_, fun x hx => h.each x (hm x hx), fun x hx => h.sz x (hm x hx), fun x hx => h.ok x (hm x hx)⟩, hA⟩
    · show OwnO w 50 20 _ (s.l.drop 1).length _ _
      rw [List.length_drop]
      exact ho
    · show 0 < (s.l.drop 1).length
      rw [List.length_drop]; omega
    · show (s.l.drop 1).length ≤ 40
      rw [List.length_drop]; have := h.most; omega
/-- The link set to what is behind its first. -/
theorem netSet_tail (w : World) (m s : Nat) (f : Nm → Option Value) (hM : WayMap w m s f) (hs : s < maxLen) (a b : Int) (hn : NmWf (a, b)) (t : Ls LetM) (ht : 0 < t.l.length) :
    Calls Tryz.prog 50 #[.agg #[.map (some m)], .agg #[I64 a, I64 b], .slice (cutA t.a t.c 1 20) (t.l.length - 1) (t.c - 1)] w fun e w' => e = .returned (.tuple #[]) ∧ WayMap w' m (s + 1) (setW f (a, b) ((tailS t).map Ls.v)) ∧ Fr (· = m) w w' := by
  by_cases h1 : t.l.length = 1
  · have e : tailS t = none := by unfold tailS; rw [if_pos h1]
    rw [e, h1]
    exact (netSet_drop w m s f hM (a, b) hn _ _).mono fun e w' h => ⟨h.1, h.2.1.more (by omega), h.2.2⟩
  · have e : (tailS t).map Ls.v = some (.slice (cutA t.a t.c 1 20) (t.l.length - 1) (t.c - 1)) := by
      unfold tailS
      rw [if_neg h1]
      simp [Ls.v]
    rw [e]
    exact netSet_put w m s f hM hs (a, b) hn _ _ _ (by omega)
set_option maxRecDepth 100000 in
set_option maxHeartbeats 4000000 in
theorem netDeliver_none (w : World) (O I : Nat → Prop) (Y : NetM) (h : IsNet w O I Y) (a b : Int) (hn : NmWf (a, b)) (hf : Y.f (a, b) = none) :
    Calls Tryz.prog 21 #[.pointer (some ⟨Y.g, 0, none⟩), I64 a, I64 b] w fun e w' => e = .returned (.tuple #[.agg (letA letMZ), .bool false]) ∧ Nw w w' := by
  obtain ⟨D, hD⟩ : ∃ D, D = w.heap.size := ⟨_, rfl⟩
  obtain ⟨W0, hW0⟩ : ∃ W, W = w.alloc (.cells #[U8V 0, I64 0, I64 0, I64 0, I64 0, I64 0, I64 0, I64 0, .bool false, .slice none 0 0, I64 0, I64 0, .slice none 0 0, .slice none 0 0, .slice none 0 0, .slice none 0 0, I64 0, I64 0, I64 0, .slice none 0 0] 50) := ⟨_, rfl⟩
  have p0 : Nw w W0 := by rw [hW0]; exact (Fr.refl (fun _ => False) _).alloc _
  have y0 : Blk W0 D 50 #[U8V 0, I64 0, I64 0, I64 0, I64 0, I64 0, I64 0, I64 0, .bool false, .slice none 0 0, I64 0, I64 0, .slice none 0 0, .slice none 0 0, .slice none 0 0, .slice none 0 0, I64 0, I64 0, I64 0, .slice none 0 0] := by rw [hW0, hD]; exact Blk.new _ _ _
  have hN := h.nw p0
  have HD := Lib.hid hD
  have HW0 := Lib.hid hW0
  clear hD hW0
  have hw : Calls Tryz.prog 62 #[.pointer (some ⟨Y.g, 0, none⟩), .agg #[I64 a, I64 b]] W0 fun e w' => e = .returned (.slice none 0 0) ∧ Nw W0 w' := (netWaits_any W0 Y.g Y.m Y.s _ hN.blk hN.map (a, b) hn).mono fun e w' h => ⟨by rw [h.1, hf]; rfl, h.2⟩
  go_enter Tryz.func21, Tryz.ntmps21
  go_upto_region 1 with (fail)
  rw [← HD.out, ← HW0.out]
  go_upto_region 3 with (go_at_call 62; refine hw.mono ?_; rintro e w1 ⟨rfl, q1⟩)
  have y1 := y0.fr q1 (fun h => h)
  have th := Blk.there (l := [U8V 0, I64 0, I64 0, I64 0, I64 0, I64 0, I64 0, I64 0, .bool false, .slice none 0 0, I64 0, I64 0, .slice none 0 0, .slice none 0 0, .slice none 0 0, .slice none 0 0, I64 0, I64 0, I64 0, .slice none 0 0]) y1 0 20 (by show 0 + 20 ≤ 20; omega)
  have one := letA_one letMZ
  obtain ⟨W1, hW1⟩ : ∃ W, W = w1.setCells D 0 [U8V 0, I64 0, I64 0, I64 0, I64 0, I64 0, I64 0, I64 0, .bool false, .slice none 0 0, I64 0, I64 0, .slice none 0 0, .slice none 0 0, .slice none 0 0, .slice none 0 0, I64 0, I64 0, I64 0, .slice none 0 0] := ⟨_, rfl⟩
  have y2 : Blk W1 D 50 #[U8V 0, I64 0, I64 0, I64 0, I64 0, I64 0, I64 0, I64 0, .bool false, .slice none 0 0, I64 0, I64 0, .slice none 0 0, .slice none 0 0, .slice none 0 0, .slice none 0 0, I64 0, I64 0, I64 0, .slice none 0 0] := by rw [hW1]; exact Blk.setCells (l := [U8V 0, I64 0, I64 0, I64 0, I64 0, I64 0, I64 0, I64 0, .bool false, .slice none 0 0, I64 0, I64 0, .slice none 0 0, .slice none 0 0, .slice none 0 0, .slice none 0 0, I64 0, I64 0, I64 0, .slice none 0 0]) y1 0 [U8V 0, I64 0, I64 0, I64 0, I64 0, I64 0, I64 0, I64 0, .bool false, .slice none 0 0, I64 0, I64 0, .slice none 0 0, .slice none 0 0, .slice none 0 0, .slice none 0 0, I64 0, I64 0, I64 0, .slice none 0 0]
  have m1 : Fr (· = D) w1 W1 := by rw [hW1]; exact (Fr.refl (· = D) _).setCells _ _
  have Q1 : Nw w W1 := (p0.tr q1).new m1 (fun b hb => by have := HD.out; omega)
  have HW1 := Lib.hid hW1
  clear hW1 m1
  go_wp2_with (refine wpList_store_mid rfl 50 _ _ rfl D 0 #[U8V 0, I64 0, I64 0, I64 0, I64 0, I64 0, I64 0, I64 0, .bool false, .slice none 0 0, I64 0, I64 0, .slice none 0 0, .slice none 0 0, .slice none 0 0, .slice none 0 0, I64 0, I64 0, I64 0, .slice none 0 0] rfl rfl th (by kernel_rfl) one ?_; rw [← HW1.out])
  refine bodyPost_ret (v := .tuple #[.agg #[U8V 0, I64 0, I64 0, I64 0, I64 0, I64 0, I64 0, I64 0, .bool false, .slice none 0 0, I64 0, I64 0, .slice none 0 0, .slice none 0 0, .slice none 0 0, .slice none 0 0, I64 0, I64 0, I64 0, .slice none 0 0], .bool false]) ?_ rfl ?_
  · exact results_cell_tmp_row rfl _ _ D 50 _ (0, 0) _ _ rfl rfl y2 Tryz.underlying50 rfl (by kernel_rfl)
  exact ⟨rfl, Q1⟩
set_option maxRecDepth 100000 in
set_option maxHeartbeats 8000000 in
theorem netDeliver_some (w : World) (O I : Nat → Prop) (Y : NetM) (h : IsNet w O I Y) (a b : Int) (hn : NmWf (a, b)) (hs : Y.s < 1000000000) (s : Ls LetM) (hf : Y.f (a, b) = some s) :
    Calls Tryz.prog 21 #[.pointer (some ⟨Y.g, 0, none⟩), I64 a, I64 b] w fun e w' => ∃ x l, s.l = x :: l ∧ e = .returned (.tuple #[.agg (letA x), .bool true]) ∧ LetIn w' I x ∧ IsNet w' O I { Y with s := Y.s + 1, f := setF Y.f (a, b) (tailS s) } ∧ Fr O w w' := by
  obtain ⟨D, hD⟩ : ∃ D, D = w.heap.size := ⟨_, rfl⟩
  obtain ⟨W0, hW0⟩ : ∃ W, W = w.alloc (.cells #[U8V 0, I64 0, I64 0, I64 0, I64 0, I64 0, I64 0, I64 0, .bool false, .slice none 0 0, I64 0, I64 0, .slice none 0 0, .slice none 0 0, .slice none 0 0, .slice none 0 0, I64 0, I64 0, I64 0, .slice none 0 0] 50) := ⟨_, rfl⟩
  have p0 : Nw w W0 := by rw [hW0]; exact (Fr.refl (fun _ => False) _).alloc _
  have y0 : Blk W0 D 50 #[U8V 0, I64 0, I64 0, I64 0, I64 0, I64 0, I64 0, I64 0, .bool false, .slice none 0 0, I64 0, I64 0, .slice none 0 0, .slice none 0 0, .slice none 0 0, .slice none 0 0, I64 0, I64 0, I64 0, .slice none 0 0] := by rw [hW0, hD]; exact Blk.new _ _ _
  have hN := h.nw p0
  have HD := Lib.hid hD
  have HW0 := Lib.hid hW0
  clear hD hW0
  have hk := hN.link _ _ hf
  have h0 := hk.some_
  have hc0 := hk.own.cap_le
  obtain ⟨x, l, hxl⟩ : ∃ x l, s.l = x :: l := by
    cases hl : s.l with
    | nil => rw [hl] at h0; simp at h0
    | cons x l => exact ⟨x, l, rfl⟩
  have HXL := Lib.hid hxl
  clear hxl
  have hw : Calls Tryz.prog 62 #[.pointer (some ⟨Y.g, 0, none⟩), .agg #[I64 a, I64 b]] W0 fun e w' => e = .returned (.slice s.a s.l.length s.c) ∧ Nw W0 w' := (netWaits_any W0 Y.g Y.m Y.s _ hN.blk hN.map (a, b) hn).mono fun e w' h => ⟨by rw [h.1, hf]; rfl, h.2⟩
  have s1 : ∀ w, (Instr.slice 28 (.slice s.a s.l.length s.c) (some (.int .i64 1)) none none).run Tryz.prog w = .ok (.slice (cutA s.a s.c 1 20) (s.l.length - 1) (s.c - 1)) w := slice_l (P := Tryz.prog) 28 (by kernel_rfl) 20 (fun w => by kernel_rfl) s.a s.l.length s.c 1 (by omega)
  have hne0 : decide ((s.l.length : Int) = 0) = false := decide_eq_false (by omega)
  go_enter Tryz.func21, Tryz.ntmps21
  go_upto_region 1 with (fail)
  rw [← HD.out, ← HW0.out]
  go_upto_region 4 with (go_at_call 62; refine hw.mono ?_; rintro e w1 ⟨rfl, q1⟩)
  have N1 := hN.nw q1
  have y1 := y0.fr q1 (fun h => h)
  have g0 : w1.drew.cell? ⟨Y.g, 0, none⟩ = some (.map (some Y.m)) := by simpa using (N1.blk.drew).cell 0
  have hset := netSet_tail w1.drew Y.m Y.s _ (N1.map.fr ((Fr.refl (fun _ => False) w1).drew) (fun h => h)) (by unfold maxLen; omega) a b hn s h0
  refine wp_region_tail 9 (by kernel_rfl) (by kernel_rfl) ?_
  simp only [List.take_succ_cons, List.take_zero, List.drop_succ_cons, List.drop_zero]
  repeat still_step
  refine wpStill_nil ?_
  go_upto_region 5 with (go_at_call 50; refine hset.mono ?_; rintro e w2 ⟨rfl, hM2, f2⟩)
  have N1d := N1.nw ((Fr.refl (fun _ => False) w1).drew)
  have K1 := N1d.link _ _ hf
  have hIm : ∀ k, I k → ¬ k = Y.m := fun k hk e => N1d.dis _ N1d.om (e ▸ hk)
  have N2 := N1d.set (v := tailS s) (O' := O) (I' := I) hM2 f2 N1d.gm (fun n' t _ ht k hk => (N1d.link n' t ht).off_map N1d.map k hk) hIm (fun _ h => h) (fun _ h => h) N1d.dis (fun k hk => Nat.lt_of_lt_of_le (N1d.ol k hk) f2.size) (fun k hk => Nat.lt_of_lt_of_le (N1d.il k hk) f2.size) (fun t ht => by
    obtain ⟨h5, h6⟩ := tailS_in (K1.fr f2 (K1.off_map N1d.map) hIm) ht
    exact ⟨h5, fun n' t' hne ht' k h7 h8 => N1d.far (a, b) n' s t' hf ht' (fun e => hne e.symm) k (h6 k h7) h8⟩)
  have K2 := K1.fr f2 (K1.off_map N1d.map) hIm
  have hx : s.l[0] = x := by have := HXL.out; simp [this]
  obtain ⟨g2, o2, hA, _, hg2, hc⟩ := K2.own.sl.let_ h0
  rw [hx] at hc
  have y2 := (y1.drew).fr f2 (fun e : D = Y.m => by have := HD.out; have := h.ol _ h.om; omega)
  have th := Blk.there (l := [U8V 0, I64 0, I64 0, I64 0, I64 0, I64 0, I64 0, I64 0, .bool false, .slice none 0 0, I64 0, I64 0, .slice none 0 0, .slice none 0 0, .slice none 0 0, .slice none 0 0, I64 0, I64 0, I64 0, .slice none 0 0]) y2 0 20 (by show 0 + 20 ≤ 20; omega)
  have one := letA_one x
  obtain ⟨W1, hW1⟩ : ∃ W, W = w2.setCells D 0 [U8V x.kind, I64 x.group, I64 x.src, I64 x.dst, I64 x.term, I64 x.index, I64 x.logt, I64 x.commit, .bool x.ok, .slice x.ents.a x.ents.l.length x.ents.c, I64 x.base.index, I64 x.base.term, .slice x.base.cfg.v.a x.base.cfg.v.l.length x.base.cfg.v.c, .slice x.base.cfg.o.a x.base.cfg.o.l.length x.base.cfg.o.c, .slice x.base.cfg.l.a x.base.cfg.l.l.length x.base.cfg.l.c, .slice x.base.cfg.w.a x.base.cfg.w.l.length x.base.cfg.w.c, I64 x.size, I64 x.at_, I64 x.tag, .slice x.bytes.a x.bytes.l.length x.bytes.c] := ⟨_, rfl⟩
  have y3 : Blk W1 D 50 #[U8V x.kind, I64 x.group, I64 x.src, I64 x.dst, I64 x.term, I64 x.index, I64 x.logt, I64 x.commit, .bool x.ok, .slice x.ents.a x.ents.l.length x.ents.c, I64 x.base.index, I64 x.base.term, .slice x.base.cfg.v.a x.base.cfg.v.l.length x.base.cfg.v.c, .slice x.base.cfg.o.a x.base.cfg.o.l.length x.base.cfg.o.c, .slice x.base.cfg.l.a x.base.cfg.l.l.length x.base.cfg.l.c, .slice x.base.cfg.w.a x.base.cfg.w.l.length x.base.cfg.w.c, I64 x.size, I64 x.at_, I64 x.tag, .slice x.bytes.a x.bytes.l.length x.bytes.c] := by rw [hW1]; exact Blk.setCells (l := [U8V 0, I64 0, I64 0, I64 0, I64 0, I64 0, I64 0, I64 0, .bool false, .slice none 0 0, I64 0, I64 0, .slice none 0 0, .slice none 0 0, .slice none 0 0, .slice none 0 0, I64 0, I64 0, I64 0, .slice none 0 0]) y2 0 [U8V x.kind, I64 x.group, I64 x.src, I64 x.dst, I64 x.term, I64 x.index, I64 x.logt, I64 x.commit, .bool x.ok, .slice x.ents.a x.ents.l.length x.ents.c, I64 x.base.index, I64 x.base.term, .slice x.base.cfg.v.a x.base.cfg.v.l.length x.base.cfg.v.c, .slice x.base.cfg.o.a x.base.cfg.o.l.length x.base.cfg.o.c, .slice x.base.cfg.l.a x.base.cfg.l.l.length x.base.cfg.l.c, .slice x.base.cfg.w.a x.base.cfg.w.l.length x.base.cfg.w.c, I64 x.size, I64 x.at_, I64 x.tag, .slice x.bytes.a x.bytes.l.length x.bytes.c]
  have m1 : Fr (· = D) w2 W1 := by rw [hW1]; exact (Fr.refl (· = D) _).setCells _ _
  have hxi : LetIn w2 I x := K2.each x (by have := HXL.out; simp [this])
  have HW1 := Lib.hid hW1
  have hDO : ∀ k, O k → ¬ k = D := fun k hk e => by have := HD.out; have := h.ol _ hk; omega
  have hDI : ∀ k, I k → ¬ k = D := fun k hk e => by have := HD.out; have := h.il _ hk; omega
  have Q1 : Fr O w W1 := ((Nw.on (S := O) (p0.tr q1)).drew.trans f2 (fun b (hb : b = Y.m) => .inl (hb ▸ h.om))).trans m1 (fun b (hb : b = D) => .inr (by have := HD.out; omega))
  have N3 := N2.fr m1 hDO hDI
  have X3 := hxi.fr m1 hDI
  clear hW1 m1
  go_wp2_with (first | (refine wl_load_cells rfl 50 _ rfl g2 (o2 + 0 * 20) rfl _ _ hc Tryz.underlying50 rfl (by kernel_rfl) ?_) | (refine wpList_store_mid rfl 50 _ _ rfl D 0 #[U8V x.kind, I64 x.group, I64 x.src, I64 x.dst, I64 x.term, I64 x.index, I64 x.logt, I64 x.commit, .bool x.ok, .slice x.ents.a x.ents.l.length x.ents.c, I64 x.base.index, I64 x.base.term, .slice x.base.cfg.v.a x.base.cfg.v.l.length x.base.cfg.v.c, .slice x.base.cfg.o.a x.base.cfg.o.l.length x.base.cfg.o.c, .slice x.base.cfg.l.a x.base.cfg.l.l.length x.base.cfg.l.c, .slice x.base.cfg.w.a x.base.cfg.w.l.length x.base.cfg.w.c, I64 x.size, I64 x.at_, I64 x.tag, .slice x.bytes.a x.bytes.l.length x.bytes.c] rfl rfl th (by kernel_rfl) one ?_; rw [← HW1.out]))
  refine bodyPost_ret (v := .tuple #[.agg #[U8V x.kind, I64 x.group, I64 x.src, I64 x.dst, I64 x.term, I64 x.index, I64 x.logt, I64 x.commit, .bool x.ok, .slice x.ents.a x.ents.l.length x.ents.c, I64 x.base.index, I64 x.base.term, .slice x.base.cfg.v.a x.base.cfg.v.l.length x.base.cfg.v.c, .slice x.base.cfg.o.a x.base.cfg.o.l.length x.base.cfg.o.c, .slice x.base.cfg.l.a x.base.cfg.l.l.length x.base.cfg.l.c, .slice x.base.cfg.w.a x.base.cfg.w.l.length x.base.cfg.w.c, I64 x.size, I64 x.at_, I64 x.tag, .slice x.bytes.a x.bytes.l.length x.bytes.c], .bool true]) ?_ rfl ?_
  · exact results_cell_tmp_row rfl _ _ D 50 _ (0, 0) _ _ rfl rfl y3 Tryz.underlying50 rfl (by kernel_rfl)
  exact ⟨x, l, HXL.out, rfl, X3, N3, Q1⟩
end Go.Proofs.YtippdjaakcgeoaaGreat

namespace Go.Proofs.YtippdjaakcgeoaaGreat
open Go Go.RowKit
set_option linter.unusedVariables false
set_option linter.unusedSimpArgs false
set_option maxRecDepth 100000 in
set_option maxHeartbeats 4000000 in
theorem netLose_of (w : World) (g : Nat) (a b : Int) (d : Bool) (Pst : World → Prop) (hP : ∀ w1 w2, Pst w1 → Nw w1 w2 → Pst w2)
    (hd : Calls Tryz.prog 21 #[.pointer (some ⟨g, 0, none⟩), I64 a, I64 b] w fun e w' => ∃ x, e = .returned (.tuple #[.agg (letA x), .bool d]) ∧ Pst w') :
    Calls Tryz.prog 24 #[.pointer (some ⟨g, 0, none⟩), I64 a, I64 b] w fun e w' => e = .returned (.bool d) ∧ Pst w' := by
  have HP := Lib.hid hP
  clear hP
  go_enter Tryz.func24, Tryz.ntmps24
  go_wp2_with (first | (go_at_call 21; refine hd.mono ?_; rintro e w1 ⟨x, rfl, p1⟩; obtain ⟨D, hD⟩ : ∃ D, D = w1.heap.size := ⟨_, rfl⟩; obtain ⟨V0, hV0⟩ : ∃ V, V = w1.alloc (.cells #[U8V 0, I64 0, I64 0, I64 0, I64 0, I64 0, I64 0, I64 0, .bool false, .slice none 0 0, I64 0, I64 0, .slice none 0 0, .slice none 0 0, .slice none 0 0, .slice none 0 0, I64 0, I64 0, I64 0, .slice none 0 0] 50) := ⟨_, rfl⟩; have q0 : Nw w1 V0 := (by rw [hV0]; exact (Fr.refl (fun _ => False) _).alloc _); have y0 : Blk V0 D 50 #[U8V 0, I64 0, I64 0, I64 0, I64 0, I64 0, I64 0, I64 0, .bool false, .slice none 0 0, I64 0, I64 0, .slice none 0 0, .slice none 0 0, .slice none 0 0, .slice none 0 0, I64 0, I64 0, I64 0, .slice none 0 0] := (by rw [hV0, hD]; exact Blk.new _ _ _); have th := Blk.there (l := [U8V 0, I64 0, I64 0, I64 0, I64 0, I64 0, I64 0, I64 0, .bool false, .slice none 0 0, I64 0, I64 0, .slice none 0 0, .slice none 0 0, .slice none 0 0, .slice none 0 0, I64 0, I64 0, I64 0, .slice none 0 0]) y0 0 20 (by show 0 + 20 ≤ 20; omega); have one := letA_one x; obtain ⟨V1, hV1⟩ : ∃ V, V = V0.setCells D 0 [U8V x.kind, I64 x.group, I64 x.src, I64 x.dst, I64 x.term, I64 x.index, I64 x.logt, I64 x.commit, .bool x.ok, .slice x.ents.a x.ents.l.length x.ents.c, I64 x.base.index, I64 x.base.term, .slice x.base.cfg.v.a x.base.cfg.v.l.length x.base.cfg.v.c, .slice x.base.cfg.o.a x.base.cfg.o.l.length x.base.cfg.o.c, .slice x.base.cfg.l.a x.base.cfg.l.l.length x.base.cfg.l.c, .slice x.base.cfg.w.a x.base.cfg.w.l.length x.base.cfg.w.c, I64 x.size, I64 x.at_, I64 x.tag, .slice x.bytes.a x.bytes.l.length x.bytes.c] := ⟨_, rfl⟩; have m1 : Fr (· = D) V0 V1 := (by rw [hV1]; exact (Fr.refl (· = D) _).setCells _ _); have q1 : Nw w1 V1 := q0.new m1 (fun b hb => by omega); have HD := Lib.hid hD; have HV0 := Lib.hid hV0; have HV1 := Lib.hid hV1; clear hD hV0 hV1 m1 q0 y0) | (rw [← HV0.out, ← HD.out]; refine wpList_store_mid rfl 50 _ _ rfl D 0 #[U8V x.kind, I64 x.group, I64 x.src, I64 x.dst, I64 x.term, I64 x.index, I64 x.logt, I64 x.commit, .bool x.ok, .slice x.ents.a x.ents.l.length x.ents.c, I64 x.base.index, I64 x.base.term, .slice x.base.cfg.v.a x.base.cfg.v.l.length x.base.cfg.v.c, .slice x.base.cfg.o.a x.base.cfg.o.l.length x.base.cfg.o.c, .slice x.base.cfg.l.a x.base.cfg.l.l.length x.base.cfg.l.c, .slice x.base.cfg.w.a x.base.cfg.w.l.length x.base.cfg.w.c, I64 x.size, I64 x.at_, I64 x.tag, .slice x.bytes.a x.bytes.l.length x.bytes.c] rfl rfl th (by kernel_rfl) one ?_; rw [← HV1.out]))
  go_ret
  exact ⟨rfl, HP.out _ _ p1 q1⟩
end Go.Proofs.YtippdjaakcgeoaaGreat

namespace Go.Proofs.YtippdjaakcgeoaaGreat
open Go Go.RowKit
set_option linter.unusedVariables false

/-- All that waits was sent, is on its link, is right; a link has at most 40. -/
structure NetOk (p : Nm → List LetF) (all : List LetF) : Prop where
  sent : ∀ n, ∀ x ∈ p n, x ∈ all
  on : ∀ n, ∀ x ∈ p n, (x.src, x.dst) = n
  ok : ∀ n, ∀ x ∈ p n, letOk x = true
  most : ∀ n, (p n).length ≤ 40
section
variable {p : Nm → List LetF} {all : List LetF}
theorem NetOk.start (all : List LetF) : NetOk (fun _ => []) all := ⟨fun _ _ h => (by cases h), fun _ _ h => (by cases h), fun _ _ h => (by cases h), fun _ => Nat.zero_le _⟩
theorem NetOk.more {all' : List LetF} (h : NetOk p all) (ha : ∀ x ∈ all, x ∈ all') : NetOk p all' := ⟨fun n x hx => ha x (h.sent n x hx), h.on, h.ok, h.most⟩
theorem NetOk.set (h : NetOk p all) (n : Nm) (l : List LetF) (hl : ∀ x ∈ l, x ∈ p n) (hn : l.length ≤ (p n).length) : NetOk (setP p n l) all := by
  have key : ∀ m, ∀ x ∈ setP p n l m, x ∈ p m := by
    intro m x hx
    unfold setP at hx
    split at hx
    · rename_i e
      subst e
      exact hl x hx
    · exact hx
  refine ⟨fun m x hx => h.sent m x (key m x hx), fun m x hx => h.on m x (key m x hx), fun m x hx => h.ok m x (key m x hx), fun m => ?_⟩
  unfold setP
  split
  · rename_i e
    subst e
    exact Nat.le_trans hn (h.most m)
  · exact h.most m
theorem NetOk.step (h : NetOk p all) (k : Nat) (x : LetF) (hx : x ∈ all) : NetOk (sendStep (p, k) x).1 all := by
  unfold sendStep
  split
  · rename_i hc
    simp only [] at hc ⊢
    refine ⟨fun n y hy => ?_, fun n y hy => ?_, fun n y hy => ?_, fun n => ?_⟩
    · split at hy
      · rcases List.mem_append.1 hy with hy | hy
        · exact h.sent n y hy
        · rw [List.mem_singleton.1 hy]; exact hx
      · exact h.sent n y hy
    · split at hy
      · rename_i e
        rcases List.mem_append.1 hy with hy | hy
        · exact h.on n y hy
        · rw [List.mem_singleton.1 hy]; exact e.symm
      · exact h.on n y hy
    · split at hy
      · rcases List.mem_append.1 hy with hy | hy
        · exact h.ok n y hy
        · rw [List.mem_singleton.1 hy]; exact hc.1
      · exact h.ok n y hy
    · split
      · rename_i e
        subst e
        rw [List.length_append, List.length_singleton]
        omega
      · exact h.most n
  · exact h
theorem NetOk.take (h : NetOk p all) (dst : Int) (k : Nat) : NetOk (takeP p dst k).2 all ∧ ∀ x ∈ (takeP p dst k).1, x ∈ all ∧ x.dst = dst := by
  induction k with
  | zero => exact ⟨h, fun x hx => (by cases hx)⟩
  | succ k ih =>
    obtain ⟨h1, h2⟩ := ih
    refine ⟨h1.set _ [] (by intro x hx; cases hx) (Nat.zero_le _), fun x hx => ?_⟩
    unfold takeP at hx
    rcases List.mem_append.1 hx with hx | hx
    · exact h2 x hx
    · refine ⟨h1.sent _ x hx, ?_⟩
      have := h1.on _ x hx
      injection this
end
/-- The calm net: what was put on its one link is what was told, and what waits. -/
structure CalmOk (q : Nm → List LetF) (put told : List LetF) : Prop where
  eq : put = told ++ q (1, 2)
  one : ∀ n, n ≠ (1, 2) → q n = []
section
variable {q : Nm → List LetF} {put told : List LetF}
theorem CalmOk.start : CalmOk (fun _ => []) [] [] := ⟨rfl, fun _ _ => rfl⟩
theorem CalmOk.sent (h : CalmOk q put told) (x : LetF) (hx : (x.src, x.dst) = (1, 2)) : CalmOk (sendP q [x]).1 (if (sendP q [x]).2 = 1 then put ++ [x] else put) told := by
  unfold sendP
  rw [List.foldl_cons, List.foldl_nil]
  unfold sendStep
  simp only []
  rw [hx]
  split
  · rw [if_pos rfl]
    refine ⟨?_, fun n hn => ?_⟩
    · rw [h.eq]
      simp
    · simp only []
      rw [if_neg hn]
      exact h.one n hn
  · rw [if_neg (by simp)]
    exact h
theorem CalmOk.last (h : CalmOk q put told) : (takeP q 2 5).1 = q (1, 2) ∧ ∀ n, (takeP q 2 5).2 n = [] := by
  have h2 : q (2, 2) = [] := h.one _ (by decide)
  have h3 : q (3, 2) = [] := h.one _ (by decide)
  have h4 : q (4, 2) = [] := h.one _ (by decide)
  have h5 : q (5, 2) = [] := h.one _ (by decide)
  constructor
  · simp only [takeP, setP]
    simp [h2, h3, h4, h5]
  · intro n
    simp only [takeP, setP]
    by_cases e : n = (1, 2)
    · subst e
      simp
    · have := h.one n e
      simp [this]
end
end Go.Proofs.YtippdjaakcgeoaaGreat
