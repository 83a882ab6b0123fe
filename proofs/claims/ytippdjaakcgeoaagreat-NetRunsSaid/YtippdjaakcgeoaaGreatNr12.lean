/- Lemmas of the walks: NcA, Bld, DnB, DnC. (Laid together by shake.py.) -/
import Derived.Test.YtippdjaakcgeoaaGreatNr01
import Derived.Test.YtippdjaakcgeoaaGreatNr04
import Derived.Test.YtippdjaakcgeoaaGreatNr08
import Derived.Test.YtippdjaakcgeoaaGreatNr10
import Derived.Test.YtippdjaakcgeoaaGreatNr11
set_option linter.unusedVariables false
set_option linter.unusedSimpArgs false
namespace Go.Proofs.YtippdjaakcgeoaaGreat
open Go Go.RowKit
set_option linter.unusedVariables false
set_option linter.unusedSimpArgs false

/-- The blocks of a colour. -/
def CB (w : World) (col : Nat → Nat) (c : Nat) (k : Nat) : Prop := col k = c ∧ k < w.heap.size
/-- Only blocks of colour d were turned, and new ones made. -/
structure Ext (w w' : World) (col col' : Nat → Nat) (d : Nat) : Prop where
  fr : Fr (CB w col d) w w'
  ext : ∀ k, k < w.heap.size → col' k = col k
  cln : (∀ k, w.heap.size ≤ k → col k = 0) → ∀ k, w'.heap.size ≤ k → col' k = 0
/-- A net whose own blocks have colour c. -/
def NetC (w : World) (col : Nat → Nat) (c g N : Nat) (p : Nm → List LetF) : Prop := ∃ Y, IsNet w (CB w col c) (CB w col 0) Y ∧ Y.g = g ∧ Y.p = p ∧ Y.s ≤ N
/-- A row of letters whose block has colour c. -/
structure LstC (w : World) (col : Nat → Nat) (c : Nat) (A : Option Addr) (cap : Nat) (l : List LetM) : Prop where
  own : Own w 50 20 A l.length cap (letsC l)
  base : ∀ k, inA A k → col k = c
  each : ∀ x ∈ l, LetIn w (CB w col 0) x
  sz : ∀ x ∈ l, LetSz x
section
variable {w w' w'' : World} {col col' col'' : Nat → Nat} {c d g N M : Nat} {p : Nm → List LetF} {A : Option Addr} {cap : Nat} {l : List LetM} {O O' I I' : Nat → Prop} {Y Y' : NetM}
theorem Ext.nw (h : Nw w w') (col : Nat → Nat) (d : Nat) : Ext w w' col col d := ⟨Nw.on h, fun _ _ => rfl, fun h0 k hk => h0 k (Nat.le_trans h.size hk)⟩
theorem Ext.tr (h : Ext w w' col col' d) (k : Ext w' w'' col' col'' d) : Ext w w'' col col'' d :=
  ⟨h.fr.trans k.fr fun b hb => (Nat.lt_or_ge b w.heap.size).elim (fun h1 => .inl ⟨(h.ext b h1).symm.trans hb.1, h1⟩) .inr, fun j hj => (k.ext j (Nat.lt_of_lt_of_le hj h.fr.size)).trans (h.ext j hj), fun h0 => k.cln (h.cln h0)⟩
theorem Ext.size (h : Ext w w' col col' d) : w.heap.size ≤ w'.heap.size := h.fr.size
/-- Seen from a world in which no block had the colour. -/
theorem Ext.nw_of (h : Ext w w' col col' d) {w0 : World} (q : Nw w0 w) (h0 : ∀ k, k < w0.heap.size → col k ≠ d) : Nw w0 w' :=
  q.new h.fr fun b hb => (Nat.lt_or_ge b w0.heap.size).elim (fun h1 => (h0 b h1 hb.1).elim) id
theorem CB.ext (h : Ext w w' col col' d) {k : Nat} (hk : CB w col c k) : CB w' col' c k := ⟨(h.ext k hk.2).trans hk.1, Nat.lt_of_lt_of_le hk.2 h.size⟩
theorem CB.off (hcd : c ≠ d) {k : Nat} (hk : CB w col c k) : ¬ CB w col d k := fun h => hcd (hk.1.symm.trans h.1)
theorem let_ext {x : LetM} (hx : LetIn w (CB w col 0) x) (h : Ext w w' col col' d) (hd : d ≠ 0) : LetIn w' (CB w' col' 0) x :=
  (hx.fr h.fr (fun k hk => hk.off (fun e => hd e.symm))).mono fun k hk _ => hk.ext h
theorem LstC.ext (h : LstC w col c A cap l) (e : Ext w w' col col' d) (hcd : c ≠ d) (hd : d ≠ 0) : LstC w' col' c A cap l :=
  ⟨h.own.fr e.fr (fun k hk => CB.off hcd ⟨h.base k hk, h.own.lt k hk⟩), fun k hk => (e.ext k (h.own.lt k hk)).trans (h.base k hk), fun x hx => let_ext (h.each x hx) e hd, h.sz⟩
theorem LstC.nw (h : LstC w col c A cap l) (q : Nw w w') : LstC w' col c A cap l :=
  ⟨h.own.fr q (fun _ _ h => h), h.base, fun x hx => ((h.each x hx).nw q).mono fun k hk _ => ⟨hk.1, Nat.lt_of_lt_of_le hk.2 q.size⟩, h.sz⟩
theorem LstC.sl (h : LstC w col c A cap l) : Sl w (CB w col c) A (letsC l) := h.own.sl.mono fun k hk hl => ⟨h.base k hk, hl⟩
theorem LstC.nil (w : World) (col : Nat → Nat) (c : Nat) : LstC w col c none 0 [] := ⟨Own.nil _ _ _, fun k hk => (inA_none k hk).elim, (by intro x hx; cases hx), (by intro x hx; cases hx)⟩
theorem IsNet.grow (h : IsNet w O I Y) (hO : ∀ k, O k → O' k) (hI : ∀ k, I k → I' k) (hd : ∀ k, O' k → ¬ I' k) (hOl : ∀ k, O' k → k < w.heap.size) (hIl : ∀ k, I' k → k < w.heap.size) : IsNet w O' I' Y :=
  ⟨h.blk, h.map, fun n s hs => (h.link n s hs).mono hO hI, h.far, hO _ h.og, hO _ h.om, hd, hOl, hIl⟩
theorem IsNet.cb (h : IsNet w O I Y) (hc : c ≠ 0) (hO : ∀ k, O k → col k = c) (hI : ∀ k, I k → col k = 0) : IsNet w (CB w col c) (CB w col 0) Y :=
  h.grow (fun k hk => ⟨hO k hk, h.ol k hk⟩) (fun k hk => ⟨hI k hk, h.il k hk⟩) (fun k h1 h2 => hc (h1.1.symm.trans h2.1)) (fun k hk => hk.2) (fun k hk => hk.2)
theorem NetC.ext (h : NetC w col c g N p) (e : Ext w w' col col' d) (hc : c ≠ 0) (hcd : c ≠ d) (hd : d ≠ 0) : NetC w' col' c g N p := by
  obtain ⟨Y, h1, h2⟩ := h
  exact ⟨Y, (h1.fr e.fr (fun k hk => hk.off hcd) (fun k hk => hk.off (fun e => hd e.symm))).cb hc (fun k hk => (e.ext k hk.2).trans hk.1) (fun k hk => (e.ext k hk.2).trans hk.1), h2⟩
theorem NetC.nw (h : NetC w col c g N p) (q : Nw w w') (hc : c ≠ 0) : NetC w' col c g N p := by
  obtain ⟨Y, h1, h2⟩ := h
  exact ⟨Y, (h1.nw q).cb hc (fun k hk => hk.1) (fun k hk => hk.1), h2⟩
theorem NetC.more (h : NetC w col c g N p) (hN : N ≤ M) : NetC w col c g M p := by
  obtain ⟨Y, h1, h2, h3, h4⟩ := h
  exact ⟨Y, h1, h2, h3, Nat.le_trans h4 hN⟩
/-- New blocks coloured. -/
noncomputable def colN (w : World) (col : Nat → Nat) (c : Nat) (O : Nat → Prop) : Nat → Nat := fun k => if k < w.heap.size then col k else @ite _ (O k) (Classical.propDecidable _) c 0
theorem colN_old {k : Nat} (h : k < w.heap.size) : colN w col c O k = col k := if_pos h
theorem colN_in {k : Nat} (h : w.heap.size ≤ k) (ho : O k) : colN w col c O k = c := by
  unfold colN
  rw [if_neg (by omega), if_pos ho]
theorem colN_out {k : Nat} (h : w.heap.size ≤ k) (ho : ¬ O k) : colN w col c O k = 0 := by
  unfold colN
  rw [if_neg (by omega), if_neg ho]
/-- What a call on a net leaves, by colours. -/
theorem net_step (hc : c ≠ 0) (h' : IsNet w' O' I' Y') (hf : Fr (CB w col c) w w') (hO : ∀ k, O' k → CB w col c k ∨ w.heap.size ≤ k) (hI : ∀ k, I' k → CB w col 0 k ∨ w.heap.size ≤ k) :
    ∃ col', Ext w w' col col' c ∧ IsNet w' (CB w' col' c) (CB w' col' 0) Y' ∧ ∀ k, I' k → CB w' col' 0 k := by
  have hI2 : ∀ k, I' k → colN w col c O' k = 0 := fun k hk => (hI k hk).elim (fun h => (colN_old h.2).trans h.1) (fun h => colN_out h (fun ho => h'.dis k ho hk))
  refine ⟨colN w col c O', ⟨hf, fun k hk => colN_old hk, fun _ k hk => colN_out (Nat.le_trans hf.size hk) (fun ho => by have := h'.ol k ho; omega)⟩, h'.cb hc (fun k hk => (hO k hk).elim (fun h => (colN_old h.2).trans h.1) (fun h => colN_in h hk)) hI2, fun k hk => ⟨hI2 k hk, h'.il k hk⟩⟩
/-- Such a row behind an append. -/
theorem LstC.app {A' : Option Addr} {cap' m : Nat} {l2 : List LetM} (hc : c ≠ 0) (h : LstC w col c A cap l) (ha : AppTo w 50 20 A l.length cap m (letsC l) (letsC l2) A' cap' w') (hm : m = l2.length) (he : ∀ x ∈ l2, LetIn w (CB w col 0) x) (hz : ∀ x ∈ l2, LetSz x) :
    ∃ col', Ext w w' col col' c ∧ LstC w' col' c A' cap' (l ++ l2) := by
  subst hm
  have hin := ha.inA_
  have hoff : ∀ k, CB w col 0 k → ¬ inA A k := fun k hk hh => hc ((h.base k hh).symm.trans hk.1)
  have hE : Ext w w' col (colN w col c (inA A')) c := ⟨ha.fr.mono fun k hk => .inl ⟨h.base k hk, h.own.lt k hk⟩, fun k hk => colN_old hk, fun _ k hk => colN_out (Nat.le_trans ha.fr.size hk) (fun h => by have := ha.1.lt k h; omega)⟩
  refine ⟨colN w col c (inA A'), hE, ⟨by rw [List.length_append, letsC_append]; exact ha.1, fun k hk => ?_, fun x hx => ?_, fun x hx => ?_⟩⟩
  · rcases hin k hk with h1 | h1
    · exact (colN_old (h.own.lt k h1)).trans (h.base k h1)
    · exact colN_in (by omega) hk
  · rcases List.mem_append.1 hx with hx | hx
    · exact let_ext (h.each x hx) hE hc
    · exact let_ext (he x hx) hE hc
  · rcases List.mem_append.1 hx with hx | hx
    · exact h.sz x hx
    · exact hz x hx
end
/-! What calls on nets tell, by colours. -/
section
variable {w : World} {col : Nat → Nat} {c g N : Nat} {p : Nm → List LetF}
theorem nNew (w : World) (col : Nat → Nat) (c : Nat) (hc : c ≠ 0) :
    Calls Tryz.prog 10 #[] w fun e w' => ∃ g col', e = .returned (.pointer (some ⟨g, 0, none⟩)) ∧ Ext w w' col col' c ∧ NetC w' col' c g 0 (fun _ => []) ∧ Nw w w' :=
  (netNew_any w).mono fun e w' h => by
    obtain ⟨rfl, hb, hm, q⟩ := h
    have h1 := hb.lt
    have h2 := hm.lt
    have hN : IsNet w' (fun k => k = w.heap.size + 1 ∨ k = w.heap.size) (fun _ => False) ⟨w.heap.size + 1, w.heap.size, 0, fun _ => none⟩ :=
      ⟨hb, hm, (by intro n s hs; cases hs), (by intro n n' s s' hs; cases hs), .inl rfl, .inr rfl, fun _ _ h => h, (by rintro k (rfl | rfl) <;> assumption), fun _ h => h.elim⟩
    obtain ⟨col', h3, h4, _⟩ := net_step (col := col) hc hN (Nw.on q) (by rintro k (rfl | rfl) <;> exact .inr (by omega)) (fun _ h => h.elim)
    exact ⟨_, col', rfl, h3, ⟨_, h4, rfl, rfl, Nat.le_refl _⟩, q⟩
theorem nSend (hc : c ≠ 0) (h : NetC w col c g N p) (hN : N < 900000000) (F : Nat → Prop) (A : Option Addr) (cap : Nat) (xs : List LetM) (hsl : Sl w F A (letsC xs)) (he : ∀ x ∈ xs, LetIn w F x) (hz : ∀ x ∈ xs, LetSz x) (hsz : xs.length ≤ 10000) (hF : ∀ k, F k → col k ≠ c) :
    Calls Tryz.prog 19 #[.pointer (some ⟨g, 0, none⟩), .slice A xs.length cap] w fun e w' => e = .returned (I64 ((sendP p (xs.map LetM.x)).2 : Nat)) ∧ ∃ col', Ext w w' col col' c ∧ NetC w' col' c g (N + xs.length) (sendP p (xs.map LetM.x)).1 := by
  obtain ⟨Y, h1, rfl, rfl, h4⟩ := h
  refine (netSend_any w _ _ F Y h1 A cap xs hsl he hz hsz (fun k hk hh => hF k hk hh.1) (by omega)).mono fun e w' hh => ?_
  obtain ⟨rfl, O', I', Y', i1, i2, _, i4, i5, i6, i7, i8⟩ := hh
  obtain ⟨col', j1, j2, _⟩ := net_step hc i1 i6 i7 i8
  exact ⟨rfl, col', j1, ⟨Y', j2, i2, i4, by omega⟩⟩
theorem nDeliver0 (hc : c ≠ 0) (h : NetC w col c g N p) (a b : Int) (hn : NmWf (a, b)) (hp : p (a, b) = []) :
    Calls Tryz.prog 21 #[.pointer (some ⟨g, 0, none⟩), I64 a, I64 b] w fun e w' => e = .returned (.tuple #[.agg (letA letMZ), .bool false]) ∧ Nw w w' := by
  obtain ⟨Y, h1, rfl, rfl, h4⟩ := h
  refine netDeliver_none w _ _ Y h1 a b hn ?_
  cases hf : Y.f (a, b) with
  | none => rfl
  | some s =>
    have h5 := (h1.link _ s hf).some_
    rw [NetM.p_some hf] at hp
    rw [List.map_eq_nil_iff.1 hp] at h5
    exact absurd h5 (Nat.lt_irrefl 0)
theorem nDeliver1 (hc : c ≠ 0) (h : NetC w col c g N p) (hN : N < 900000000) (a b : Int) (hn : NmWf (a, b)) {y : LetF} {l : List LetF} (hp : p (a, b) = y :: l) :
    Calls Tryz.prog 21 #[.pointer (some ⟨g, 0, none⟩), I64 a, I64 b] w fun e w' => ∃ x : LetM, e = .returned (.tuple #[.agg (letA x), .bool true]) ∧ x.x = y ∧ LetIn w' (CB w' col 0) x ∧ LetSz x ∧ Ext w w' col col c ∧ NetC w' col c g (N + 1) (setP p (a, b) l) := by
  obtain ⟨Y, h1, rfl, rfl, h4⟩ := h
  cases hf : Y.f (a, b) with
  | none => rw [NetM.p_none hf] at hp; cases hp
  | some s =>
    have K := h1.link _ s hf
    refine (netDeliver_some w _ _ Y h1 a b hn (by omega) s hf).mono fun e w' hh => ?_
    obtain ⟨x, r, hs, rfl, i1, i2, i3⟩ := hh
    have hs' := i3.size
    rw [NetM.p_some hf, hs, List.map_cons] at hp
    injection hp with e1 e2
    refine ⟨x, rfl, e1, i1.mono (fun k hk _ => ⟨hk.1, by have := hk.2; omega⟩), K.sz x (by rw [hs]; exact List.mem_cons_self), ⟨i3, fun _ _ => rfl, fun h0 k hk => h0 k (Nat.le_trans i3.size hk)⟩, ⟨_, i2.cb hc (fun k hk => hk.1) (fun k hk => hk.1), rfl, ?_, by show Y.s + 1 ≤ N + 1; omega⟩⟩
    funext m
    unfold setP
    by_cases e : m = (a, b)
    · subst e
      rw [if_pos rfl]
      have hx := tailS_x s K.some_
      rw [hs, List.map_cons, List.drop_one, List.tail_cons, e2] at hx
      rw [← hx]
      unfold NetM.p
      simp [setF]
    · rw [if_neg e]
      unfold NetM.p
      simp [setF, e]
theorem nWaiting (hc : c ≠ 0) (h : NetC w col c g N p) (a b : Int) (hn : NmWf (a, b)) :
    Calls Tryz.prog 17 #[.pointer (some ⟨g, 0, none⟩), I64 a, I64 b] w fun e w' => ∃ A cap ys, e = .returned (.slice A ys.length cap) ∧ ys.map LetM.x = p (a, b) ∧ Own w' 50 20 A ys.length cap (letsC ys) ∧ LetsHd w' (fun k => Since w k ∧ ¬ inA A k) ys ∧ (∀ y ∈ ys, LetSz y) ∧ Nw w w' ∧ ∀ k, inA A k → w.heap.size ≤ k := by
  obtain ⟨Y, h1, rfl, rfl, h4⟩ := h
  refine (netWaiting_any w _ _ Y h1 a b hn).mono fun e w' hh => ?_
  obtain ⟨A, cap, ys, i1, i2, i3, i4, i5, i6⟩ := hh
  refine ⟨A, cap, ys, i1, i2, i3, i4, fun y hy => ?_, i5, i6⟩
  cases hf : Y.f (a, b) with
  | none =>
    rw [NetM.p_none hf] at i2
    rw [List.map_eq_nil_iff.1 i2] at hy
    cases hy
  | some s =>
    rw [NetM.p_some hf] at i2
    exact szs_eq i2 (h1.link _ s hf).sz y hy
theorem nLose0 (hc : c ≠ 0) (h : NetC w col c g N p) (a b : Int) (hn : NmWf (a, b)) (hp : p (a, b) = []) :
    Calls Tryz.prog 24 #[.pointer (some ⟨g, 0, none⟩), I64 a, I64 b] w fun e w' => e = .returned (.bool false) ∧ Nw w w' :=
  netLose_of w g a b false (fun w' => Nw w w') (fun _ _ h q => h.tr q) ((nDeliver0 hc h a b hn hp).mono fun e w' h => ⟨letMZ, h.1, h.2⟩)
theorem nLose1 (hc : c ≠ 0) (h : NetC w col c g N p) (hN : N < 900000000) (a b : Int) (hn : NmWf (a, b)) {y : LetF} {l : List LetF} (hp : p (a, b) = y :: l) :
    Calls Tryz.prog 24 #[.pointer (some ⟨g, 0, none⟩), I64 a, I64 b] w fun e w' => e = .returned (.bool true) ∧ Ext w w' col col c ∧ NetC w' col c g (N + 1) (setP p (a, b) l) :=
  netLose_of w g a b true (fun w' => Ext w w' col col c ∧ NetC w' col c g (N + 1) (setP p (a, b) l)) (fun _ _ h q => ⟨h.1.tr (Ext.nw q _ _), h.2.nw q hc⟩) ((nDeliver1 hc h hN a b hn hp).mono fun e w' hh => by
    obtain ⟨x, h1, _, _, _, h5, h6⟩ := hh
    exact ⟨x, h1, h5, h6⟩)
theorem nTwice (hc : c ≠ 0) (h : NetC w col c g N p) (hN : N < 900000000) (a b : Int) (hn : NmWf (a, b)) :
    Calls Tryz.prog 25 #[.pointer (some ⟨g, 0, none⟩), I64 a, I64 b] w fun e w' => e = .returned (.bool (twP p (a, b)).2) ∧ ∃ col', Ext w w' col col' c ∧ NetC w' col' c g (N + 1) (twP p (a, b)).1 := by
  obtain ⟨Y, h1, rfl, rfl, h4⟩ := h
  refine (netTwice_any w _ _ Y h1 (by omega) a b hn).mono fun e w' hh => ?_
  obtain ⟨rfl, O', I', Y', i1, i2, _, i4, i5, i6, i7, i8⟩ := hh
  obtain ⟨col', j1, j2, _⟩ := net_step hc i1 i6 i7 i8
  exact ⟨rfl, col', j1, ⟨Y', j2, i2, i4, by omega⟩⟩
theorem nForward (hc : c ≠ 0) (h : NetC w col c g N p) (hN : N < 900000000) (a b : Int) (hn : NmWf (a, b)) :
    Calls Tryz.prog 26 #[.pointer (some ⟨g, 0, none⟩), I64 a, I64 b] w fun e w' => e = .returned (.bool (fwP p (a, b)).2) ∧ ∃ col', Ext w w' col col' c ∧ NetC w' col' c g (N + 1) (fwP p (a, b)).1 := by
  obtain ⟨Y, h1, rfl, rfl, h4⟩ := h
  refine (netForward_any w _ _ Y h1 (by omega) a b hn).mono fun e w' hh => ?_
  obtain ⟨rfl, O', Y', i1, i2, _, i4, i5, i6, i7⟩ := hh
  obtain ⟨col', j1, j2, _⟩ := net_step hc i1 i6 i7 (fun k hk => .inl hk)
  exact ⟨rfl, col', j1, ⟨Y', j2, i2, i4, by omega⟩⟩
theorem nTake (hc : c ≠ 0) (h : NetC w col c g N p) (b : Int) (hb : -9223372036854775808 ≤ b ∧ b ≤ 9223372036854775807) (ct : Nat) (hct : ct ≠ 0) (hcc : c ≠ ct) :
    Calls Tryz.prog 23 #[.pointer (some ⟨g, 0, none⟩), I64 b] w fun e w' => ∃ A cap ys, e = .returned (.slice A ys.length cap) ∧ ys.length ≤ 200 ∧ ys.map LetM.x = (takeP p b 5).1 ∧ ∃ col', Ext w w' col col' c ∧ NetC w' col' c g N (takeP p b 5).2 ∧ LstC w' col' ct A cap ys := by
  obtain ⟨Y, h1, rfl, rfl, h4⟩ := h
  refine (netTake_any w _ _ Y h1 b hb).mono fun e w' hh => ?_
  obtain ⟨A, cap, ys, Y', rfl, i0, i1, i2, i3, i4, i5, i6, _, i7, i8, i9⟩ := hh
  have hx : Ext w w' col (colN w col ct (inA A)) c := ⟨i9, fun k hk => colN_old hk, fun _ k hk => colN_out (Nat.le_trans i9.size hk) (fun h => by have := i2.lt k h; omega)⟩
  refine ⟨A, cap, ys, rfl, i0, i1, colN w col ct (inA A), hx, ⟨Y', i5.cb hc (fun k hk => (colN_old hk.2).trans hk.1) (fun k hk => (colN_old hk.2).trans hk.1), i6, i7, by omega⟩, ⟨i2, fun k hk => colN_in (i3 k hk) hk, fun x hx2 => (i4 x hx2).1.mono fun k hk _ => hk.ext hx, fun x hx => (i4 x hx).2⟩⟩
theorem nCopy (hc : c ≠ 0) (h : NetC w col c g N p) (hN : N < 900000000) (c' : Nat) (hc' : c' ≠ 0) :
    Calls Tryz.prog 12 #[.pointer (some ⟨g, 0, none⟩)] w fun e w' => ∃ g' col', e = .returned (.pointer (some ⟨g', 0, none⟩)) ∧ Ext w w' col col' c' ∧ NetC w' col' c' g' N p ∧ Nw w w' := by
  obtain ⟨Y, h1, rfl, rfl, h4⟩ := h
  refine (netCopy_any w _ _ Y h1 (by omega)).mono fun e w' hh => ?_
  obtain ⟨O', I', Y', rfl, i1, i2, i3, i4, i5, i6⟩ := hh
  obtain ⟨col', j1, j2, _⟩ := net_step (col := col) hc' i1 (Nw.on i4) (fun k hk => .inr (i5 k hk)) (fun k hk => .inr (i6 k hk))
  exact ⟨Y'.g, col', rfl, j1, ⟨Y', j2, rfl, funext i2, by omega⟩, i4⟩
theorem nMany (hc : c ≠ 0) (h : NetC w col c g N p) (L : List LetF) (hL : RelN p L) (hsz : L.length ≤ 1000000000) :
    Calls Tryz.prog 22 #[.pointer (some ⟨g, 0, none⟩)] w fun e w' => e = .returned (I64 (L.length : Nat)) ∧ Nw w w' := by
  obtain ⟨Y, h1, rfl, rfl, h4⟩ := h
  exact netMany_any w _ _ Y h1 L hL hsz
end
end Go.Proofs.YtippdjaakcgeoaaGreat

namespace Go.Proofs.YtippdjaakcgeoaaGreat
open Go Go.RowKit

/-- Values put into an array, one behind the other. -/
theorem fold_set (v : List Value) : ∀ (j off : Nat) (cs : Array Value) (i : Nat), ((v.zipIdx j).foldl (fun (cs : Array Value) (p : Value × Nat) => cs.setIfInBounds (off + p.2) p.1) cs)[i]? =
    if off + j ≤ i ∧ i < off + j + v.length ∧ i < cs.size then v[i - (off + j)]? else cs[i]? := by
  induction v with
  | nil =>
    intro j off cs i
    rw [if_neg (by simp; omega)]
    rfl
  | cons c v ih =>
    intro j off cs i
    rw [List.zipIdx_cons, List.foldl_cons, ih (j + 1) off]
    simp only [List.length_cons, Array.size_setIfInBounds]
    rcases Nat.lt_trichotomy i (off + j) with h | h | h
    · rw [if_neg (by omega), if_neg (by omega), Array.getElem?_setIfInBounds_ne (by omega)]
    · subst h
      by_cases hs : off + j < cs.size
      · rw [if_neg (by omega), if_pos (by omega), Array.getElem?_setIfInBounds_self_of_lt hs, Nat.sub_self]
        rfl
      · rw [if_neg (by omega), if_neg (by omega), Array.getElem?_eq_none (by simp; omega), Array.getElem?_eq_none (by omega)]
    · by_cases hs : off + (j + 1) ≤ i ∧ i < off + (j + 1) + v.length ∧ i < cs.size
      · rw [if_pos hs, if_pos (by omega), show i - (off + j) = (i - (off + (j + 1))) + 1 by omega]
        rfl
      · rw [if_neg hs, if_neg (by omega), Array.getElem?_setIfInBounds_ne (by omega)]
theorem fill_rows (C : Nat) : ∀ (vs : List (List Value)) (k : Nat) (cs : Array Value), (∀ v ∈ vs, v.length = C) → cs.size = (k + vs.length) * C →
    Instr.fill (fun i => some (i * C, C)) cs ((vs.zipIdx k).map fun p => (p.2, Value.agg p.1.toArray)) = some (cs.toList.take (k * C) ++ vs.flatten).toArray := by
  intro vs
  induction vs with
  | nil =>
    intro k cs _ hs
    show some cs = _
    simp at hs
    rw [List.take_of_length_le (by simp [hs])]
    simp
  | cons v vs ih =>
    intro k cs hv hs
    have hvl := hv v (by simp)
    simp only [List.length_cons] at hs
    rw [List.zipIdx_cons, List.map_cons]
    unfold Instr.fill
    simp only
    have e1 : (Value.agg v.toArray).cells = v.toArray := rfl
    have hb : k * C + C ≤ cs.size := by
      rw [hs, ← Nat.succ_mul]
      exact Nat.mul_le_mul_right _ (by omega)
    rw [e1, if_neg (by simp [hvl]; omega)]
    have e2 : v.toArray.zipIdx.foldl (fun cs x => cs.setIfInBounds (k * C + x.2) x.1) cs = (v.zipIdx 0).foldl (fun (cs : Array Value) (p : Value × Nat) => cs.setIfInBounds (k * C + p.2) p.1) cs := by simp
    have e3 : ((v.zipIdx 0).foldl (fun (cs : Array Value) (p : Value × Nat) => cs.setIfInBounds (k * C + p.2) p.1) cs).size = cs.size := by
      have hg : ∀ (l : List (Value × Nat)) (c : Array Value), (l.foldl (fun (cs : Array Value) (p : Value × Nat) => cs.setIfInBounds (k * C + p.2) p.1) c).size = c.size := fun l => by
        induction l with
        | nil => intro c; rfl
        | cons x l ih => intro c; rw [List.foldl_cons, ih]; simp
      exact hg _ _
    have e4 := ih (k + 1) ((v.zipIdx 0).foldl (fun (cs : Array Value) (p : Value × Nat) => cs.setIfInBounds (k * C + p.2) p.1) cs) (fun x hx => hv x (by simp [hx])) (by rw [e3, hs]; congr 1; omega)
    refine Eq.trans ?_ (e4.trans ?_)
    · rw [← e2]
    · congr 2
      rw [List.flatten_cons, ← List.append_assoc]
      congr 1
      refine List.ext_getElem? fun i => ?_
      rw [List.getElem?_take, List.getElem?_append, List.getElem?_take]
      have e5 : ((v.zipIdx 0).foldl (fun (cs : Array Value) (p : Value × Nat) => cs.setIfInBounds (k * C + p.2) p.1) cs).toList[i]? = if k * C + 0 ≤ i ∧ i < k * C + 0 + v.length ∧ i < cs.size then v[i - (k * C + 0)]? else cs[i]? := by
        rw [Array.getElem?_toList]
        exact fold_set v 0 (k * C) cs i
      rw [e5, hvl]
      have hlt : (List.take (k * C) cs.toList).length = k * C := by simp; omega
      rw [hlt, Nat.succ_mul]
      simp only [Nat.add_zero, Array.getElem?_toList]
      by_cases h1 : i < k * C
      · rw [if_pos (by omega), if_neg (by omega), if_pos h1, if_pos h1]
      · by_cases h2 : i < k * C + C
        · rw [if_pos h2, if_pos (by omega), if_neg h1]
        · rw [if_neg h2, if_neg h1, List.getElem?_eq_none (by omega)]
theorem run_build {P : Program} (w : World) (t E : TypeId) (C : Nat) (vs : List (List Value)) (z : Value) (ht : P.underlying t = some (.slice E)) (hinfo : (P.info? E).map (fun i => (i.zero, i.size)) = some (some z, C))
    (hn0 : 0 < vs.length) (hC : 0 < C) (hl : ∀ v ∈ vs, v.length = C) (hsz : vs.length * C ≤ 16777216) :
    (Instr.buildSlice t vs.length ((vs.zipIdx 0).map fun p => (p.2, Value.agg p.1.toArray)).toArray).run P w = .ok (.slice (some ⟨w.heap.size, 0, none⟩) vs.length vs.length) (w.alloc (.cells vs.flatten.toArray E)) := by
  have hne : ¬ vs.length * C = 0 := Nat.ne_of_gt (Nat.mul_pos hn0 hC)
  have hle : ¬ vs.length * C > 2 ^ 24 := by show ¬ vs.length * C > 16777216; omega
  cases hi : P.info? E with
  | none => rw [hi] at hinfo; cases hinfo
  | some i =>
    rw [hi] at hinfo
    simp only [Option.map_some, Option.some.injEq, Prod.mk.injEq] at hinfo
    obtain ⟨hz, hs⟩ := hinfo
    have hf := fill_rows C vs 0 ((Array.range (vs.length * C)).map fun k => z.cells[k % z.cells.size]!) hl (by simp)
    rw [Nat.zero_mul, List.take_zero, List.nil_append] at hf
    simp [Instr.buildSlice, run_underlying ht, sizeOf, typeInfo, hi, hs, hle, hne, zeroValue, hz, hf, newRow]
section
variable {P : Program} {w : World} {ops : Array Oper} {rest : List Oper} {o : Oper} {a : Act} {Q : Exit → Act → World → Prop}
/-- The walk over a slice written out. -/
theorem wl_build (hgd : o.guard = none) {E : TypeId} (t : TypeId) (n : Nat) (ps : List (Nat × Operand)) (C : Nat) (vs : List (List Value)) (z : Value) (ho : o.op = .buildSlice t n ps.toArray) (ht : P.underlying t = some (.slice E)) (hinfo : (P.info? E).map (fun i => (i.zero, i.size)) = some (some z, C))
    (hn : vs.length = n) (hn0 : 0 < n) (hC : 0 < C) (hl : ∀ v ∈ vs, v.length = C) (hsz : n * C ≤ 16777216)
    (hp : (ps.map fun (i, x) => (i, a.eval x)) = (vs.zipIdx 0).map fun p => (p.2, Value.agg p.1.toArray))
    (h : ∀ g w', g = w.heap.size → w' = w.alloc (.cells vs.flatten.toArray E) → wpList P ops Q rest (a.put o.dst (.slice (some ⟨g, 0, none⟩) n n)) w') : wpList P ops Q (o :: rest) a w := by
  refine wpList_plain hgd fun K hK => ?_
  subst hn
  unfold Oper.wp execOp
  simp only [ho, List.map_toArray, hp]
  rw [Sem.run_bind, run_build w t E C vs z ht hinfo hn0 hC hl hsz]
  exact hK _ _ (h _ _ rfl rfl)
end
end Go.Proofs.YtippdjaakcgeoaaGreat

namespace Go.Proofs.YtippdjaakcgeoaaGreat
open Go Go.RowKit
set_option linter.unusedVariables false
set_option linter.unusedSimpArgs false

theorem lets_slD {w w' : World} {g : Nat} (xs : List LetM) (hg : g = w.heap.size) (hw : w' = w.alloc (.cells (xs.map letL).flatten.toArray 50)) : Nw w w' ∧ Sl w' (· = g) (some ⟨g, 0, none⟩) (letsC xs) := by
  subst hg
  subst hw
  refine ⟨(Fr.refl (fun _ => False) w).alloc _, ?_⟩
  have h := (Blk.new w 50 (xs.map letL).flatten.toArray).sl 0 (xs.map letL).flatten.length
  rw [List.drop_zero, List.take_of_length_le (by simp)] at h
  exact h
theorem lnk_snoc (L : List LetF) (x : LetF) (n : Nm) : lnk (L ++ [x]) n = if (x.src, x.dst) = n then lnk L n ++ [x] else lnk L n := by
  rw [lnk_append]
  split
  · rename_i h
    rw [lnk_self (l := [x]) (fun y hy => by rw [List.mem_singleton.1 hy]; exact h)]
  · rename_i h
    rw [lnk_other (l := [x]) (n := (x.src, x.dst)) (fun y hy => by rw [List.mem_singleton.1 hy]) (fun e => h e.symm), List.append_nil]
/-- Which of a row are not on a link. -/
def offM (l : List LetM) (n : Nm) : List LetM := l.filter fun x => !decide ((x.src, x.dst) = n)
theorem offM_x (l : List LetM) (n : Nm) : (offM l n).map LetM.x = offL (l.map LetM.x) n := by
  unfold offM offL
  rw [List.filter_map]
  rfl
theorem offM_snoc (l : List LetM) (x : LetM) (n : Nm) : offM (l ++ [x]) n = if (x.src, x.dst) = n then offM l n else offM l n ++ [x] := by
  unfold offM
  rw [List.filter_append]
  split
  · rename_i h
    simp [h]
  · rename_i h
    simp [h]
theorem offM_le (l : List LetM) (n : Nm) : (offM l n).length ≤ l.length := List.length_filter_le _ _
theorem offM_mem {l : List LetM} {n : Nm} {x : LetM} (h : x ∈ offM l n) : x ∈ l := (List.mem_filter.1 h).1
def dwaitR (w : World) (l : List LetM) (n : Nm) (v i : Value) (wr : World) : Prop :=
  ∃ (k : Nat) (ys : List LetM) (B : Option Addr) (c : Nat), k ≤ l.length ∧ i = .int .i64 k ∧ v = .slice B ys.length c ∧ ys.map LetM.x = lnk ((l.take k).map LetM.x) n ∧ ys.length ≤ k ∧ Own wr 50 20 B ys.length c (letsC ys) ∧ (∀ y ∈ ys, LetIn wr (fun j => Since w j ∧ ¬ inA B j) y) ∧ (∀ y ∈ ys, LetSz y) ∧ Nw w wr ∧ ∀ j, inA B j → w.heap.size ≤ j
set_option maxRecDepth 100000 in
set_option maxHeartbeats 8000000 in
theorem dWaiting_any (w : World) (O I : Nat → Prop) (D : DocM) (h : IsDoc w O I D) (hsz : D.r.l.length ≤ 100000000) (a b : Int) :
    Calls Tryz.prog 59 #[.pointer (some ⟨D.g, 0, none⟩), I64 a, I64 b] w fun e w' => ∃ A c ys, e = .returned (.slice A ys.length c) ∧ ys.map LetM.x = lnk D.L (a, b) ∧ Own w' 50 20 A ys.length c (letsC ys) ∧ (∀ y ∈ ys, LetIn w' (fun j => Since w j ∧ ¬ inA A j) y) ∧ (∀ y ∈ ys, LetSz y) ∧ Nw w w' ∧ ∀ k, inA A k → w.heap.size ≤ k := by
  obtain ⟨g, ⟨A0, c0, l⟩⟩ := D
  obtain ⟨hb, ho, hba, hea, hz, hog, hdis, hol, hil⟩ := h
  dsimp only at hb ho hba hea hz hog hsz ⊢
  have hsl := ho.sl
  have HEA := Lib.hid hea
  have HZ := Lib.hid hz
  clear hea hz ho hba hog hdis hol hil
  go_enter Tryz.func59, Tryz.ntmps59
  go_wp2_with fail
  go_loopw [7, 8] (fun v i wr => dwaitR w l (a, b) v i wr) (fun _ i _ => l.length - (intOf i).toNat)
  case atStart => exact ⟨0, [], none, 0, Nat.zero_le _, rfl, rfl, rfl, Nat.zero_le _, Own.nil _ _ _, (by intro y hy; cases hy), (by intro y hy; cases hy), Fr.refl _ _, fun k hk => (inA_none k hk).elim⟩
  case round =>
    obtain ⟨k, ys, B, c2, hk, rfl, rfl, ht, hyk, ho, hys, hyz, hq, hB⟩ := hrel
    have HT := Lib.hid ht
    have HYS := Lib.hid hys
    have HYZ := Lib.hid hyz
    clear ht hys hyz
    have g0 : wr.cell? ⟨g, 0, none⟩ = some (.slice A0 l.length c0) := by simpa using (hb.fr hq (fun h => h)).cell 0
    by_cases hlt : k < l.length
    · have hi0 : (k : Int) < (l.length : Int) := by omega
      obtain ⟨b1, o1, rfl, _, _, hc⟩ := (hsl.fr hq (fun _ _ h => h)).let_ hlt
      have xi := (HEA.out _ (List.getElem_mem hlt)).nw hq
      have xz := HZ.out _ (List.getElem_mem hlt)
      obtain ⟨x, hx⟩ : ∃ x, l[k] = x := ⟨_, rfl⟩
      rw [hx] at hc xi xz
      have HX := Lib.hid hx
      clear hx
      have c2' : wr.cell? ⟨b1, o1 + k * 20 + 2, none⟩ = some (I64 x.src) := hc 2 _ rfl
      have c3' : wr.cell? ⟨b1, o1 + k * 20 + 3, none⟩ = some (I64 x.dst) := hc 3 _ rfl
      have HC := Lib.hid hc
      clear hc
      have hsn : (l.take (k + 1)).map LetM.x = (l.take k).map LetM.x ++ [x.x] := by rw [List.take_succ_eq_append_getElem hlt, HX.out, List.map_append, List.map_singleton]
      have HSN := Lib.hid hsn
      clear hsn
      by_cases hw : (x.src, x.dst) = (a, b)
      · have hw1 : x.src = a := congrArg Prod.fst hw
        have hw2 : x.dst = b := congrArg Prod.snd hw
        rw [hw1] at c2'
        rw [hw2] at c3'
        have HW := Lib.hid hw
        have hcp := copy_let wr I x xi xz
        clear hw hw1 hw2
        go_wp2_with (first | (refine wl_load_cells rfl 50 _ rfl b1 (o1 + k * 20) rfl _ _ HC.out Tryz.underlying50 rfl (by kernel_rfl) ?_) | (go_at_call 64; refine hcp.mono ?_; rintro e w1 ⟨y, rfl, ey, iy, q1⟩; have HEY := Lib.hid ey; clear ey) | (refine wl_build rfl 28 1 _ 20 [letL y] (.agg #[U8V 0, I64 0, I64 0, I64 0, I64 0, I64 0, I64 0, I64 0, .bool false, .slice none 0 0, I64 0, I64 0, .slice none 0 0, .slice none 0 0, .slice none 0 0, .slice none 0 0, I64 0, I64 0, I64 0, .slice none 0 0]) rfl Tryz.underlying28 (by kernel_rfl) rfl (by decide) (by decide) (by simp) (by decide) rfl ?_; intro g8 w8 hg8 hw8; obtain ⟨q8, s8⟩ := lets_slD [y] hg8 hw8; have hoa := (ho.fr q1 (fun _ _ h => h)).fr q8 (fun _ _ h => h); have hg9 := hg8; clear hg8 hw8) | (at_builtin; refine wl_append2 rfl _ _ _ rfl 256 (.agg #[U8V 0, I64 0, I64 0, I64 0, I64 0, I64 0, I64 0, I64 0, .bool false, .slice none 0 0, I64 0, I64 0, .slice none 0 0, .slice none 0 0, .slice none 0 0, .slice none 0 0, I64 0, I64 0, I64 0, .slice none 0 0]) Tryz.underlying28 info_let rfl (by decide) rfl hoa rfl s8 (by rfl) (letsC_cell _) (by omega) (by unfold maxLen; omega) ?_; intro B' c' w2 hap))
        go_roundw
        case rel =>
          obtain ⟨o2, q2, n2⟩ := hap.newOwn (hq.tr (q1.tr q8)) hB
          have hfr := hap.fr
          have hin := hap.inA_
          have hBl : ∀ j, inA B j → j < wr.heap.size := ho.lt
          have h1 := q1.size
          have h8 := q8.size
          have hwr := hq.size
          refine ⟨k + 1, ys ++ [y], B', c', hlt, by go_num, by rw [List.length_append]; rfl, ?_, by rw [List.length_append]; show ys.length + 1 ≤ _; omega, by rw [List.length_append, letsC_append]; exact o2, fun z hz => ?_, fun z hz => ?_, q2, n2⟩
          · rw [HSN.out, lnk_snoc, if_pos HW.out, List.map_append, HT.out, List.map_singleton, HEY.out]
          · rcases List.mem_append.1 hz with hz | hz
            · refine ((((HYS.out z hz).mono (F' := fun j => (Since w j ∧ ¬ inA B j) ∧ j < wr.heap.size) (fun j hj hl => ⟨hj, hl⟩)).nw (q1.tr q8)).fr hfr (fun j hj => hj.1.2)).mono fun j hj _ => ⟨hj.1.1, fun hjB => ?_⟩
              rcases hin j hjB with h9 | h9
              · exact hj.1.2 h9
              · have := hj.2; omega
            · rw [List.mem_singleton.1 hz]
              refine (((iy.mono (F' := fun j => Since wr j ∧ j < w1.heap.size) (fun j hj hl => ⟨hj, hl⟩)).nw q8).fr hfr (fun j hj hjB => by have := hBl j hjB; have := hj.1; unfold Since at this; omega)).mono fun j hj _ => ⟨by have := hj.1; unfold Since at this ⊢; omega, fun hjB => ?_⟩
              rcases hin j hjB with h9 | h9
              · have := hBl j h9; have := hj.1; unfold Since at this; omega
              · have := hj.2; omega
          · rcases List.mem_append.1 hz with hz | hz
            · exact HYZ.out z hz
            · rw [List.mem_singleton.1 hz]; exact LetSz.of_eq HEY.out xz
        case measure => simp [intOf]; omega
      · have HW := Lib.hid hw
        by_cases hw1 : x.src = a
        · have hw2 : ¬ x.dst = b := fun e => hw (by rw [hw1, e])
          have hb2 : (x.dst == b) = false := by simp [hw2]
          have hd2 : decide (x.dst = b) = false := decide_eq_false hw2
          clear hw
          go_wp2_with fail
          go_roundw
          case rel => exact ⟨k + 1, ys, B, c2, hlt, by go_num, rfl, by rw [HSN.out, lnk_snoc, if_neg HW.out]; exact HT.out, by omega, ho, HYS.out, HYZ.out, hq, hB⟩
          case measure => simp [intOf]; omega
        · have hb1 : (x.src == a) = false := by simp [hw1]
          have hd1 : decide (x.src = a) = false := decide_eq_false hw1
          clear hw
          go_wp2_with fail
          go_roundw
          case rel => exact ⟨k + 1, ys, B, c2, hlt, by go_num, rfl, by rw [HSN.out, lnk_snoc, if_neg HW.out]; exact HT.out, by omega, ho, HYS.out, HYZ.out, hq, hB⟩
          case measure => simp [intOf]; omega
    · obtain rfl : l.length = k := by omega
      go_wp2_with fail
      go_ret
      have hT := HT.out
      rw [List.take_of_length_le (Nat.le_refl _)] at hT
      exact ⟨B, c2, ys, rfl, hT, ho, HYS.out, HYZ.out, hq, hB⟩
def dsetR (w : World) (l : List LetM) (n : Nm) (v i : Value) (wr : World) : Prop :=
  ∃ (k : Nat) (B : Option Addr) (c : Nat), k ≤ l.length ∧ i = .int .i64 k ∧ v = .slice B (offM (l.take k) n).length c ∧ Own wr 50 20 B (offM (l.take k) n).length c (letsC (offM (l.take k) n)) ∧ Nw w wr ∧ ∀ j, inA B j → w.heap.size ≤ j
/-- A net of the document behind a link set. -/
structure DocSet (w w' : World) (O I F : Nat → Prop) (D D' : DocM) (n : Nm) (ls : List LetM) : Prop where
  g : D'.g = D.g
  l : D'.r.l = offM D.r.l n ++ ls
  blk : Blk w' D.g 30 #[D'.r.v]
  own : Own w' 50 20 D'.r.a D'.r.l.length D'.r.c (letsC D'.r.l)
  new : ∀ k, inA D'.r.a k → w.heap.size ≤ k
  fr : Fr (· = D.g) w w'
set_option maxRecDepth 100000 in
set_option maxHeartbeats 8000000 in
theorem dSet_any (w : World) (O I F : Nat → Prop) (D : DocM) (h : IsDoc w O I D) (hsz : D.r.l.length ≤ 100000000) (a b : Int) (A1 : Option Addr) (c1 : Nat) (ls : List LetM) (h1 : Sl w F A1 (letsC ls)) (hF : ∀ k, F k → k ≠ D.g) (hl1 : ls.length ≤ 100000000) :
    Calls Tryz.prog 106 #[.pointer (some ⟨D.g, 0, none⟩), I64 a, I64 b, .slice A1 ls.length c1] w fun e w' => e = .returned (.tuple #[]) ∧ ∃ D', DocSet w w' O I F D D' (a, b) ls := by
  obtain ⟨g, ⟨A0, c0, l⟩⟩ := D
  obtain ⟨hb, ho, hba, hea, hz, hog, hdis, hol, hil⟩ := h
  dsimp only at hb ho hba hea hz hog hsz hF ⊢
  have hsl := ho.sl
  have hgA := ho.ne_ hb (by decide)
  have hbl := hb.lt
  clear hea hz hba hog hdis hol hil ho
  obtain ⟨n1, hn1⟩ : ∃ n1, n1 = ls.length := ⟨_, rfl⟩
  rw [← hn1] at hl1 ⊢
  have HN1 := Lib.hid hn1
  clear hn1
  go_enter Tryz.func106, Tryz.ntmps106
  go_wp2_with fail
  go_loopw [8, 9] (fun v i wr => dsetR w l (a, b) v i wr) (fun _ i _ => l.length - (intOf i).toNat)
  case atStart => exact ⟨0, none, 0, Nat.zero_le _, rfl, rfl, Own.nil _ _ _, Fr.refl _ _, fun k hk => (inA_none k hk).elim⟩
  case round =>
    obtain ⟨k, B, c2, hk, rfl, rfl, ho, hq, hB⟩ := hrel
    have g0 : wr.cell? ⟨g, 0, none⟩ = some (.slice A0 l.length c0) := by simpa using (hb.fr hq (fun h => h)).cell 0
    have hle := offM_le (l.take k) (a, b)
    have htl : (l.take k).length ≤ k := by rw [List.length_take]; omega
    obtain ⟨ys, hy⟩ : ∃ ys, ys = offM (l.take k) (a, b) := ⟨_, rfl⟩
    rw [← hy] at ho hle ⊢
    have HY := Lib.hid hy
    clear hy
    have hyk : ys.length ≤ k := by omega
    clear hle htl
    by_cases hlt : k < l.length
    · have hi0 : (k : Int) < (l.length : Int) := by omega
      obtain ⟨b1, o1, rfl, _, _, hc⟩ := (hsl.fr hq (fun _ _ h => h)).let_ hlt
      obtain ⟨x, hx⟩ : ∃ x, l[k] = x := ⟨_, rfl⟩
      rw [hx] at hc
      have hsn : l.take (k + 1) = l.take k ++ [x] := by rw [List.take_succ_eq_append_getElem hlt, hx]
      have HSN := Lib.hid hsn
      have c2' : wr.cell? ⟨b1, o1 + k * 20 + 2, none⟩ = some (I64 x.src) := hc 2 _ rfl
      have c3' : wr.cell? ⟨b1, o1 + k * 20 + 3, none⟩ = some (I64 x.dst) := hc 3 _ rfl
      have HC := Lib.hid hc
      clear hx hsn hc
      by_cases hw : (x.src, x.dst) = (a, b)
      · have hw1 : x.src = a := congrArg Prod.fst hw
        have hw2 : x.dst = b := congrArg Prod.snd hw
        rw [hw1] at c2'
        rw [hw2] at c3'
        have HW := Lib.hid hw
        clear hw hw1 hw2
        go_wp2_with fail
        go_roundw
        case rel => 
          have hnx : offM (l.take (k + 1)) (a, b) = ys := by rw [HSN.out, offM_snoc, if_pos HW.out, HY.out]
          exact ⟨k + 1, B, c2, hlt, by go_num, by rw [hnx], by rw [hnx]; exact ho, hq, hB⟩
        case measure => simp [intOf]; omega
      · have HW := Lib.hid hw
        have hap : ∀ w8 w2 B' c', Nw wr w8 → AppTo w8 50 20 B ys.length c2 1 (letsC ys) (letsC [x]) B' c' w2 → dsetR w l (a, b) (.slice B' (ys.length + 1) c') (.int .i64 ((k : Int) + 1)) w2 := fun w8 w2 B' c' q8 hap => by
          obtain ⟨o2, q2, n2⟩ := hap.newOwn (hq.tr q8) hB
          have hnx : offM (l.take (k + 1)) (a, b) = ys ++ [x] := by rw [HSN.out, offM_snoc, if_neg HW.out, HY.out]
          exact ⟨k + 1, B', c', hlt, by go_num, by rw [hnx, List.length_append]; rfl, by rw [hnx, List.length_append, letsC_append]; exact o2, q2, n2⟩
        have HAP := Lib.hid hap
        clear hap
        by_cases hw1 : x.src = a
        · have hw2 : ¬ x.dst = b := fun e => hw (by rw [hw1, e])
          have hb2 : (x.dst != b) = true := by simp [hw2]
          rw [hw1] at c2'
          clear hw hw1
          go_wp2_with (first | (refine wl_load_cells rfl 50 _ rfl b1 (o1 + k * 20) rfl _ _ HC.out Tryz.underlying50 rfl (by kernel_rfl) ?_) | (refine wl_build rfl 28 1 _ 20 [letL x] (.agg #[U8V 0, I64 0, I64 0, I64 0, I64 0, I64 0, I64 0, I64 0, .bool false, .slice none 0 0, I64 0, I64 0, .slice none 0 0, .slice none 0 0, .slice none 0 0, .slice none 0 0, I64 0, I64 0, I64 0, .slice none 0 0]) rfl Tryz.underlying28 (by kernel_rfl) rfl (by decide) (by decide) (by simp) (by decide) rfl ?_; intro g8 w8 hg8 hw8; obtain ⟨q8, s8⟩ := lets_slD [x] hg8 hw8; have hoa := ho.fr q8 (fun _ _ h => h); clear hg8 hw8) | (at_builtin; refine wl_append2 rfl _ _ _ rfl 256 (.agg #[U8V 0, I64 0, I64 0, I64 0, I64 0, I64 0, I64 0, I64 0, .bool false, .slice none 0 0, I64 0, I64 0, .slice none 0 0, .slice none 0 0, .slice none 0 0, .slice none 0 0, I64 0, I64 0, I64 0, .slice none 0 0]) Tryz.underlying28 info_let rfl (by decide) rfl hoa rfl s8 (by rfl) (letsC_cell _) (by omega) (by unfold maxLen; omega) ?_; intro B' c' w2 hap))
          go_roundw
          case rel => have := HAP.out w8 w2 B' c' q8 hap; exact this
          case measure => simp [intOf]; omega
        · have hb1 : (x.src != a) = true := by simp [hw1]
          clear hw
          go_wp2_with (first | (refine wl_load_cells rfl 50 _ rfl b1 (o1 + k * 20) rfl _ _ HC.out Tryz.underlying50 rfl (by kernel_rfl) ?_) | (refine wl_build rfl 28 1 _ 20 [letL x] (.agg #[U8V 0, I64 0, I64 0, I64 0, I64 0, I64 0, I64 0, I64 0, .bool false, .slice none 0 0, I64 0, I64 0, .slice none 0 0, .slice none 0 0, .slice none 0 0, .slice none 0 0, I64 0, I64 0, I64 0, .slice none 0 0]) rfl Tryz.underlying28 (by kernel_rfl) rfl (by decide) (by decide) (by simp) (by decide) rfl ?_; intro g8 w8 hg8 hw8; obtain ⟨q8, s8⟩ := lets_slD [x] hg8 hw8; have hoa := ho.fr q8 (fun _ _ h => h); clear hg8 hw8) | (at_builtin; refine wl_append2 rfl _ _ _ rfl 256 (.agg #[U8V 0, I64 0, I64 0, I64 0, I64 0, I64 0, I64 0, I64 0, .bool false, .slice none 0 0, I64 0, I64 0, .slice none 0 0, .slice none 0 0, .slice none 0 0, .slice none 0 0, I64 0, I64 0, I64 0, .slice none 0 0]) Tryz.underlying28 info_let rfl (by decide) rfl hoa rfl s8 (by rfl) (letsC_cell _) (by omega) (by unfold maxLen; omega) ?_; intro B' c' w2 hap))
          go_roundw
          case rel => have := HAP.out w8 w2 B' c' q8 hap; exact this
          case measure => simp [intOf]; omega
    · obtain rfl : l.length = k := by omega
      have hgn : ∀ j, inA B j → ¬ j = g := fun j hj e => by have := hB j hj; omega
      have hs1 := h1.fr hq (fun _ _ h => h)
      have gb := hb.fr hq (fun h => h)
      have hT : ys = offM l (a, b) := by rw [HY.out, List.take_of_length_le (Nat.le_refl _)]
      have HT := Lib.hid hT
      clear hT
      go_wp2_with (at_builtin; refine wl_append2 rfl _ _ _ rfl 256 (.agg #[U8V 0, I64 0, I64 0, I64 0, I64 0, I64 0, I64 0, I64 0, .bool false, .slice none 0 0, I64 0, I64 0, .slice none 0 0, .slice none 0 0, .slice none 0 0, .slice none 0 0, I64 0, I64 0, I64 0, .slice none 0 0]) Tryz.underlying28 info_let rfl (by decide) rfl ho rfl hs1 (by rw [letsC_len, HN1.out]) (letsC_cell _) (by omega) (by unfold maxLen; omega) ?_; intro B' c' w2 hap; obtain ⟨o2, q2, n2⟩ := hap.newOwn hq hB; have gb2 := hb.fr q2 (fun h => h); have g2 : w2.cell? ⟨g, 0, none⟩ = some (.slice A0 l.length c0) := (by simpa using gb2.cell 0); have f2 := gb2.frozen 0)
      go_end0
      have gb3 := gb2.set_ 0 (.slice B' (ys.length + n1) c')
      have hlen : (ys ++ ls).length = ys.length + n1 := by rw [List.length_append, HN1.out]
      refine ⟨rfl, ⟨g, ⟨B', c', ys ++ ls⟩⟩, rfl, by rw [HT.out], by show Blk _ g _ #[.slice B' (ys ++ ls).length c']; rw [hlen]; exact gb3, ?_, n2, Fr.set1 (g := g) (Nw.on q2) 0 _⟩
      show Own _ 50 20 B' (ys ++ ls).length c' (letsC (ys ++ ls))
      rw [hlen, letsC_append]
      exact o2.setCell (fun hj => by have := n2 g hj; omega) _
end Go.Proofs.YtippdjaakcgeoaaGreat

namespace Go.Proofs.YtippdjaakcgeoaaGreat
open Go Go.RowKit
set_option linter.unusedVariables false
set_option linter.unusedSimpArgs false

/-- What a net of the document is behind a link set. -/
theorem DocSet.doc {w w' : World} {O I F J : Nat → Prop} {D D' : DocM} {n : Nm} {ls : List LetM} (h : IsDoc w O I D) (s : DocSet w w' O I F D D' n ls) (hJ : ∀ k, J k → k < w.heap.size ∧ ¬ O k) (he : ∀ x ∈ ls, LetIn w J x) (hz : ∀ x ∈ ls, LetSz x) :
    IsDoc w' (fun k => O k ∨ inA D'.r.a k) (fun k => I k ∨ J k) D' ∧ D'.L = setD D.L n (ls.map LetM.x) ∧ Fr O w w' := by
  have hs := s.fr.size
  have hIg : ∀ k, I k → ¬ k = D.g := fun k hk e => h.dis _ h.og (e ▸ hk)
  have hJg : ∀ k, J k → ¬ k = D.g := fun k hk e => (hJ k hk).2 (e ▸ h.og)
  refine ⟨⟨by rw [s.g]; exact s.blk, s.own, fun k hk => .inr hk, fun x hx => ?_, fun x hx => ?_, by rw [s.g]; exact .inl h.og, fun k h1 h2 => ?_, fun k h1 => ?_, fun k h1 => ?_⟩, ?_, s.fr.mono fun k hk => .inl (by rw [hk]; exact h.og)⟩
  · rw [s.l] at hx
    rcases List.mem_append.1 hx with hx | hx
    · exact ((h.each x (offM_mem hx)).fr s.fr hIg).mono fun k hk _ => .inl hk
    · exact ((he x hx).fr s.fr hJg).mono fun k hk _ => .inr hk
  · rw [s.l] at hx
    rcases List.mem_append.1 hx with hx | hx
    · exact h.sz x (offM_mem hx)
    · exact hz x hx
  · rcases h1 with h1 | h1 <;> rcases h2 with h2 | h2
    · exact h.dis k h1 h2
    · exact (hJ k h2).2 h1
    · have := s.new k h1; have := h.il k h2; omega
    · have := s.new k h1; have := (hJ k h2).1; omega
  · rcases h1 with h1 | h1
    · have := h.ol k h1; omega
    · exact s.own.lt k h1
  · rcases h1 with h1 | h1
    · have := h.il k h1; omega
    · have := (hJ k h1).1; omega
  · show D'.r.l.map LetM.x = _
    rw [s.l, List.map_append, offM_x]
    rfl
/-- A list of letters behind its first. -/
theorem lets_tail {w : World} {F : Nat → Prop} {A : Option Addr} {cap : Nat} {x : LetM} {r : List LetM} (h : Sl w F A (letsC (x :: r))) (hc : (x :: r).length ≤ cap) : Sl w F (cutA A cap 1 20) (letsC r) := by
  have h2 := h.drop (n := (x :: r).length) (m := cap) (s := 20) (l := 1) (letsC_len _) hc (by simp)
  exact h2
theorem under_letsD : Tryz.prog.underlying 28 = some (.slice (Tryz.prog.elem 28)) := by kernel_rfl
theorem size_letsD (w : World) : (sizeOf (Tryz.prog.elem 28)).run Tryz.prog w = .ok 20 w := by kernel_rfl
set_option maxRecDepth 100000 in
set_option maxHeartbeats 4000000 in
theorem dDeliver_none (w : World) (O I : Nat → Prop) (X : DocM) (h : IsDoc w O I X) (hsz : X.r.l.length ≤ 100000000) (a b : Int) (hp : lnk X.L (a, b) = []) :
    Calls Tryz.prog 53 #[.pointer (some ⟨X.g, 0, none⟩), I64 a, I64 b] w fun e w' => e = .returned (.tuple #[.agg (letA letMZ), .bool false]) ∧ Nw w w' := by
  obtain ⟨D, hD⟩ : ∃ D, D = w.heap.size := ⟨_, rfl⟩
  obtain ⟨W0, hW0⟩ : ∃ W, W = w.alloc (.cells #[U8V 0, I64 0, I64 0, I64 0, I64 0, I64 0, I64 0, I64 0, .bool false, .slice none 0 0, I64 0, I64 0, .slice none 0 0, .slice none 0 0, .slice none 0 0, .slice none 0 0, I64 0, I64 0, I64 0, .slice none 0 0] 50) := ⟨_, rfl⟩
  have p0 : Nw w W0 := by rw [hW0]; exact (Fr.refl (fun _ => False) _).alloc _
  have y0 : Blk W0 D 50 #[U8V 0, I64 0, I64 0, I64 0, I64 0, I64 0, I64 0, I64 0, .bool false, .slice none 0 0, I64 0, I64 0, .slice none 0 0, .slice none 0 0, .slice none 0 0, .slice none 0 0, I64 0, I64 0, I64 0, .slice none 0 0] := by rw [hW0, hD]; exact Blk.new _ _ _
  have hN := h.nw p0
  have HD := Lib.hid hD
  have HW0 := Lib.hid hW0
  clear hD hW0
  have hw : Calls Tryz.prog 59 #[.pointer (some ⟨X.g, 0, none⟩), I64 a, I64 b] W0 fun e w' => ∃ A c, e = .returned (.slice A 0 c) ∧ Nw W0 w' := (dWaiting_any W0 O I X hN hsz a b).mono fun e w' h => by
    obtain ⟨A, c, ys, h1, h2, _, _, _, h3, _⟩ := h
    rw [hp] at h2
    rw [List.map_eq_nil_iff.1 h2] at h1
    exact ⟨A, c, h1, h3⟩
  go_enter Tryz.func53, Tryz.ntmps53
  go_upto_region 1 with (fail)
  rw [← HD.out, ← HW0.out]
  go_upto_region 3 with (go_at_call 59; refine hw.mono ?_; rintro e w1 ⟨A1, c1, rfl, q1⟩)
  have y1 := y0.fr q1 (fun h => h)
  have th := Blk.there (l := [U8V 0, I64 0, I64 0, I64 0, I64 0, I64 0, I64 0, I64 0, .bool false, .slice none 0 0, I64 0, I64 0, .slice none 0 0, .slice none 0 0, .slice none 0 0, .slice none 0 0, I64 0, I64 0, I64 0, .slice none 0 0]) y1 0 20 (by show 0 + 20 ≤ 20; omega)
  have one := letA_one letMZ
  obtain ⟨W1, hW1⟩ : ∃ W, W = w1.setCells D 0 [U8V 0, I64 0, I64 0, I64 0, I64 0, I64 0, I64 0, I64 0, .bool false, .slice none 0 0, I64 0, I64 0, .slice none 0 0, .slice none 0 0, .slice none 0 0, .slice none 0 0, I64 0, I64 0, I64 0, .slice none 0 0] := ⟨_, rfl⟩
  have y2 : Blk W1 D 50 #[U8V 0, I64 0, I64 0, I64 0, I64 0, I64 0, I64 0, I64 0, .bool false, .slice none 0 0, I64 0, I64 0, .slice none 0 0, .slice none 0 0, .slice none 0 0, .slice none 0 0, I64 0, I64 0, I64 0, .slice none 0 0] := by rw [hW1]; exact Blk.setCells (l := [U8V 0, I64 0, I64 0, I64 0, I64 0, I64 0, I64 0, I64 0, .bool false, .slice none 0 0, I64 0, I64 0, .slice none 0 0, .slice none 0 0, .slice none 0 0, .slice none 0 0, I64 0, I64 0, I64 0, .slice none 0 0]) y1 0 [U8V 0, I64 0, I64 0, I64 0, I64 0, I64 0, I64 0, I64 0, .bool false, .slice none 0 0, I64 0, I64 0, .slice none 0 0, .slice none 0 0, .slice none 0 0, .slice none 0 0, I64 0, I64 0, I64 0, .slice none 0 0]
  have m1 : Fr (· = D) w1 W1 := by rw [hW1]; exact (Fr.refl (· = D) _).setCells _ _
  have Q1 : Nw w W1 := (p0.tr q1).new m1 (fun b hb => by have := HD.out; omega)
  have HW1 := Lib.hid hW1
  clear hW1 m1
  go_wp2_with (refine wpList_store_mid rfl 50 _ _ rfl D 0 #[U8V 0, I64 0, I64 0, I64 0, I64 0, I64 0, I64 0, I64 0, .bool false, .slice none 0 0, I64 0, I64 0, .slice none 0 0, .slice none 0 0, .slice none 0 0, .slice none 0 0, I64 0, I64 0, I64 0, .slice none 0 0] rfl rfl th (by kernel_rfl) one ?_; rw [← HW1.out])
  refine bodyPost_ret (v := .tuple #[.agg #[U8V 0, I64 0, I64 0, I64 0, I64 0, I64 0, I64 0, I64 0, .bool false, .slice none 0 0, I64 0, I64 0, .slice none 0 0, .slice none 0 0, .slice none 0 0, .slice none 0 0, I64 0, I64 0, I64 0, .slice none 0 0], .bool false]) ?_ rfl ?_
  · exact results_cell_tmp_row rfl _ _ D 50 _ (0, 0) _ _ rfl rfl y2 Tryz.underlying50 rfl (by kernel_rfl)
  exact ⟨rfl, Q1⟩
set_option maxRecDepth 100000 in
set_option maxHeartbeats 8000000 in
theorem dDeliver_some (w : World) (O I : Nat → Prop) (X : DocM) (h : IsDoc w O I X) (hsz : X.r.l.length ≤ 100000000) (a b : Int) {y : LetF} {l : List LetF} (hp : lnk X.L (a, b) = y :: l) :
    Calls Tryz.prog 53 #[.pointer (some ⟨X.g, 0, none⟩), I64 a, I64 b] w fun e w' => ∃ (x : LetM) (O' I' : Nat → Prop) (X' : DocM), e = .returned (.tuple #[.agg (letA x), .bool true]) ∧ x.x = y ∧ LetIn w' I' x ∧ LetSz x ∧ IsDoc w' O' I' X' ∧ X'.g = X.g ∧ X'.L = setD X.L (a, b) l ∧ Fr O w w' ∧ (∀ k, O' k → O k ∨ w.heap.size ≤ k) ∧ ∀ k, I' k → I k ∨ w.heap.size ≤ k := by
  obtain ⟨D, hD⟩ : ∃ D, D = w.heap.size := ⟨_, rfl⟩
  obtain ⟨W0, hW0⟩ : ∃ W, W = w.alloc (.cells #[U8V 0, I64 0, I64 0, I64 0, I64 0, I64 0, I64 0, I64 0, .bool false, .slice none 0 0, I64 0, I64 0, .slice none 0 0, .slice none 0 0, .slice none 0 0, .slice none 0 0, I64 0, I64 0, I64 0, .slice none 0 0] 50) := ⟨_, rfl⟩
  have p0 : Nw w W0 := by rw [hW0]; exact (Fr.refl (fun _ => False) _).alloc _
  have y0 : Blk W0 D 50 #[U8V 0, I64 0, I64 0, I64 0, I64 0, I64 0, I64 0, I64 0, .bool false, .slice none 0 0, I64 0, I64 0, .slice none 0 0, .slice none 0 0, .slice none 0 0, .slice none 0 0, I64 0, I64 0, I64 0, .slice none 0 0] := by rw [hW0, hD]; exact Blk.new _ _ _
  have hN := h.nw p0
  have HD := Lib.hid hD
  have HW0 := Lib.hid hW0
  clear hD hW0
  have hw : Calls Tryz.prog 59 #[.pointer (some ⟨X.g, 0, none⟩), I64 a, I64 b] W0 fun e w' => ∃ A c x r n, e = .returned (.slice A n c) ∧ n = r.length + 1 ∧ x.x = y ∧ r.map LetM.x = l ∧ Own w' 50 20 A n c (letsC (x :: r)) ∧ (∀ y ∈ x :: r, LetIn w' (fun j => Since W0 j ∧ ¬ inA A j) y) ∧ (∀ y ∈ x :: r, LetSz y) ∧ Nw W0 w' ∧ (∀ k, inA A k → W0.heap.size ≤ k) ∧ n ≤ 100000000 := (dWaiting_any W0 O I X hN hsz a b).mono fun e w' h => by
    obtain ⟨A, c, ys, h1, h2, h3, h4, h5, h6, h7⟩ := h
    have h8 := lnk_le X.L (a, b)
    rw [← h2, List.length_map, List.length_map] at h8
    rw [hp] at h2
    cases ys with
    | nil => cases h2
    | cons x r =>
      rw [List.map_cons] at h2
      injection h2 with e1 e2
      exact ⟨A, c, x, r, (x :: r).length, h1, rfl, e1, e2, h3, h4, h5, h6, h7, by omega⟩
  have hgw := h.blk.lt
  have hOw := h.ol
  have hIw := h.il
  have hpw := p0.size
  clear hp
  go_enter Tryz.func53, Tryz.ntmps53
  go_upto_region 1 with (fail)
  rw [← HD.out, ← HW0.out]
  go_upto_region 2 with (go_at_call 59; refine hw.mono ?_; rintro e w1 ⟨A1, c1, x, r, n, rfl, hnr, ex, er, o1, i1, z1, q1, b1, hn8⟩; have hn1 : 0 < n := (by omega); have HNR := Lib.hid hnr; clear hnr)
  have hne0 : decide ((n : Int) = 0) = false := decide_eq_false (by omega)
  have hne1 : ((n : Int) == 0) = false := by have h0 : ¬ n = 0 := (by omega); simp [h0]
  have hcap := o1.cap_le
  have s1 : ∀ w, (Instr.slice 28 (.slice A1 n c1) (some (.int .i64 1)) none none).run Tryz.prog w = .ok (.slice (cutA A1 c1 1 20) (n - 1) (c1 - 1)) w := slice_l (P := Tryz.prog) 28 under_letsD 20 size_letsD A1 n c1 1 (by omega)
  have N1 := hN.nw q1
  have hts : Sl w1 (fun k => W0.heap.size ≤ k) (cutA A1 c1 1 20) (letsC r) := (lets_tail o1.sl (by rw [List.length_cons]; have := HNR.out; omega)).mono fun k hk _ => b1 k hk
  have hset := dSet_any w1 O I (fun k => W0.heap.size ≤ k) X N1 hsz a b (cutA A1 c1 1 20) (c1 - 1) r hts (fun k hk e => by omega) (by have := HNR.out; omega)
  have hrl : r.length = n - 1 := by have := HNR.out; omega
  rw [hrl] at hset
  have hi0 : (0 : Int) < (n : Int) := by omega
  clear hrl
  have ER := Lib.hid er
  have EX := Lib.hid ex
  have I1 := Lib.hid i1
  have Z1 := Lib.hid z1
  clear er ex i1 z1 hw
  go_upto_region 5 with (go_at_call 106; refine hset.mono ?_; rintro e w2 ⟨rfl, X2, hX2⟩)
  obtain ⟨N2, e2, f2⟩ := DocSet.doc (J := fun k => (Since W0 k ∧ ¬ inA A1 k) ∧ k < w1.heap.size) N1 hX2 (fun k hk => ⟨hk.2, fun ho => by have := hOw k ho; have := hk.1.1; unfold Since at this; omega⟩) (fun z hz => (I1.out z (List.mem_cons_of_mem _ hz)).mono fun k hk hl => ⟨hk, hl⟩) (fun z hz => Z1.out z (List.mem_cons_of_mem _ hz))
  have hnew := hX2.new
  have hg2' := hX2.g
  have hq1 := q1.size
  have hfs := f2.size
  have hAO : ∀ k, inA A1 k → ¬ O k := fun k hk ho => by have := b1 k hk; have := hOw k ho; omega
  have so2 := o1.fr f2 hAO
  obtain ⟨g2, o2, hA, _, hg2, hc⟩ := so2.sl.let_ (k := 0) (by simp)
  have hc' : ∀ j u, (letL x)[j]? = some u → w2.cell? ⟨g2, o2 + j, none⟩ = some u := fun j u hu => by have := hc j u hu; simpa using this
  have hDl : D < W0.heap.size := y0.lt
  have hDO : ¬ O D := fun ho => by have := hOw _ ho; have := HD.out; omega
  have y2 := (y0.fr q1 (fun h => h)).fr f2 hDO
  have xi2 := (I1.out x List.mem_cons_self).mono (F' := fun k => (Since W0 k ∧ ¬ inA A1 k) ∧ k < w1.heap.size) (fun k hk hl => ⟨hk, hl⟩)
  have xi3 := xi2.fr f2 (fun k hk ho => by have := hOw k ho; have := hk.1.1; unfold Since at this; omega)
  have th := Blk.there (l := [U8V 0, I64 0, I64 0, I64 0, I64 0, I64 0, I64 0, I64 0, .bool false, .slice none 0 0, I64 0, I64 0, .slice none 0 0, .slice none 0 0, .slice none 0 0, .slice none 0 0, I64 0, I64 0, I64 0, .slice none 0 0]) y2 0 20 (by show 0 + 20 ≤ 20; omega)
  have one := letA_one x
  obtain ⟨W1, hW1⟩ : ∃ W, W = w2.setCells D 0 [U8V x.kind, I64 x.group, I64 x.src, I64 x.dst, I64 x.term, I64 x.index, I64 x.logt, I64 x.commit, .bool x.ok, .slice x.ents.a x.ents.l.length x.ents.c, I64 x.base.index, I64 x.base.term, .slice x.base.cfg.v.a x.base.cfg.v.l.length x.base.cfg.v.c, .slice x.base.cfg.o.a x.base.cfg.o.l.length x.base.cfg.o.c, .slice x.base.cfg.l.a x.base.cfg.l.l.length x.base.cfg.l.c, .slice x.base.cfg.w.a x.base.cfg.w.l.length x.base.cfg.w.c, I64 x.size, I64 x.at_, I64 x.tag, .slice x.bytes.a x.bytes.l.length x.bytes.c] := ⟨_, rfl⟩
  have y3 : Blk W1 D 50 #[U8V x.kind, I64 x.group, I64 x.src, I64 x.dst, I64 x.term, I64 x.index, I64 x.logt, I64 x.commit, .bool x.ok, .slice x.ents.a x.ents.l.length x.ents.c, I64 x.base.index, I64 x.base.term, .slice x.base.cfg.v.a x.base.cfg.v.l.length x.base.cfg.v.c, .slice x.base.cfg.o.a x.base.cfg.o.l.length x.base.cfg.o.c, .slice x.base.cfg.l.a x.base.cfg.l.l.length x.base.cfg.l.c, .slice x.base.cfg.w.a x.base.cfg.w.l.length x.base.cfg.w.c, I64 x.size, I64 x.at_, I64 x.tag, .slice x.bytes.a x.bytes.l.length x.bytes.c] := by rw [hW1]; exact Blk.setCells (l := [U8V 0, I64 0, I64 0, I64 0, I64 0, I64 0, I64 0, I64 0, .bool false, .slice none 0 0, I64 0, I64 0, .slice none 0 0, .slice none 0 0, .slice none 0 0, .slice none 0 0, I64 0, I64 0, I64 0, .slice none 0 0]) y2 0 [U8V x.kind, I64 x.group, I64 x.src, I64 x.dst, I64 x.term, I64 x.index, I64 x.logt, I64 x.commit, .bool x.ok, .slice x.ents.a x.ents.l.length x.ents.c, I64 x.base.index, I64 x.base.term, .slice x.base.cfg.v.a x.base.cfg.v.l.length x.base.cfg.v.c, .slice x.base.cfg.o.a x.base.cfg.o.l.length x.base.cfg.o.c, .slice x.base.cfg.l.a x.base.cfg.l.l.length x.base.cfg.l.c, .slice x.base.cfg.w.a x.base.cfg.w.l.length x.base.cfg.w.c, I64 x.size, I64 x.at_, I64 x.tag, .slice x.bytes.a x.bytes.l.length x.bytes.c]
  have m1 : Fr (· = D) w2 W1 := by rw [hW1]; exact (Fr.refl (· = D) _).setCells _ _
  have Q1 : Fr O w W1 := ((Nw.on (S := O) (p0.tr q1)).tr f2).trans m1 (fun b (hb : b = D) => .inr (by have := HD.out; omega))
  have hDv := HD.out
  have N3 := N2.fr m1 (fun k hk e => by
    rcases hk with hk | hk
    · exact hDO (e ▸ hk)
    · have := hnew k hk; omega) (fun k hk e => by
    rcases hk with hk | hk
    · have := hIw k hk; omega
    · have := hk.1.1; unfold Since at this; omega)
  have X3 := (xi3.fr m1 (fun k hk e => by have := hk.1.1; unfold Since at this; omega)).mono (F' := fun k => I k ∨ (Since W0 k ∧ ¬ inA A1 k) ∧ k < w1.heap.size) (fun k hk _ => .inr hk)
  have HW1 := Lib.hid hW1
  have E2 := Lib.hid e2
  have HA := Lib.hid hA
  clear hW1 m1 e2 xi2 xi3 N2 hX2 hset hc hDv hA
  rw [HA.out]
  go_wp2_with (first | (refine wl_load_cells rfl 50 _ rfl g2 o2 rfl _ _ hc' Tryz.underlying50 rfl (by kernel_rfl) ?_) | (refine wpList_store_mid rfl 50 _ _ rfl D 0 #[U8V x.kind, I64 x.group, I64 x.src, I64 x.dst, I64 x.term, I64 x.index, I64 x.logt, I64 x.commit, .bool x.ok, .slice x.ents.a x.ents.l.length x.ents.c, I64 x.base.index, I64 x.base.term, .slice x.base.cfg.v.a x.base.cfg.v.l.length x.base.cfg.v.c, .slice x.base.cfg.o.a x.base.cfg.o.l.length x.base.cfg.o.c, .slice x.base.cfg.l.a x.base.cfg.l.l.length x.base.cfg.l.c, .slice x.base.cfg.w.a x.base.cfg.w.l.length x.base.cfg.w.c, I64 x.size, I64 x.at_, I64 x.tag, .slice x.bytes.a x.bytes.l.length x.bytes.c] rfl rfl th (by kernel_rfl) one ?_; rw [← HW1.out]))
  refine bodyPost_ret (v := .tuple #[.agg #[U8V x.kind, I64 x.group, I64 x.src, I64 x.dst, I64 x.term, I64 x.index, I64 x.logt, I64 x.commit, .bool x.ok, .slice x.ents.a x.ents.l.length x.ents.c, I64 x.base.index, I64 x.base.term, .slice x.base.cfg.v.a x.base.cfg.v.l.length x.base.cfg.v.c, .slice x.base.cfg.o.a x.base.cfg.o.l.length x.base.cfg.o.c, .slice x.base.cfg.l.a x.base.cfg.l.l.length x.base.cfg.l.c, .slice x.base.cfg.w.a x.base.cfg.w.l.length x.base.cfg.w.c, I64 x.size, I64 x.at_, I64 x.tag, .slice x.bytes.a x.bytes.l.length x.bytes.c], .bool true]) ?_ rfl ?_
  · exact results_cell_tmp_row rfl _ _ D 50 _ (0, 0) _ _ rfl rfl y3 Tryz.underlying50 rfl (by kernel_rfl)
  refine ⟨x, _, _, X2, rfl, EX.out, X3, Z1.out x List.mem_cons_self, N3, hg2', by rw [E2.out, ER.out], Q1, fun k hk => ?_, fun k hk => ?_⟩
  · rcases hk with hk | hk
    · exact .inl hk
    · have := hnew k hk; exact .inr (by omega)
  · rcases hk with hk | hk
    · exact .inl hk
    · have := hk.1.1; unfold Since at this; exact .inr (by omega)
end Go.Proofs.YtippdjaakcgeoaaGreat
