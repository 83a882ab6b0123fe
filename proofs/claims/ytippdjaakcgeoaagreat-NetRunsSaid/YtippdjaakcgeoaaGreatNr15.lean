/- Lemmas of the walks: DnG, SmA, SmB. (Laid together by shake.py.) -/
import Derived.Deep.DeepCutAuto
import Derived.Test.YtippdjaakcgeoaaGreatNr02
import Derived.Test.YtippdjaakcgeoaaGreatNr04
import Derived.Test.YtippdjaakcgeoaaGreatNr14
set_option linter.unusedVariables false
set_option linter.unusedSimpArgs false
namespace Go.Proofs.YtippdjaakcgeoaaGreat
open Go Go.RowKit
set_option linter.unusedVariables false
set_option linter.unusedSimpArgs false

/-- Only blocks of colours D were turned, and new ones made. -/
structure ExtS (D : Nat → Prop) (w w' : World) (col col' : Nat → Nat) : Prop where
  fr : Fr (fun k => D (col k) ∧ k < w.heap.size) w w'
  ext : ∀ k, k < w.heap.size → col' k = col k
  cln : (∀ k, w.heap.size ≤ k → col k = 0) → ∀ k, w'.heap.size ≤ k → col' k = 0
section
variable {D D' : Nat → Prop} {w w' w'' : World} {col col' col'' : Nat → Nat} {c d g N M : Nat} {p : Nm → List LetF} {L : List LetF} {A : Option Addr} {cap : Nat} {l : List LetM}
theorem Ext.s (h : Ext w w' col col' d) (hd : D d) : ExtS D w w' col col' := ⟨h.fr.mono fun k hk => .inl ⟨by rw [hk.1]; exact hd, hk.2⟩, h.ext, h.cln⟩
theorem ExtS.nw (h : Nw w w') (col : Nat → Nat) (D : Nat → Prop) : ExtS D w w' col col := ⟨Nw.on h, fun _ _ => rfl, fun h0 k hk => h0 k (Nat.le_trans h.size hk)⟩
theorem ExtS.tr (h : ExtS D w w' col col') (k : ExtS D w' w'' col' col'') : ExtS D w w'' col col'' :=
  ⟨h.fr.trans k.fr fun b hb => (Nat.lt_or_ge b w.heap.size).elim (fun h1 => .inl ⟨by rw [← h.ext b h1]; exact hb.1, h1⟩) .inr, fun j hj => (k.ext j (Nat.lt_of_lt_of_le hj h.fr.size)).trans (h.ext j hj), fun h0 => k.cln (h.cln h0)⟩
theorem ExtS.size (h : ExtS D w w' col col') : w.heap.size ≤ w'.heap.size := h.fr.size
theorem ExtS.mono (h : ExtS D w w' col col') (hD : ∀ c, D c → D' c) : ExtS D' w w' col col' := ⟨h.fr.mono fun k hk => .inl ⟨hD _ hk.1, hk.2⟩, h.ext, h.cln⟩
theorem ExtS.nw_of (h : ExtS D w w' col col') {w0 : World} (q : Nw w0 w) (h0 : ∀ k, k < w0.heap.size → ¬ D (col k)) : Nw w0 w' :=
  q.new h.fr fun b hb => (Nat.lt_or_ge b w0.heap.size).elim (fun h1 => (h0 b h1 hb.1).elim) id
theorem CB.exts (h : ExtS D w w' col col') {k : Nat} (hk : CB w col c k) : CB w' col' c k := ⟨(h.ext k hk.2).trans hk.1, Nat.lt_of_lt_of_le hk.2 h.size⟩
theorem CB.offs (hc : ¬ D c) {k : Nat} (hk : CB w col c k) : ¬ (D (col k) ∧ k < w.heap.size) := fun h => hc (by rw [← hk.1]; exact h.1)
theorem let_exts {x : LetM} (hx : LetIn w (CB w col 0) x) (h : ExtS D w w' col col') (hd : ¬ D 0) : LetIn w' (CB w' col' 0) x :=
  (hx.fr h.fr (fun k hk => hk.offs hd)).mono fun k hk _ => hk.exts h
theorem NetC.exts (h : NetC w col c g N p) (e : ExtS D w w' col col') (hc : c ≠ 0) (hcd : ¬ D c) (hd : ¬ D 0) : NetC w' col' c g N p := by
  obtain ⟨Y, h1, h2⟩ := h
  exact ⟨Y, (h1.fr e.fr (fun k hk => hk.offs hcd) (fun k hk => hk.offs hd)).cb hc (fun k hk => (e.ext k hk.2).trans hk.1) (fun k hk => (e.ext k hk.2).trans hk.1), h2⟩
theorem blk_exts {t : TypeId} {cs : Array Value} (h : Blk w g t cs) (hc : col g = 0) (e : ExtS D w w' col col') (hd : ¬ D 0) : Blk w' g t cs ∧ col' g = 0 :=
  ⟨h.fr e.fr (fun hh => hd (by rw [← hc]; exact hh.1)), (e.ext g h.lt).trans hc⟩
/-- A net of the document whose own blocks have colour c. -/
def DocC (w : World) (col : Nat → Nat) (c g N : Nat) (L : List LetF) : Prop := ∃ X, IsDoc w (CB w col c) (CB w col 0) X ∧ X.g = g ∧ X.L = L ∧ X.r.l.length ≤ N
theorem IsDoc.cb {O I : Nat → Prop} {X : DocM} (h : IsDoc w O I X) (hc : c ≠ 0) (hO : ∀ k, O k → col k = c) (hI : ∀ k, I k → col k = 0) : IsDoc w (CB w col c) (CB w col 0) X :=
  h.grow (fun k hk => ⟨hO k hk, h.ol k hk⟩) (fun k hk => ⟨hI k hk, h.il k hk⟩) (fun k h1 h2 => hc (h1.1.symm.trans h2.1)) (fun k hk => hk.2) (fun k hk => hk.2)
theorem DocC.exts (h : DocC w col c g N L) (e : ExtS D w w' col col') (hc : c ≠ 0) (hcd : ¬ D c) (hd : ¬ D 0) : DocC w' col' c g N L := by
  obtain ⟨Y, h1, h2⟩ := h
  exact ⟨Y, (h1.fr e.fr (fun k hk => hk.offs hcd) (fun k hk => hk.offs hd)).cb hc (fun k hk => (e.ext k hk.2).trans hk.1) (fun k hk => (e.ext k hk.2).trans hk.1), h2⟩
theorem DocC.ext (h : DocC w col c g N L) (e : Ext w w' col col' d) (hc : c ≠ 0) (hcd : c ≠ d) (hd : d ≠ 0) : DocC w' col' c g N L := h.exts (e.s (D := (· = d)) rfl) hc hcd (fun e => hd e.symm)
theorem DocC.nw (h : DocC w col c g N L) (q : Nw w w') (hc : c ≠ 0) : DocC w' col c g N L := h.exts (ExtS.nw q col (fun _ => False)) hc (fun h => h) (fun h => h)
theorem DocC.more (h : DocC w col c g N L) (hN : N ≤ M) : DocC w col c g M L := by
  obtain ⟨Y, h1, h2, h3, h4⟩ := h
  exact ⟨Y, h1, h2, h3, Nat.le_trans h4 hN⟩
theorem doc_step {O' I' : Nat → Prop} {X' : DocM} (hc : c ≠ 0) (h' : IsDoc w' O' I' X') (hf : Fr (CB w col c) w w') (hO : ∀ k, O' k → CB w col c k ∨ w.heap.size ≤ k) (hI : ∀ k, I' k → CB w col 0 k ∨ w.heap.size ≤ k) :
    ∃ col', Ext w w' col col' c ∧ IsDoc w' (CB w' col' c) (CB w' col' 0) X' ∧ ∀ k, I' k → CB w' col' 0 k := by
  have hI2 : ∀ k, I' k → colN w col c O' k = 0 := fun k hk => (hI k hk).elim (fun h => (colN_old h.2).trans h.1) (fun h => colN_out h (fun ho => h'.dis k ho hk))
  exact ⟨colN w col c O', ⟨hf, fun k hk => colN_old hk, fun _ k hk => colN_out (Nat.le_trans hf.size hk) (fun ho => by have := h'.ol k ho; omega)⟩, h'.cb hc (fun k hk => (hO k hk).elim (fun h => (colN_old h.2).trans h.1) (fun h => colN_in h hk)) hI2, fun k hk => ⟨hI2 k hk, h'.il k hk⟩⟩
end
section
variable {w : World} {col : Nat → Nat} {c g N : Nat} {L : List LetF}
theorem DocC.len (h : DocC w col c g N L) : L.length ≤ N := by
  obtain ⟨X, _, _, rfl, h4⟩ := h
  rw [List.length_map]
  exact h4
theorem vSend (hc : c ≠ 0) (h : DocC w col c g N L) (hN : N < 90000000) (F : Nat → Prop) (A : Option Addr) (cap : Nat) (xs : List LetM) (hsl : Sl w F A (letsC xs)) (he : ∀ x ∈ xs, LetIn w F x) (hz : ∀ x ∈ xs, LetSz x) (hsz : xs.length ≤ 10000) (hF : ∀ k, F k → col k ≠ c ∧ k < w.heap.size) :
    Calls Tryz.prog 20 #[.pointer (some ⟨g, 0, none⟩), .slice A xs.length cap] w fun e w' => e = .returned (I64 ((sendD L (xs.map LetM.x)).2 : Nat)) ∧ ∃ col', Ext w w' col col' c ∧ DocC w' col' c g (N + xs.length) (sendD L (xs.map LetM.x)).1 := by
  obtain ⟨X, h1, rfl, rfl, h4⟩ := h
  refine (dSend_any w _ _ F X h1 (by omega) A cap xs hsl he hz hsz (fun k hk hh => (hF k hk).1 hh.1) (fun k hk => (hF k hk).2)).mono fun e w' hh => ?_
  obtain ⟨rfl, O', I', X', i1, i2, i4, i6, i7, i8⟩ := hh
  obtain ⟨col', j1, j2, _⟩ := doc_step hc i1 i6 i7 i8
  have hl := sendD_len X.L (xs.map LetM.x)
  rw [← i4, List.length_map, List.length_map, List.length_map] at hl
  exact ⟨rfl, col', j1, ⟨X', j2, i2, i4, by omega⟩⟩
theorem vDeliver0 (h : DocC w col c g N L) (hN : N < 90000000) (a b : Int) (hp : lnk L (a, b) = []) :
    Calls Tryz.prog 53 #[.pointer (some ⟨g, 0, none⟩), I64 a, I64 b] w fun e w' => e = .returned (.tuple #[.agg (letA letMZ), .bool false]) ∧ Nw w w' := by
  obtain ⟨X, h1, rfl, rfl, h4⟩ := h
  exact dDeliver_none w _ _ X h1 (by omega) a b hp
theorem setD_len (L : List LetF) (n : Nm) (l : List LetF) (h : l.length ≤ (lnk L n).length) : (setD L n l).length ≤ L.length := by
  unfold setD
  have := off_lnk L n
  rw [List.length_append]
  omega
theorem vDeliver1 (hc : c ≠ 0) (h : DocC w col c g N L) (hN : N < 90000000) (a b : Int) {y : LetF} {l : List LetF} (hp : lnk L (a, b) = y :: l) :
    Calls Tryz.prog 53 #[.pointer (some ⟨g, 0, none⟩), I64 a, I64 b] w fun e w' => ∃ (x : LetM) (col' : Nat → Nat), e = .returned (.tuple #[.agg (letA x), .bool true]) ∧ x.x = y ∧ LetIn w' (CB w' col' 0) x ∧ LetSz x ∧ Ext w w' col col' c ∧ DocC w' col' c g N (setD L (a, b) l) := by
  obtain ⟨X, h1, rfl, rfl, h4⟩ := h
  refine (dDeliver_some w _ _ X h1 (by omega) a b hp).mono fun e w' hh => ?_
  obtain ⟨x, O', I', X', rfl, i1, i2, i3, i4, i5, i6, i7, i8, i9⟩ := hh
  obtain ⟨col', j1, j2, j3⟩ := doc_step hc i4 i7 i8 i9
  have hl := setD_len X.L (a, b) l (by rw [hp]; simp)
  rw [← i6, List.length_map, List.length_map] at hl
  exact ⟨x, col', rfl, i1, i2.mono fun k hk _ => j3 k hk, i3, j1, ⟨X', j2, i5, i6, by omega⟩⟩
theorem vLose0 (h : DocC w col c g N L) (hN : N < 90000000) (a b : Int) (hp : lnk L (a, b) = []) :
    Calls Tryz.prog 54 #[.pointer (some ⟨g, 0, none⟩), I64 a, I64 b] w fun e w' => e = .returned (.bool false) ∧ Nw w w' :=
  dLose_of w g a b false (fun w' => Nw w w') (fun _ _ h q => h.tr q) ((vDeliver0 h hN a b hp).mono fun e w' h => ⟨letMZ, h.1, h.2⟩)
theorem vLose1 (hc : c ≠ 0) (h : DocC w col c g N L) (hN : N < 90000000) (a b : Int) {y : LetF} {l : List LetF} (hp : lnk L (a, b) = y :: l) :
    Calls Tryz.prog 54 #[.pointer (some ⟨g, 0, none⟩), I64 a, I64 b] w fun e w' => e = .returned (.bool true) ∧ ∃ col', Ext w w' col col' c ∧ DocC w' col' c g N (setD L (a, b) l) :=
  dLose_of w g a b true (fun w' => ∃ col', Ext w w' col col' c ∧ DocC w' col' c g N (setD L (a, b) l)) (fun _ _ h q => by
    obtain ⟨col', h1, h2⟩ := h
    exact ⟨col', h1.tr (Ext.nw q _ _), h2.nw q hc⟩) ((vDeliver1 hc h hN a b hp).mono fun e w' hh => by
    obtain ⟨x, col', h1, _, _, _, h5, h6⟩ := hh
    exact ⟨x, h1, col', h5, h6⟩)
theorem twD_len (L : List LetF) (n : Nm) : (twD L n).1.length ≤ L.length + 1 := by
  unfold twD
  split
  · simp
  · rename_i x l hl
    split
    · simp
    · unfold setD
      have := off_lnk L n
      rw [hl] at this
      rw [List.length_append, List.length_append]
      simp at this ⊢
      omega
theorem vTwice (hc : c ≠ 0) (h : DocC w col c g N L) (hN : N < 90000000) (a b : Int) :
    Calls Tryz.prog 55 #[.pointer (some ⟨g, 0, none⟩), I64 a, I64 b] w fun e w' => e = .returned (.bool (twD L (a, b)).2) ∧ ∃ col', Ext w w' col col' c ∧ DocC w' col' c g (N + 1) (twD L (a, b)).1 := by
  obtain ⟨X, h1, rfl, rfl, h4⟩ := h
  refine (dTwice_any w _ _ X h1 (by omega) a b).mono fun e w' hh => ?_
  obtain ⟨rfl, O', I', X', i1, i2, i4, i6, i7, i8⟩ := hh
  obtain ⟨col', j1, j2, _⟩ := doc_step hc i1 i6 i7 i8
  have hl := twD_len X.L (a, b)
  rw [← i4, List.length_map, List.length_map] at hl
  exact ⟨rfl, col', j1, ⟨X', j2, i2, i4, by omega⟩⟩
theorem fwD_len (L : List LetF) (n : Nm) : (fwD L n).1.length ≤ L.length := by
  unfold fwD
  split
  · simp
  · rename_i x hx
    refine setD_len L n _ ?_
    obtain ⟨ys, hy⟩ := List.getLast?_eq_some_iff.1 hx
    rw [hy, List.dropLast_concat]
    simp
theorem vForward (hc : c ≠ 0) (h : DocC w col c g N L) (hN : N < 90000000) (a b : Int) :
    Calls Tryz.prog 56 #[.pointer (some ⟨g, 0, none⟩), I64 a, I64 b] w fun e w' => e = .returned (.bool (fwD L (a, b)).2) ∧ ∃ col', Ext w w' col col' c ∧ DocC w' col' c g N (fwD L (a, b)).1 := by
  obtain ⟨X, h1, rfl, rfl, h4⟩ := h
  refine (dForward_any w _ _ X h1 (by omega) a b).mono fun e w' hh => ?_
  obtain ⟨rfl, O', I', X', i1, i2, i4, i6, i7, i8⟩ := hh
  obtain ⟨col', j1, j2, _⟩ := doc_step hc i1 i6 i7 i8
  have hl := fwD_len X.L (a, b)
  rw [← i4, List.length_map, List.length_map] at hl
  exact ⟨rfl, col', j1, ⟨X', j2, i2, i4, by omega⟩⟩
theorem vTake (hc : c ≠ 0) (h : DocC w col c g N L) (hN : N < 90000000) (b : Int) :
    Calls Tryz.prog 57 #[.pointer (some ⟨g, 0, none⟩), I64 b] w fun e w' => ∃ A cap ys col', e = .returned (.slice A ys.length cap) ∧ ys.map LetM.x = (takeD L b 5).1 ∧ Sl w' (fun _ => True) A (letsC ys) ∧ (∀ y ∈ ys, LetIn w' (CB w' col' 0) y ∧ LetSz y) ∧ Ext w w' col col' c ∧ DocC w' col' c g N (takeD L b 5).2 := by
  obtain ⟨X, h1, rfl, rfl, h4⟩ := h
  refine (dTake_any w _ _ X h1 (by omega) b).mono fun e w' hh => ?_
  obtain ⟨A, cap, ys, O', I', X', rfl, i1, i2, i3, i4, i5, i6, i7, i8, i9⟩ := hh
  obtain ⟨col', j1, j2, j3⟩ := doc_step hc i4 i7 i8 i9
  have hl := takeD_len X.L b 5
  rw [← i6, List.length_map, List.length_map] at hl
  exact ⟨A, cap, ys, col', rfl, i1, i2.mono (fun _ _ _ => trivial), fun y hy => ⟨(i3 y hy).1.mono fun k hk _ => j3 k hk, (i3 y hy).2⟩, j1, ⟨X', j2, i5, i6, by omega⟩⟩
theorem vCopy (hc : c ≠ 0) (h : DocC w col c g N L) (hN : N < 90000000) (c' : Nat) (hc' : c' ≠ 0) :
    Calls Tryz.prog 13 #[.pointer (some ⟨g, 0, none⟩)] w fun e w' => ∃ g' col', e = .returned (.pointer (some ⟨g', 0, none⟩)) ∧ Ext w w' col col' c' ∧ DocC w' col' c' g' N L ∧ Nw w w' := by
  obtain ⟨X, h1, rfl, rfl, h4⟩ := h
  refine (dCopy_any w _ _ X h1 (by omega)).mono fun e w' hh => ?_
  obtain ⟨O', I', X', rfl, i1, i2, i4, i5, i6⟩ := hh
  obtain ⟨col', j1, j2, _⟩ := doc_step (col := col) hc' i1 (Nw.on i4) (fun k hk => .inr (i5 k hk)) (fun k hk => .inr (i6 k hk))
  have hl := congrArg List.length i2
  rw [List.length_map, List.length_map] at hl
  exact ⟨X'.g, col', rfl, j1, ⟨X', j2, rfl, i2, by omega⟩, i4⟩
theorem vWaiting (h : DocC w col c g N L) (hN : N < 90000000) (a b : Int) :
    Calls Tryz.prog 59 #[.pointer (some ⟨g, 0, none⟩), I64 a, I64 b] w fun e w' => ∃ A cap ys, e = .returned (.slice A ys.length cap) ∧ ys.map LetM.x = lnk L (a, b) ∧ Sl w' (fun _ => True) A (letsC ys) ∧ (∀ y ∈ ys, LetIn w' (fun _ => True) y) ∧ (∀ y ∈ ys, LetSz y) ∧ Nw w w' := by
  obtain ⟨X, h1, rfl, rfl, h4⟩ := h
  refine (dWaiting_any w _ _ X h1 (by omega) a b).mono fun e w' hh => ?_
  obtain ⟨A, cap, ys, i1, i2, i3, i4, i5, i6, _⟩ := hh
  exact ⟨A, cap, ys, i1, i2, i3.sl.mono fun _ _ _ => trivial, fun y hy => (i4 y hy).mono fun _ _ _ => trivial, i5, i6⟩
end
/-! A net and the document's beside it. -/
theorem NetC.ok {w : World} {col : Nat → Nat} {c g N : Nat} {p : Nm → List LetF} (h : NetC w col c g N p) : ∀ n, (∀ x ∈ p n, letOk x = true) ∧ (p n).length ≤ 40 := by
  obtain ⟨Y, h1, _, rfl, _⟩ := h
  intro n
  cases hf : Y.f n with
  | none => rw [NetM.p_none hf]; exact ⟨fun x hx => (by cases hx), Nat.zero_le _⟩
  | some s =>
    rw [NetM.p_some hf]
    refine ⟨fun x hx => ?_, by rw [List.length_map]; exact (h1.link n s hf).most⟩
    obtain ⟨y, hy, rfl⟩ := List.mem_map.1 hx
    exact ((h1.link n s hf).ok y hy).1
theorem relN_tw {p : Nm → List LetF} {L : List LetF} (h : RelN p L) (hok : ∀ n, ∀ x ∈ p n, letOk x = true) (n : Nm) : RelN (twP p n).1 (twD L n).1 ∧ (twP p n).2 = (twD L n).2 := by
  unfold twP twD
  rw [← h n]
  cases hp : p n with
  | nil => exact ⟨h, rfl⟩
  | cons x l =>
    have hx : letOk x = true := hok n x (by rw [hp]; exact List.mem_cons_self)
    have hn : (x.src, x.dst) = n := relN_on h (by rw [hp]; exact List.mem_cons_self)
    simp only []
    by_cases h40 : 40 ≤ (x :: l).length
    · rw [if_pos h40]
      have e1 : sendP p [x] = (p, 0) := by
        unfold sendP
        rw [List.foldl_cons, List.foldl_nil]
        unfold sendStep
        rw [if_neg]
        rintro ⟨_, h2⟩
        rw [hn] at h2
        simp only [] at h2
        rw [hp] at h2
        omega
      rw [e1]
      exact ⟨h, rfl⟩
    · rw [if_neg h40]
      have e1 : sendP p [x] = (setP p n ((x :: l) ++ [x]), 1) := by
        unfold sendP
        rw [List.foldl_cons, List.foldl_nil]
        unfold sendStep
        rw [if_pos ⟨hx, by rw [hn]; simp only []; rw [hp]; omega⟩, hn]
        refine congrArg (fun f => (f, 0 + 1)) ?_
        funext m
        unfold setP
        by_cases e : m = n
        · rw [if_pos e, if_pos e, e]; simp only []; rw [hp]
        · rw [if_neg e, if_neg e]
      rw [e1]
      refine ⟨relN_set h n _ (fun y hy => ?_), rfl⟩
      rcases List.mem_append.1 hy with hy | hy
      · exact relN_on h (by rw [hp]; exact hy)
      · rw [List.mem_singleton.1 hy]; exact hn
theorem relN_fw {p : Nm → List LetF} {L : List LetF} (h : RelN p L) (n : Nm) : RelN (fwP p n).1 (fwD L n).1 ∧ (fwP p n).2 = (fwD L n).2 := by
  unfold fwP fwD
  rw [← h n]
  cases hp : (p n).getLast? with
  | none => exact ⟨h, rfl⟩
  | some x =>
    obtain ⟨ys, hy⟩ := List.getLast?_eq_some_iff.1 hp
    refine ⟨relN_set h n _ (fun y hy2 => relN_on h (n := n) ?_), rfl⟩
    rw [hy] at hy2 ⊢
    rw [List.dropLast_concat] at hy2
    rcases List.mem_cons.1 hy2 with rfl | hy2
    · simp
    · exact List.mem_append_left _ hy2
/-- A net in colour cn, the document's in colour cd: they say the same. -/
def Duo (w : World) (col : Nat → Nat) (cn cd gn gd N : Nat) : Prop := ∃ p L, NetC w col cn gn N p ∧ DocC w col cd gd N L ∧ RelN p L
section
variable {D : Nat → Prop} {w w' : World} {col col' : Nat → Nat} {cn cd gn gd N M : Nat}
theorem Duo.exts (h : Duo w col cn cd gn gd N) (e : ExtS D w w' col col') (h1 : cn ≠ 0) (h2 : cd ≠ 0) (h3 : ¬ D cn) (h4 : ¬ D cd) (h0 : ¬ D 0) : Duo w' col' cn cd gn gd N := by
  obtain ⟨p, L, a, b, c⟩ := h
  exact ⟨p, L, a.exts e h1 h3 h0, b.exts e h2 h4 h0, c⟩
theorem Duo.nw (h : Duo w col cn cd gn gd N) (q : Nw w w') (h1 : cn ≠ 0) (h2 : cd ≠ 0) : Duo w' col cn cd gn gd N :=
  h.exts (ExtS.nw q col (fun _ => False)) h1 h2 (fun h => h) (fun h => h) (fun h => h)
theorem Duo.more (h : Duo w col cn cd gn gd N) (hN : N ≤ M) : Duo w col cn cd gn gd M := by
  obtain ⟨p, L, a, b, c⟩ := h
  exact ⟨p, L, a.more hN, b.more hN, c⟩
end
end Go.Proofs.YtippdjaakcgeoaaGreat

namespace Go.Proofs.YtippdjaakcgeoaaGreat
open Go Go.RowKit
set_option linter.unusedVariables false
set_option linter.unusedSimpArgs false
def SameIR (w : World) (xs ys : List Int) (i : Value) (wr : World) : Prop := ∃ k : Nat, i = .int .i64 k ∧ k ≤ xs.length ∧ xs.take k = ys.take k ∧ Nw w wr
set_option maxRecDepth 100000 in
theorem same_ints (w : World) (F1 F2 : Nat → Prop) (A1 A2 : Option Addr) (c1 c2 : Nat) (xs ys : List Int) (h1 : Sl w F1 A1 (intsC xs)) (h2 : Sl w F2 A2 (intsC ys)) (hm1 : xs.length ≤ 1000000000000) :
    Calls Tryz.prog 209 #[.slice A1 xs.length c1, .slice A2 ys.length c2] w fun e w' => e = .returned (.bool (decide (xs = ys))) ∧ Nw w w' := by
  by_cases hl : xs.length = ys.length
  · have hlen : ((xs.length : Int) != (ys.length : Int)) = false := by simp [hl]
    have HL := Lib.hid hl
    clear hl
    go_enter Tryz.func209, Tryz.ntmps209
    go_wp2
    go_loopw [5] (fun i wr => SameIR w xs ys i wr) (fun i _ => xs.length - (intOf i).toNat)
    case atStart => exact ⟨0, rfl, Nat.zero_le _, rfl, Fr.refl _ _⟩
    case round =>
      obtain ⟨k, rfl, hk, ht, hq⟩ := hrel
      have HT := Lib.hid ht
      clear ht
      by_cases hlt : k < xs.length
      · have hlt2 : k < ys.length := by have := HL.out; omega
        obtain ⟨b1, o1, rfl, _, hc1⟩ := (h1.fr hq (fun _ _ h => h)).get hlt
        obtain ⟨b2, o2, rfl, _, hc2⟩ := (h2.fr hq (fun _ _ h => h)).get hlt2
        have hi1 : (k : Int) < (xs.length : Int) := by omega
        have hi2 : (k : Int) < (ys.length : Int) := by omega
        go_wp2
        go_quiet (fail)
        by_cases heq : (xs[k] != ys[k]) = false
        rotate_left
        · have hne : (xs[k] != ys[k]) = true := by simpa using heq
          clear heq
          go_wp2
          go_ret
          refine ⟨ret_eq (congrArg Value.bool (decide_eq_false ?_).symm), hq.drewN _⟩
          rintro rfl
          simp at hne
        · go_wp2
          go_roundw
          case rel =>
            refine ⟨k + 1, by go_num, by omega, ?_, hq.drewN _⟩
            rw [List.take_succ_eq_append_getElem hlt, List.take_succ_eq_append_getElem hlt2, HT.out]
            congr 2
            simpa using heq
          case measure => simp [intOf]; omega
      · go_wp2
        go_ret
        have hx : xs = ys := by
          have := HT.out
          rwa [List.take_of_length_le (by omega), List.take_of_length_le (by have := HL.out; omega)] at this
        exact ⟨ret_eq (congrArg Value.bool (decide_eq_true hx).symm), hq⟩
  · have hlen : ((xs.length : Int) != (ys.length : Int)) = true := by simp; omega
    go_enter Tryz.func209, Tryz.ntmps209
    go_wp2
    go_ret
    exact ⟨ret_eq (congrArg Value.bool (decide_eq_false fun h => hl (by rw [h])).symm), Fr.refl _ _⟩
theorem cfg_eq (x y : CfgM) : decide (x.x = y.x) = (decide (x.v.l = y.v.l) && (decide (x.o.l = y.o.l) && (decide (x.l.l = y.l.l) && decide (x.w.l = y.w.l)))) := by
  rw [Bool.eq_iff_iff]
  simp only [decide_eq_true_eq, Bool.and_eq_true, Cfg.mk.injEq]
theorem ent_eq (x y : EntM) : decide (x.x = y.x) = (decide (x.term = y.term) && (decide (x.kind = y.kind) && (decide (x.cmd.l = y.cmd.l) && decide (x.cfg.x = y.cfg.x)))) := by
  rw [Bool.eq_iff_iff]
  simp only [decide_eq_true_eq, Bool.and_eq_true, Ent.mk.injEq]
theorem bas_eq (x y : BasM) : decide (x.x = y.x) = (decide (x.index = y.index) && (decide (x.term = y.term) && decide (x.cfg.x = y.cfg.x))) := by
  rw [Bool.eq_iff_iff]
  simp only [decide_eq_true_eq, Bool.and_eq_true, Bas.mk.injEq]
set_option maxRecDepth 100000 in
set_option maxHeartbeats 4000000 in
theorem same_cfg (w : World) (F1 F2 : Nat → Prop) (x y : CfgM) (hx : CfgIn w F1 x) (hy : CfgIn w F2 y) (hz : CfgSz x) :
    Calls Tryz.prog 159 #[.agg (cfgA x), .agg (cfgA y)] w fun e w' => e = .returned (.bool (decide (x.x = y.x))) ∧ Nw w w' := by
  rw [cfg_eq]
  obtain ⟨W0, hW0⟩ : ∃ W, W = w.alloc (.cells #[.slice x.v.a x.v.l.length x.v.c, .slice x.o.a x.o.l.length x.o.c, .slice x.l.a x.l.l.length x.l.c, .slice x.w.a x.w.l.length x.w.c] 45) := ⟨_, rfl⟩
  have p0 : Nw w W0 := by rw [hW0]; exact (Fr.refl (fun _ => False) _).alloc _
  have b0 : Blk W0 w.heap.size 45 #[.slice x.v.a x.v.l.length x.v.c, .slice x.o.a x.o.l.length x.o.c, .slice x.l.a x.l.l.length x.l.c, .slice x.w.a x.w.l.length x.w.c] := by rw [hW0]; exact Blk.new _ _ _
  have hz1 : W0.heap.size = w.heap.size + 1 := by rw [hW0]; simp
  obtain ⟨W1, hW1⟩ : ∃ W, W = W0.alloc (.cells #[.slice y.v.a y.v.l.length y.v.c, .slice y.o.a y.o.l.length y.o.c, .slice y.l.a y.l.l.length y.l.c, .slice y.w.a y.w.l.length y.w.c] 45) := ⟨_, rfl⟩
  have p1 : Nw W0 W1 := by rw [hW1]; exact (Fr.refl (fun _ => False) _).alloc _
  have b1 : Blk W1 (w.heap.size + 1) 45 #[.slice y.v.a y.v.l.length y.v.c, .slice y.o.a y.o.l.length y.o.c, .slice y.l.a y.l.l.length y.l.c, .slice y.w.a y.w.l.length y.w.c] := by rw [hW1, ← hz1]; exact Blk.new _ _ _
  have Q0 : Nw w W1 := p0.tr p1
  have b0 := b0.fr p1 (fun h => h)
  have z1 : ∀ m : Later W1, Calls Tryz.prog 209 #[.slice x.v.a x.v.l.length x.v.c, .slice y.v.a y.v.l.length y.v.c] m.at_ fun e w' => e = .returned (.bool (decide (x.v.l = y.v.l))) ∧ Nw m.at_ w' := fun m => by
    have f := Q0.tr m.nw
    exact same_ints _ F1 F2 _ _ _ _ _ _ (hx.v.sl.fr f (fun _ _ h => h)) (hy.v.sl.fr f (fun _ _ h => h)) (by have := hz.v; omega)
  obtain ⟨d1, e1⟩ : ∃ d, (decide (x.v.l = y.v.l)) = d := ⟨_, rfl⟩
  simp only [e1] at z1 ⊢
  have z2 : ∀ m : Later W1, Calls Tryz.prog 209 #[.slice x.o.a x.o.l.length x.o.c, .slice y.o.a y.o.l.length y.o.c] m.at_ fun e w' => e = .returned (.bool (decide (x.o.l = y.o.l))) ∧ Nw m.at_ w' := fun m => by
    have f := Q0.tr m.nw
    exact same_ints _ F1 F2 _ _ _ _ _ _ (hx.o.sl.fr f (fun _ _ h => h)) (hy.o.sl.fr f (fun _ _ h => h)) (by have := hz.o; omega)
  obtain ⟨d2, e2⟩ : ∃ d, (decide (x.o.l = y.o.l)) = d := ⟨_, rfl⟩
  simp only [e2] at z2 ⊢
  have z3 : ∀ m : Later W1, Calls Tryz.prog 209 #[.slice x.l.a x.l.l.length x.l.c, .slice y.l.a y.l.l.length y.l.c] m.at_ fun e w' => e = .returned (.bool (decide (x.l.l = y.l.l))) ∧ Nw m.at_ w' := fun m => by
    have f := Q0.tr m.nw
    exact same_ints _ F1 F2 _ _ _ _ _ _ (hx.l.sl.fr f (fun _ _ h => h)) (hy.l.sl.fr f (fun _ _ h => h)) (by have := hz.l; omega)
  obtain ⟨d3, e3⟩ : ∃ d, (decide (x.l.l = y.l.l)) = d := ⟨_, rfl⟩
  simp only [e3] at z3 ⊢
  have z4 : ∀ m : Later W1, Calls Tryz.prog 209 #[.slice x.w.a x.w.l.length x.w.c, .slice y.w.a y.w.l.length y.w.c] m.at_ fun e w' => e = .returned (.bool (decide (x.w.l = y.w.l))) ∧ Nw m.at_ w' := fun m => by
    have f := Q0.tr m.nw
    exact same_ints _ F1 F2 _ _ _ _ _ _ (hx.w.sl.fr f (fun _ _ h => h)) (hy.w.sl.fr f (fun _ _ h => h)) (by have := hz.w; omega)
  obtain ⟨d4, e4⟩ : ∃ d, (decide (x.w.l = y.w.l)) = d := ⟨_, rfl⟩
  simp only [e4] at z4 ⊢
  have hS : ∀ w1, Nw W1 w1 → w1.cell? ⟨w.heap.size, 0, none⟩ = some (.slice x.v.a x.v.l.length x.v.c) ∧ w1.cell? ⟨w.heap.size, 1, none⟩ = some (.slice x.o.a x.o.l.length x.o.c) ∧ w1.cell? ⟨w.heap.size, 2, none⟩ = some (.slice x.l.a x.l.l.length x.l.c) ∧ w1.cell? ⟨w.heap.size, 3, none⟩ = some (.slice x.w.a x.w.l.length x.w.c) ∧ w1.cell? ⟨(w.heap.size + 1), 0, none⟩ = some (.slice y.v.a y.v.l.length y.v.c) ∧ w1.cell? ⟨(w.heap.size + 1), 1, none⟩ = some (.slice y.o.a y.o.l.length y.o.c) ∧ w1.cell? ⟨(w.heap.size + 1), 2, none⟩ = some (.slice y.l.a y.l.l.length y.l.c) ∧ w1.cell? ⟨(w.heap.size + 1), 3, none⟩ = some (.slice y.w.a y.w.l.length y.w.c) := fun w1 f => by
    have a0 := b0.fr f (fun h => h)
    have a1 := b1.fr f (fun h => h)
    exact ⟨by simpa using a0.cell 0, by simpa using a0.cell 1, by simpa using a0.cell 2, by simpa using a0.cell 3, by simpa using a1.cell 0, by simpa using a1.cell 1, by simpa using a1.cell 2, by simpa using a1.cell 3⟩
  have HW0 := Lib.hid hW0
  have HW1 := Lib.hid hW1
  clear hW0 b0 hW1 b1 e1 e2 e3 e4
  cases d1 with
  | false =>
    go_enter Tryz.func159, Tryz.ntmps159
    go_upto_region 1 with (fail)
    rw [← HW0.out, ← HW1.out]
    obtain ⟨k0_0_0, k0_0_1, k0_0_2, k0_0_3, k0_1_0, k0_1_1, k0_1_2, k0_1_3⟩ := hS W1 (Fr.refl _ _)
    go_wp2_with fail
    refine (z1 ⟨_, (Fr.refl (fun _ => False) W1)⟩).mono ?_
    rintro e v1 ⟨rfl, r1⟩
    have Q1 : Nw W1 v1 := (Fr.refl (fun _ => False) W1).tr r1
    obtain ⟨k1_0_0, k1_0_1, k1_0_2, k1_0_3, k1_1_0, k1_1_1, k1_1_2, k1_1_3⟩ := hS v1 Q1
    go_wp2_with fail
    go_ret
    exact ⟨rfl, Q0.tr Q1⟩
  | true =>
  cases d2 with
  | false =>
    go_enter Tryz.func159, Tryz.ntmps159
    go_upto_region 1 with (fail)
    rw [← HW0.out, ← HW1.out]
    obtain ⟨k0_0_0, k0_0_1, k0_0_2, k0_0_3, k0_1_0, k0_1_1, k0_1_2, k0_1_3⟩ := hS W1 (Fr.refl _ _)
    go_wp2_with fail
    refine (z1 ⟨_, (Fr.refl (fun _ => False) W1)⟩).mono ?_
    rintro e v1 ⟨rfl, r1⟩
    have Q1 : Nw W1 v1 := (Fr.refl (fun _ => False) W1).tr r1
    obtain ⟨k1_0_0, k1_0_1, k1_0_2, k1_0_3, k1_1_0, k1_1_1, k1_1_2, k1_1_3⟩ := hS v1 Q1
    go_wp2_with fail
    refine (z2 ⟨_, Q1⟩).mono ?_
    rintro e v2 ⟨rfl, r2⟩
    have Q2 : Nw W1 v2 := Q1.tr r2
    obtain ⟨k2_0_0, k2_0_1, k2_0_2, k2_0_3, k2_1_0, k2_1_1, k2_1_2, k2_1_3⟩ := hS v2 Q2
    go_wp2_with fail
    go_ret
    exact ⟨rfl, Q0.tr Q2⟩
  | true =>
  cases d3 with
  | false =>
    go_enter Tryz.func159, Tryz.ntmps159
    go_upto_region 1 with (fail)
    rw [← HW0.out, ← HW1.out]
    obtain ⟨k0_0_0, k0_0_1, k0_0_2, k0_0_3, k0_1_0, k0_1_1, k0_1_2, k0_1_3⟩ := hS W1 (Fr.refl _ _)
    go_wp2_with fail
    refine (z1 ⟨_, (Fr.refl (fun _ => False) W1)⟩).mono ?_
    rintro e v1 ⟨rfl, r1⟩
    have Q1 : Nw W1 v1 := (Fr.refl (fun _ => False) W1).tr r1
    obtain ⟨k1_0_0, k1_0_1, k1_0_2, k1_0_3, k1_1_0, k1_1_1, k1_1_2, k1_1_3⟩ := hS v1 Q1
    go_wp2_with fail
    refine (z2 ⟨_, Q1⟩).mono ?_
    rintro e v2 ⟨rfl, r2⟩
    have Q2 : Nw W1 v2 := Q1.tr r2
    obtain ⟨k2_0_0, k2_0_1, k2_0_2, k2_0_3, k2_1_0, k2_1_1, k2_1_2, k2_1_3⟩ := hS v2 Q2
    go_wp2_with fail
    refine (z3 ⟨_, Q2⟩).mono ?_
    rintro e v3 ⟨rfl, r3⟩
    have Q3 : Nw W1 v3 := Q2.tr r3
    obtain ⟨k3_0_0, k3_0_1, k3_0_2, k3_0_3, k3_1_0, k3_1_1, k3_1_2, k3_1_3⟩ := hS v3 Q3
    go_wp2_with fail
    go_ret
    exact ⟨rfl, Q0.tr Q3⟩
  | true =>
  cases d4 with
  | false =>
    go_enter Tryz.func159, Tryz.ntmps159
    go_upto_region 1 with (fail)
    rw [← HW0.out, ← HW1.out]
    obtain ⟨k0_0_0, k0_0_1, k0_0_2, k0_0_3, k0_1_0, k0_1_1, k0_1_2, k0_1_3⟩ := hS W1 (Fr.refl _ _)
    go_wp2_with fail
    refine (z1 ⟨_, (Fr.refl (fun _ => False) W1)⟩).mono ?_
    rintro e v1 ⟨rfl, r1⟩
    have Q1 : Nw W1 v1 := (Fr.refl (fun _ => False) W1).tr r1
    obtain ⟨k1_0_0, k1_0_1, k1_0_2, k1_0_3, k1_1_0, k1_1_1, k1_1_2, k1_1_3⟩ := hS v1 Q1
    go_wp2_with fail
    refine (z2 ⟨_, Q1⟩).mono ?_
    rintro e v2 ⟨rfl, r2⟩
    have Q2 : Nw W1 v2 := Q1.tr r2
    obtain ⟨k2_0_0, k2_0_1, k2_0_2, k2_0_3, k2_1_0, k2_1_1, k2_1_2, k2_1_3⟩ := hS v2 Q2
    go_wp2_with fail
    refine (z3 ⟨_, Q2⟩).mono ?_
    rintro e v3 ⟨rfl, r3⟩
    have Q3 : Nw W1 v3 := Q2.tr r3
    obtain ⟨k3_0_0, k3_0_1, k3_0_2, k3_0_3, k3_1_0, k3_1_1, k3_1_2, k3_1_3⟩ := hS v3 Q3
    go_wp2_with fail
    refine (z4 ⟨_, Q3⟩).mono ?_
    rintro e v4 ⟨rfl, r4⟩
    have Q4 : Nw W1 v4 := Q3.tr r4
    obtain ⟨k4_0_0, k4_0_1, k4_0_2, k4_0_3, k4_1_0, k4_1_1, k4_1_2, k4_1_3⟩ := hS v4 Q4
    go_wp2_with fail
    go_ret
    exact ⟨rfl, Q0.tr Q4⟩
  | true =>
  go_enter Tryz.func159, Tryz.ntmps159
  go_upto_region 1 with (fail)
  rw [← HW0.out, ← HW1.out]
  obtain ⟨k0_0_0, k0_0_1, k0_0_2, k0_0_3, k0_1_0, k0_1_1, k0_1_2, k0_1_3⟩ := hS W1 (Fr.refl _ _)
  go_wp2_with fail
  refine (z1 ⟨_, (Fr.refl (fun _ => False) W1)⟩).mono ?_
  rintro e v1 ⟨rfl, r1⟩
  have Q1 : Nw W1 v1 := (Fr.refl (fun _ => False) W1).tr r1
  obtain ⟨k1_0_0, k1_0_1, k1_0_2, k1_0_3, k1_1_0, k1_1_1, k1_1_2, k1_1_3⟩ := hS v1 Q1
  go_wp2_with fail
  refine (z2 ⟨_, Q1⟩).mono ?_
  rintro e v2 ⟨rfl, r2⟩
  have Q2 : Nw W1 v2 := Q1.tr r2
  obtain ⟨k2_0_0, k2_0_1, k2_0_2, k2_0_3, k2_1_0, k2_1_1, k2_1_2, k2_1_3⟩ := hS v2 Q2
  go_wp2_with fail
  refine (z3 ⟨_, Q2⟩).mono ?_
  rintro e v3 ⟨rfl, r3⟩
  have Q3 : Nw W1 v3 := Q2.tr r3
  obtain ⟨k3_0_0, k3_0_1, k3_0_2, k3_0_3, k3_1_0, k3_1_1, k3_1_2, k3_1_3⟩ := hS v3 Q3
  go_wp2_with fail
  refine (z4 ⟨_, Q3⟩).mono ?_
  rintro e v4 ⟨rfl, r4⟩
  have Q4 : Nw W1 v4 := Q3.tr r4
  obtain ⟨k4_0_0, k4_0_1, k4_0_2, k4_0_3, k4_1_0, k4_1_1, k4_1_2, k4_1_3⟩ := hS v4 Q4
  go_wp2_with fail
  go_ret
  exact ⟨rfl, Q0.tr Q4⟩
set_option maxRecDepth 100000 in
set_option maxHeartbeats 4000000 in
theorem same_ent (w : World) (F1 F2 : Nat → Prop) (x y : EntM) (hx : EntIn w F1 x) (hy : EntIn w F2 y) (hz : EntSz x) :
    Calls Tryz.prog 158 #[.agg (entA x), .agg (entA y)] w fun e w' => e = .returned (.bool (decide (x.x = y.x))) ∧ Nw w w' := by
  rw [ent_eq]
  obtain ⟨W0, hW0⟩ : ∃ W, W = w.alloc (.cells #[I64 x.term, U8V x.kind, .slice x.cmd.a x.cmd.l.length x.cmd.c, .slice x.cfg.v.a x.cfg.v.l.length x.cfg.v.c, .slice x.cfg.o.a x.cfg.o.l.length x.cfg.o.c, .slice x.cfg.l.a x.cfg.l.l.length x.cfg.l.c, .slice x.cfg.w.a x.cfg.w.l.length x.cfg.w.c] 87) := ⟨_, rfl⟩
  have p0 : Nw w W0 := by rw [hW0]; exact (Fr.refl (fun _ => False) _).alloc _
  have b0 : Blk W0 w.heap.size 87 #[I64 x.term, U8V x.kind, .slice x.cmd.a x.cmd.l.length x.cmd.c, .slice x.cfg.v.a x.cfg.v.l.length x.cfg.v.c, .slice x.cfg.o.a x.cfg.o.l.length x.cfg.o.c, .slice x.cfg.l.a x.cfg.l.l.length x.cfg.l.c, .slice x.cfg.w.a x.cfg.w.l.length x.cfg.w.c] := by rw [hW0]; exact Blk.new _ _ _
  have hz1 : W0.heap.size = w.heap.size + 1 := by rw [hW0]; simp
  obtain ⟨W1, hW1⟩ : ∃ W, W = W0.alloc (.cells #[I64 y.term, U8V y.kind, .slice y.cmd.a y.cmd.l.length y.cmd.c, .slice y.cfg.v.a y.cfg.v.l.length y.cfg.v.c, .slice y.cfg.o.a y.cfg.o.l.length y.cfg.o.c, .slice y.cfg.l.a y.cfg.l.l.length y.cfg.l.c, .slice y.cfg.w.a y.cfg.w.l.length y.cfg.w.c] 87) := ⟨_, rfl⟩
  have p1 : Nw W0 W1 := by rw [hW1]; exact (Fr.refl (fun _ => False) _).alloc _
  have b1 : Blk W1 (w.heap.size + 1) 87 #[I64 y.term, U8V y.kind, .slice y.cmd.a y.cmd.l.length y.cmd.c, .slice y.cfg.v.a y.cfg.v.l.length y.cfg.v.c, .slice y.cfg.o.a y.cfg.o.l.length y.cfg.o.c, .slice y.cfg.l.a y.cfg.l.l.length y.cfg.l.c, .slice y.cfg.w.a y.cfg.w.l.length y.cfg.w.c] := by rw [hW1, ← hz1]; exact Blk.new _ _ _
  have Q0 : Nw w W1 := p0.tr p1
  have b0 := b0.fr p1 (fun h => h)
  have z1 : (x.term == y.term) = (decide (x.term = y.term)) := rfl
  obtain ⟨d1, e1⟩ : ∃ d, (decide (x.term = y.term)) = d := ⟨_, rfl⟩
  simp only [e1] at z1 ⊢
  have z2 : (x.kind == y.kind) = (decide (x.kind = y.kind)) := rfl
  obtain ⟨d2, e2⟩ : ∃ d, (decide (x.kind = y.kind)) = d := ⟨_, rfl⟩
  simp only [e2] at z2 ⊢
  have z3 : ∀ m : Later W1, Calls Tryz.prog 34 #[.slice x.cmd.a x.cmd.l.length x.cmd.c, .slice y.cmd.a y.cmd.l.length y.cmd.c] m.at_ fun e w' => e = .returned (.bool (decide (x.cmd.l = y.cmd.l))) ∧ Nw m.at_ w' := fun m => by
    have f := Q0.tr m.nw
    exact (same_u8 _ F1 F2 _ _ _ _ _ _ (hx.cmd.sl.fr f (fun _ _ h => h)) (hy.cmd.sl.fr f (fun _ _ h => h)) (by have := hz.cmd; omega)).mono fun e w' h => ⟨h.1, h.2.fr _⟩
  obtain ⟨d3, e3⟩ : ∃ d, (decide (x.cmd.l = y.cmd.l)) = d := ⟨_, rfl⟩
  simp only [e3] at z3 ⊢
  have z4 : ∀ m : Later W1, Calls Tryz.prog 159 #[.agg #[.slice x.cfg.v.a x.cfg.v.l.length x.cfg.v.c, .slice x.cfg.o.a x.cfg.o.l.length x.cfg.o.c, .slice x.cfg.l.a x.cfg.l.l.length x.cfg.l.c, .slice x.cfg.w.a x.cfg.w.l.length x.cfg.w.c], .agg #[.slice y.cfg.v.a y.cfg.v.l.length y.cfg.v.c, .slice y.cfg.o.a y.cfg.o.l.length y.cfg.o.c, .slice y.cfg.l.a y.cfg.l.l.length y.cfg.l.c, .slice y.cfg.w.a y.cfg.w.l.length y.cfg.w.c]] m.at_ fun e w' => e = .returned (.bool (decide (x.cfg.x = y.cfg.x))) ∧ Nw m.at_ w' := fun m => by
    have f := Q0.tr m.nw
    exact same_cfg _ F1 F2 _ _ (hx.cfg.nw f) (hy.cfg.nw f) hz.cfg
  obtain ⟨d4, e4⟩ : ∃ d, (decide (x.cfg.x = y.cfg.x)) = d := ⟨_, rfl⟩
  simp only [e4] at z4 ⊢
  have hS : ∀ w1, Nw W1 w1 → w1.cell? ⟨w.heap.size, 0, none⟩ = some (I64 x.term) ∧ w1.cell? ⟨w.heap.size, 1, none⟩ = some (U8V x.kind) ∧ w1.cell? ⟨w.heap.size, 2, none⟩ = some (.slice x.cmd.a x.cmd.l.length x.cmd.c) ∧ w1.cell? ⟨w.heap.size, 3, none⟩ = some (.slice x.cfg.v.a x.cfg.v.l.length x.cfg.v.c) ∧ w1.cell? ⟨w.heap.size, 4, none⟩ = some (.slice x.cfg.o.a x.cfg.o.l.length x.cfg.o.c) ∧ w1.cell? ⟨w.heap.size, 5, none⟩ = some (.slice x.cfg.l.a x.cfg.l.l.length x.cfg.l.c) ∧ w1.cell? ⟨w.heap.size, 6, none⟩ = some (.slice x.cfg.w.a x.cfg.w.l.length x.cfg.w.c) ∧ w1.cell? ⟨(w.heap.size + 1), 0, none⟩ = some (I64 y.term) ∧ w1.cell? ⟨(w.heap.size + 1), 1, none⟩ = some (U8V y.kind) ∧ w1.cell? ⟨(w.heap.size + 1), 2, none⟩ = some (.slice y.cmd.a y.cmd.l.length y.cmd.c) ∧ w1.cell? ⟨(w.heap.size + 1), 3, none⟩ = some (.slice y.cfg.v.a y.cfg.v.l.length y.cfg.v.c) ∧ w1.cell? ⟨(w.heap.size + 1), 4, none⟩ = some (.slice y.cfg.o.a y.cfg.o.l.length y.cfg.o.c) ∧ w1.cell? ⟨(w.heap.size + 1), 5, none⟩ = some (.slice y.cfg.l.a y.cfg.l.l.length y.cfg.l.c) ∧ w1.cell? ⟨(w.heap.size + 1), 6, none⟩ = some (.slice y.cfg.w.a y.cfg.w.l.length y.cfg.w.c) := fun w1 f => by
    have a0 := b0.fr f (fun h => h)
    have a1 := b1.fr f (fun h => h)
    exact ⟨by simpa using a0.cell 0, by simpa using a0.cell 1, by simpa using a0.cell 2, by simpa using a0.cell 3, by simpa using a0.cell 4, by simpa using a0.cell 5, by simpa using a0.cell 6, by simpa using a1.cell 0, by simpa using a1.cell 1, by simpa using a1.cell 2, by simpa using a1.cell 3, by simpa using a1.cell 4, by simpa using a1.cell 5, by simpa using a1.cell 6⟩
  have HW0 := Lib.hid hW0
  have HW1 := Lib.hid hW1
  clear hW0 b0 hW1 b1 e1 e2 e3 e4
  cases d1 with
  | false =>
    go_enter Tryz.func158, Tryz.ntmps158
    go_upto_region 1 with (fail)
    rw [← HW0.out, ← HW1.out]
    obtain ⟨k0_0_0, k0_0_1, k0_0_2, k0_0_3, k0_0_4, k0_0_5, k0_0_6, k0_1_0, k0_1_1, k0_1_2, k0_1_3, k0_1_4, k0_1_5, k0_1_6⟩ := hS W1 (Fr.refl _ _)
    go_wp2_with fail
    go_ret
    exact ⟨rfl, Q0.tr (Fr.refl (fun _ => False) W1)⟩
  | true =>
  cases d2 with
  | false =>
    go_enter Tryz.func158, Tryz.ntmps158
    go_upto_region 1 with (fail)
    rw [← HW0.out, ← HW1.out]
    obtain ⟨k0_0_0, k0_0_1, k0_0_2, k0_0_3, k0_0_4, k0_0_5, k0_0_6, k0_1_0, k0_1_1, k0_1_2, k0_1_3, k0_1_4, k0_1_5, k0_1_6⟩ := hS W1 (Fr.refl _ _)
    go_wp2_with fail
    go_ret
    exact ⟨rfl, Q0.tr (Fr.refl (fun _ => False) W1)⟩
  | true =>
  cases d3 with
  | false =>
    go_enter Tryz.func158, Tryz.ntmps158
    go_upto_region 1 with (fail)
    rw [← HW0.out, ← HW1.out]
    obtain ⟨k0_0_0, k0_0_1, k0_0_2, k0_0_3, k0_0_4, k0_0_5, k0_0_6, k0_1_0, k0_1_1, k0_1_2, k0_1_3, k0_1_4, k0_1_5, k0_1_6⟩ := hS W1 (Fr.refl _ _)
    go_wp2_with fail
    refine (z3 ⟨_, (Fr.refl (fun _ => False) W1)⟩).mono ?_
    rintro e v1 ⟨rfl, r1⟩
    have Q1 : Nw W1 v1 := (Fr.refl (fun _ => False) W1).tr r1
    obtain ⟨k1_0_0, k1_0_1, k1_0_2, k1_0_3, k1_0_4, k1_0_5, k1_0_6, k1_1_0, k1_1_1, k1_1_2, k1_1_3, k1_1_4, k1_1_5, k1_1_6⟩ := hS v1 Q1
    go_wp2_with fail
    go_ret
    exact ⟨rfl, Q0.tr Q1⟩
  | true =>
  cases d4 with
  | false =>
    go_enter Tryz.func158, Tryz.ntmps158
    go_upto_region 1 with (fail)
    rw [← HW0.out, ← HW1.out]
    obtain ⟨k0_0_0, k0_0_1, k0_0_2, k0_0_3, k0_0_4, k0_0_5, k0_0_6, k0_1_0, k0_1_1, k0_1_2, k0_1_3, k0_1_4, k0_1_5, k0_1_6⟩ := hS W1 (Fr.refl _ _)
    go_wp2_with fail
    refine (z3 ⟨_, (Fr.refl (fun _ => False) W1)⟩).mono ?_
    rintro e v1 ⟨rfl, r1⟩
    have Q1 : Nw W1 v1 := (Fr.refl (fun _ => False) W1).tr r1
    obtain ⟨k1_0_0, k1_0_1, k1_0_2, k1_0_3, k1_0_4, k1_0_5, k1_0_6, k1_1_0, k1_1_1, k1_1_2, k1_1_3, k1_1_4, k1_1_5, k1_1_6⟩ := hS v1 Q1
    go_wp2_with fail
    refine (z4 ⟨_, Q1⟩).mono ?_
    rintro e v2 ⟨rfl, r2⟩
    have Q2 : Nw W1 v2 := Q1.tr r2
    obtain ⟨k2_0_0, k2_0_1, k2_0_2, k2_0_3, k2_0_4, k2_0_5, k2_0_6, k2_1_0, k2_1_1, k2_1_2, k2_1_3, k2_1_4, k2_1_5, k2_1_6⟩ := hS v2 Q2
    go_wp2_with fail
    go_ret
    exact ⟨rfl, Q0.tr Q2⟩
  | true =>
  go_enter Tryz.func158, Tryz.ntmps158
  go_upto_region 1 with (fail)
  rw [← HW0.out, ← HW1.out]
  obtain ⟨k0_0_0, k0_0_1, k0_0_2, k0_0_3, k0_0_4, k0_0_5, k0_0_6, k0_1_0, k0_1_1, k0_1_2, k0_1_3, k0_1_4, k0_1_5, k0_1_6⟩ := hS W1 (Fr.refl _ _)
  go_wp2_with fail
  refine (z3 ⟨_, (Fr.refl (fun _ => False) W1)⟩).mono ?_
  rintro e v1 ⟨rfl, r1⟩
  have Q1 : Nw W1 v1 := (Fr.refl (fun _ => False) W1).tr r1
  obtain ⟨k1_0_0, k1_0_1, k1_0_2, k1_0_3, k1_0_4, k1_0_5, k1_0_6, k1_1_0, k1_1_1, k1_1_2, k1_1_3, k1_1_4, k1_1_5, k1_1_6⟩ := hS v1 Q1
  go_wp2_with fail
  refine (z4 ⟨_, Q1⟩).mono ?_
  rintro e v2 ⟨rfl, r2⟩
  have Q2 : Nw W1 v2 := Q1.tr r2
  obtain ⟨k2_0_0, k2_0_1, k2_0_2, k2_0_3, k2_0_4, k2_0_5, k2_0_6, k2_1_0, k2_1_1, k2_1_2, k2_1_3, k2_1_4, k2_1_5, k2_1_6⟩ := hS v2 Q2
  go_wp2_with fail
  go_ret
  exact ⟨rfl, Q0.tr Q2⟩
set_option maxRecDepth 100000 in
set_option maxHeartbeats 4000000 in
theorem same_bas (w : World) (F1 F2 : Nat → Prop) (x y : BasM) (hx : CfgIn w F1 x.cfg) (hy : CfgIn w F2 y.cfg) (hz : CfgSz x.cfg) :
    Calls Tryz.prog 89 #[.agg (basA x), .agg (basA y)] w fun e w' => e = .returned (.bool (decide (x.x = y.x))) ∧ Nw w w' := by
  rw [bas_eq]
  obtain ⟨W0, hW0⟩ : ∃ W, W = w.alloc (.cells #[I64 x.index, I64 x.term, .slice x.cfg.v.a x.cfg.v.l.length x.cfg.v.c, .slice x.cfg.o.a x.cfg.o.l.length x.cfg.o.c, .slice x.cfg.l.a x.cfg.l.l.length x.cfg.l.c, .slice x.cfg.w.a x.cfg.w.l.length x.cfg.w.c] 47) := ⟨_, rfl⟩
  have p0 : Nw w W0 := by rw [hW0]; exact (Fr.refl (fun _ => False) _).alloc _
  have b0 : Blk W0 w.heap.size 47 #[I64 x.index, I64 x.term, .slice x.cfg.v.a x.cfg.v.l.length x.cfg.v.c, .slice x.cfg.o.a x.cfg.o.l.length x.cfg.o.c, .slice x.cfg.l.a x.cfg.l.l.length x.cfg.l.c, .slice x.cfg.w.a x.cfg.w.l.length x.cfg.w.c] := by rw [hW0]; exact Blk.new _ _ _
  have hz1 : W0.heap.size = w.heap.size + 1 := by rw [hW0]; simp
  obtain ⟨W1, hW1⟩ : ∃ W, W = W0.alloc (.cells #[I64 y.index, I64 y.term, .slice y.cfg.v.a y.cfg.v.l.length y.cfg.v.c, .slice y.cfg.o.a y.cfg.o.l.length y.cfg.o.c, .slice y.cfg.l.a y.cfg.l.l.length y.cfg.l.c, .slice y.cfg.w.a y.cfg.w.l.length y.cfg.w.c] 47) := ⟨_, rfl⟩
  have p1 : Nw W0 W1 := by rw [hW1]; exact (Fr.refl (fun _ => False) _).alloc _
  have b1 : Blk W1 (w.heap.size + 1) 47 #[I64 y.index, I64 y.term, .slice y.cfg.v.a y.cfg.v.l.length y.cfg.v.c, .slice y.cfg.o.a y.cfg.o.l.length y.cfg.o.c, .slice y.cfg.l.a y.cfg.l.l.length y.cfg.l.c, .slice y.cfg.w.a y.cfg.w.l.length y.cfg.w.c] := by rw [hW1, ← hz1]; exact Blk.new _ _ _
  have Q0 : Nw w W1 := p0.tr p1
  have b0 := b0.fr p1 (fun h => h)
  have z1 : (x.index == y.index) = (decide (x.index = y.index)) := rfl
  obtain ⟨d1, e1⟩ : ∃ d, (decide (x.index = y.index)) = d := ⟨_, rfl⟩
  simp only [e1] at z1 ⊢
  have z2 : (x.term == y.term) = (decide (x.term = y.term)) := rfl
  obtain ⟨d2, e2⟩ : ∃ d, (decide (x.term = y.term)) = d := ⟨_, rfl⟩
  simp only [e2] at z2 ⊢
  have z3 : ∀ m : Later W1, Calls Tryz.prog 159 #[.agg #[.slice x.cfg.v.a x.cfg.v.l.length x.cfg.v.c, .slice x.cfg.o.a x.cfg.o.l.length x.cfg.o.c, .slice x.cfg.l.a x.cfg.l.l.length x.cfg.l.c, .slice x.cfg.w.a x.cfg.w.l.length x.cfg.w.c], .agg #[.slice y.cfg.v.a y.cfg.v.l.length y.cfg.v.c, .slice y.cfg.o.a y.cfg.o.l.length y.cfg.o.c, .slice y.cfg.l.a y.cfg.l.l.length y.cfg.l.c, .slice y.cfg.w.a y.cfg.w.l.length y.cfg.w.c]] m.at_ fun e w' => e = .returned (.bool (decide (x.cfg.x = y.cfg.x))) ∧ Nw m.at_ w' := fun m => by
    have f := Q0.tr m.nw
    exact same_cfg _ F1 F2 _ _ (hx.nw f) (hy.nw f) hz
  obtain ⟨d3, e3⟩ : ∃ d, (decide (x.cfg.x = y.cfg.x)) = d := ⟨_, rfl⟩
  simp only [e3] at z3 ⊢
  have hS : ∀ w1, Nw W1 w1 → w1.cell? ⟨w.heap.size, 0, none⟩ = some (I64 x.index) ∧ w1.cell? ⟨w.heap.size, 1, none⟩ = some (I64 x.term) ∧ w1.cell? ⟨w.heap.size, 2, none⟩ = some (.slice x.cfg.v.a x.cfg.v.l.length x.cfg.v.c) ∧ w1.cell? ⟨w.heap.size, 3, none⟩ = some (.slice x.cfg.o.a x.cfg.o.l.length x.cfg.o.c) ∧ w1.cell? ⟨w.heap.size, 4, none⟩ = some (.slice x.cfg.l.a x.cfg.l.l.length x.cfg.l.c) ∧ w1.cell? ⟨w.heap.size, 5, none⟩ = some (.slice x.cfg.w.a x.cfg.w.l.length x.cfg.w.c) ∧ w1.cell? ⟨(w.heap.size + 1), 0, none⟩ = some (I64 y.index) ∧ w1.cell? ⟨(w.heap.size + 1), 1, none⟩ = some (I64 y.term) ∧ w1.cell? ⟨(w.heap.size + 1), 2, none⟩ = some (.slice y.cfg.v.a y.cfg.v.l.length y.cfg.v.c) ∧ w1.cell? ⟨(w.heap.size + 1), 3, none⟩ = some (.slice y.cfg.o.a y.cfg.o.l.length y.cfg.o.c) ∧ w1.cell? ⟨(w.heap.size + 1), 4, none⟩ = some (.slice y.cfg.l.a y.cfg.l.l.length y.cfg.l.c) ∧ w1.cell? ⟨(w.heap.size + 1), 5, none⟩ = some (.slice y.cfg.w.a y.cfg.w.l.length y.cfg.w.c) := fun w1 f => by
    have a0 := b0.fr f (fun h => h)
    have a1 := b1.fr f (fun h => h)
    exact ⟨by simpa using a0.cell 0, by simpa using a0.cell 1, by simpa using a0.cell 2, by simpa using a0.cell 3, by simpa using a0.cell 4, by simpa using a0.cell 5, by simpa using a1.cell 0, by simpa using a1.cell 1, by simpa using a1.cell 2, by simpa using a1.cell 3, by simpa using a1.cell 4, by simpa using a1.cell 5⟩
  have HW0 := Lib.hid hW0
  have HW1 := Lib.hid hW1
  clear hW0 b0 hW1 b1 e1 e2 e3
  cases d1 with
  | false =>
    go_enter Tryz.func89, Tryz.ntmps89
    go_upto_region 1 with (fail)
    rw [← HW0.out, ← HW1.out]
    obtain ⟨k0_0_0, k0_0_1, k0_0_2, k0_0_3, k0_0_4, k0_0_5, k0_1_0, k0_1_1, k0_1_2, k0_1_3, k0_1_4, k0_1_5⟩ := hS W1 (Fr.refl _ _)
    go_wp2_with fail
    go_ret
    exact ⟨rfl, Q0.tr (Fr.refl (fun _ => False) W1)⟩
  | true =>
  cases d2 with
  | false =>
    go_enter Tryz.func89, Tryz.ntmps89
    go_upto_region 1 with (fail)
    rw [← HW0.out, ← HW1.out]
    obtain ⟨k0_0_0, k0_0_1, k0_0_2, k0_0_3, k0_0_4, k0_0_5, k0_1_0, k0_1_1, k0_1_2, k0_1_3, k0_1_4, k0_1_5⟩ := hS W1 (Fr.refl _ _)
    go_wp2_with fail
    go_ret
    exact ⟨rfl, Q0.tr (Fr.refl (fun _ => False) W1)⟩
  | true =>
  cases d3 with
  | false =>
    go_enter Tryz.func89, Tryz.ntmps89
    go_upto_region 1 with (fail)
    rw [← HW0.out, ← HW1.out]
    obtain ⟨k0_0_0, k0_0_1, k0_0_2, k0_0_3, k0_0_4, k0_0_5, k0_1_0, k0_1_1, k0_1_2, k0_1_3, k0_1_4, k0_1_5⟩ := hS W1 (Fr.refl _ _)
    go_wp2_with fail
    refine (z3 ⟨_, (Fr.refl (fun _ => False) W1)⟩).mono ?_
    rintro e v1 ⟨rfl, r1⟩
    have Q1 : Nw W1 v1 := (Fr.refl (fun _ => False) W1).tr r1
    obtain ⟨k1_0_0, k1_0_1, k1_0_2, k1_0_3, k1_0_4, k1_0_5, k1_1_0, k1_1_1, k1_1_2, k1_1_3, k1_1_4, k1_1_5⟩ := hS v1 Q1
    go_wp2_with fail
    go_ret
    exact ⟨rfl, Q0.tr Q1⟩
  | true =>
  go_enter Tryz.func89, Tryz.ntmps89
  go_upto_region 1 with (fail)
  rw [← HW0.out, ← HW1.out]
  obtain ⟨k0_0_0, k0_0_1, k0_0_2, k0_0_3, k0_0_4, k0_0_5, k0_1_0, k0_1_1, k0_1_2, k0_1_3, k0_1_4, k0_1_5⟩ := hS W1 (Fr.refl _ _)
  go_wp2_with fail
  refine (z3 ⟨_, (Fr.refl (fun _ => False) W1)⟩).mono ?_
  rintro e v1 ⟨rfl, r1⟩
  have Q1 : Nw W1 v1 := (Fr.refl (fun _ => False) W1).tr r1
  obtain ⟨k1_0_0, k1_0_1, k1_0_2, k1_0_3, k1_0_4, k1_0_5, k1_1_0, k1_1_1, k1_1_2, k1_1_3, k1_1_4, k1_1_5⟩ := hS v1 Q1
  go_wp2_with fail
  go_ret
  exact ⟨rfl, Q0.tr Q1⟩
end Go.Proofs.YtippdjaakcgeoaaGreat

namespace Go.Proofs.YtippdjaakcgeoaaGreat
open Go Go.RowKit
set_option linter.unusedVariables false
set_option linter.unusedSimpArgs false
def same_entsR (w : World) (xs ys : List EntM) (i : Value) (wr : World) : Prop := ∃ k : Nat, i = .int .i64 k ∧ k ≤ xs.length ∧ (xs.take k).map EntM.x = (ys.take k).map EntM.x ∧ Nw w wr
set_option maxRecDepth 100000 in
set_option maxHeartbeats 4000000 in
theorem same_ents (w : World) (F1 F2 : Nat → Prop) (A1 A2 : Option Addr) (c1 c2 : Nat) (xs ys : List EntM) (h1 : Sl w F1 A1 (entsC xs)) (h2 : Sl w F2 A2 (entsC ys)) (e1 : ∀ e ∈ xs, EntIn w F1 e) (e2 : ∀ e ∈ ys, EntIn w F2 e) (hz : ∀ e ∈ xs, EntSz e) (hm1 : xs.length ≤ 1000000000000) :
    Calls Tryz.prog 88 #[.slice A1 xs.length c1, .slice A2 ys.length c2] w fun e w' => e = .returned (.bool (decide (xs.map EntM.x = ys.map EntM.x))) ∧ Nw w w' := by
  by_cases hl : xs.length = ys.length
  · have hlen : ((xs.length : Int) != (ys.length : Int)) = false := by simp [hl]
    have HL := Lib.hid hl
    have HZ := Lib.hid hz
    have E1 := Lib.hid e1
    have E2 := Lib.hid e2
    clear hl hz e1 e2
    go_enter Tryz.func88, Tryz.ntmps88
    go_wp2_with fail
    go_loopw [5] (fun i wr => same_entsR w xs ys i wr) (fun i _ => xs.length - (intOf i).toNat)
    case atStart => exact ⟨0, rfl, Nat.zero_le _, rfl, Fr.refl _ _⟩
    case round =>
      obtain ⟨k, rfl, hk, ht, hq⟩ := hrel
      have HT := Lib.hid ht
      clear ht
      by_cases hlt : k < xs.length
      · have hlt2 : k < ys.length := by have := HL.out; omega
        obtain ⟨b1, o1, rfl, _, _, hc1⟩ := (h1.fr hq (fun _ _ h => h)).ent hlt
        obtain ⟨b2, o2, rfl, _, _, hc2⟩ := (h2.fr hq (fun _ _ h => h)).ent hlt2
        have hi1 : (k : Int) < (xs.length : Int) := by omega
        have hi2 : (k : Int) < (ys.length : Int) := by omega
        have x1 := (E1.out _ (List.getElem_mem hlt)).nw hq
        have x2 := (E2.out _ (List.getElem_mem hlt2)).nw hq
        have z1 := HZ.out _ (List.getElem_mem hlt)
        obtain ⟨x, hx⟩ : ∃ x, xs[k] = x := ⟨_, rfl⟩
        obtain ⟨y, hy⟩ : ∃ y, ys[k] = y := ⟨_, rfl⟩
        rw [hx] at x1 z1 hc1
        rw [hy] at x2 hc2
        have hsm : ∀ m : Later wr, Calls Tryz.prog 158 #[.agg #[I64 x.term, U8V x.kind, .slice x.cmd.a x.cmd.l.length x.cmd.c, .slice x.cfg.v.a x.cfg.v.l.length x.cfg.v.c, .slice x.cfg.o.a x.cfg.o.l.length x.cfg.o.c, .slice x.cfg.l.a x.cfg.l.l.length x.cfg.l.c, .slice x.cfg.w.a x.cfg.w.l.length x.cfg.w.c], .agg #[I64 y.term, U8V y.kind, .slice y.cmd.a y.cmd.l.length y.cmd.c, .slice y.cfg.v.a y.cfg.v.l.length y.cfg.v.c, .slice y.cfg.o.a y.cfg.o.l.length y.cfg.o.c, .slice y.cfg.l.a y.cfg.l.l.length y.cfg.l.c, .slice y.cfg.w.a y.cfg.w.l.length y.cfg.w.c]] m.at_ fun e w' => e = .returned (.bool (decide (x.x = y.x))) ∧ Nw m.at_ w' := fun m => same_ent _ F1 F2 x y (x1.nw m.nw) (x2.nw m.nw) z1
        obtain ⟨d, hd⟩ : ∃ d, decide (x.x = y.x) = d := ⟨_, rfl⟩
        simp only [hd] at hsm
        have HD := Lib.hid hd
        have HX := Lib.hid hx
        have HY := Lib.hid hy
        have HSM := Lib.hid hsm
        have hC1 := Later.cells hc1
        have hC2 := Later.cells hc2
        have L1 := Lib.hid hC1
        have L2 := Lib.hid hC2
        clear hc1 hc2 hC1 hC2 hd hx hy hsm x1 x2 z1
        go_wp2_with fail
        refine wp_region_later (by kernel_rfl) (by kernel_rfl) ?_
        repeat (first | (refine quiet_load_cells (by rfl) 87 _ rfl b1 (o1 + k * 7) rfl _ _ L1.out Tryz.underlying87 rfl (by kernel_rfl) ?_; simp only [Act.put, List.setIfInBounds_toArray, List.set_cons_succ, List.set_cons_zero]) | (refine quiet_load_cells (by rfl) 87 _ rfl b2 (o2 + k * 7) rfl _ _ L2.out Tryz.underlying87 rfl (by kernel_rfl) ?_; simp only [Act.put, List.setIfInBounds_toArray, List.set_cons_succ, List.set_cons_zero]) | go_big_quiet_step ((go_at_call 158; exact Later.call (HSM.out _))))
        refine wpQuiet_later fun w5 q5 => ?_
        cases d with
        | false =>
          go_wp2_with fail
          go_ret
          refine ⟨ret_eq (congrArg Value.bool (decide_eq_false fun h => ?_).symm), hq.tr q5⟩
          have h3 := congrArg (fun l => l[k]?) h
          simp only [List.getElem?_map, List.getElem?_eq_getElem hlt, List.getElem?_eq_getElem hlt2, Option.map_some] at h3
          injection h3 with h3
          rw [HX.out, HY.out] at h3
          exact of_decide_eq_false HD.out h3
        | true =>
          go_wp2_with fail
          go_roundw
          case rel =>
            refine ⟨k + 1, by go_num, by omega, ?_, hq.tr q5⟩
            rw [List.take_succ_eq_append_getElem hlt, List.take_succ_eq_append_getElem hlt2, List.map_append, List.map_append, HT.out, HX.out, HY.out]
            congr 1
            rw [List.map_singleton, List.map_singleton, of_decide_eq_true HD.out]
          case measure => simp [intOf]; omega
      · go_wp2_with fail
        go_ret
        have hx : xs.map EntM.x = ys.map EntM.x := by
          have := HT.out
          rwa [List.take_of_length_le (by omega), List.take_of_length_le (by have := HL.out; omega)] at this
        exact ⟨ret_eq (congrArg Value.bool (decide_eq_true hx).symm), hq⟩
  · have hlen : ((xs.length : Int) != (ys.length : Int)) = true := by simp; omega
    go_enter Tryz.func88, Tryz.ntmps88
    go_wp2_with fail
    go_ret
    exact ⟨ret_eq (congrArg Value.bool (decide_eq_false fun h => hl (by have := congrArg List.length h; simpa using this)).symm), Fr.refl _ _⟩
end Go.Proofs.YtippdjaakcgeoaaGreat
