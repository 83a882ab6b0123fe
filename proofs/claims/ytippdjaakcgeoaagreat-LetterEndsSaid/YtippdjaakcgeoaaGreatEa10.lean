/- Lemmas of the walks: BgA, FtA, BgB. (Laid together by shake.py.) -/
import Derived.Deep.DeepCutAuto
import Derived.Test.YtippdjaakcgeoaaGreatEa04
import Derived.Test.YtippdjaakcgeoaaGreatEa06
import Derived.Test.YtippdjaakcgeoaaGreatEa09
set_option linter.unusedVariables false
set_option linter.unusedSimpArgs false
set_option maxRecDepth 100000
set_option maxHeartbeats 16000000
namespace Go.Proofs.YtippdjaakcgeoaaGreat
open Go Go.RowKit
def bag4 (vi vb ve vl : Value) : Array Value := #[.slice none 0 0, .slice none 0 0, vi, .slice none 0 0, .slice none 0 0, vb, .slice none 0 0, .slice none 0 0, .slice none 0 0, .slice none 0 0, .slice none 0 0, .slice none 0 0, .slice none 0 0, .slice none 0 0, .slice none 0 0, .slice none 0 0, ve, .slice none 0 0, .slice none 0 0, vl, .slice none 0 0, .slice none 0 0]
structure zcq (w0 w : World) (g : Nat) (hi hb he hl : List Value) (Bi : Option Addr) (ci : Nat) (Bb : Option Addr) (cb : Nat) (Be : Option Addr) (ce : Nat) (Bl : Option Addr) (cl : Nat) : Prop where
 b : Blk w g 115 (bag4 (.slice Bi hi.length ci) (.slice Bb hb.length cb) (.slice Be he.length ce) (.slice Bl hl.length cl))
 oi : Own w 41 1 Bi hi.length ci hi
 ob : Own w 48 1 Bb hb.length cb hb
 oe : Own w 43 1 Be he.length ce he
 ol : Own w 28 1 Bl hl.length cl hl
 hg : w0.heap.size ≤ g
 ni : ∀ k, inA Bi k → w0.heap.size ≤ k
 nb : ∀ k, inA Bb k → w0.heap.size ≤ k
 ne : ∀ k, inA Be k → w0.heap.size ≤ k
 nl : ∀ k, inA Bl k → w0.heap.size ≤ k
 nw : Nw w0 w
def zbM (w0 w : World) (g : Nat) (hi hb he hl : List Value) : Prop := ∃ Bi ci Bb cb Be ce Bl cl, zcq w0 w g hi hb he hl Bi ci Bb cb Be ce Bl cl
theorem zbM.new {w : World} : zbM w (w.alloc (.cells (bag4 (.slice none 0 0) (.slice none 0 0) (.slice none 0 0) (.slice none 0 0)) 115)) w.heap.size [] [] [] [] :=
 ⟨none, 0, none, 0, none, 0, none, 0, Blk.new _ _ _, Own.nil _ _ _, Own.nil _ _ _, Own.nil _ _ _, Own.nil _ _ _, Nat.le_refl _, fun k hk => (zaH k hk).elim, fun k hk => (zaH k hk).elim, fun k hk => (zaH k hk).elim, fun k hk => (zaH k hk).elim, (Fr.refl _ w).alloc _⟩
theorem zbM.nw {w0 w w' : World} {g : Nat} {hi hb he hl : List Value} (h : zbM w0 w g hi hb he hl) (q : Nw w w') : zbM w0 w' g hi hb he hl := by
 obtain ⟨Bi, ci, Bb, cb, Be, ce, Bl, cl, h⟩ := h
 exact ⟨Bi, ci, Bb, cb, Be, ce, Bl, cl, { h with b := h.b.fr q (fun h => h), oi := h.oi.fr q (fun _ _ h => h), ob := h.ob.fr q (fun _ _ h => h), oe := h.oe.fr q (fun _ _ h => h), ol := h.ol.fr q (fun _ _ h => h), nw := h.nw.tr q }⟩
def zcV (w w' : World) : Prop := ∀ X t cs, Blk w X t cs → t ≠ 115 → t ≠ 41 → t ≠ 48 → t ≠ 43 → t ≠ 28 → Blk w' X t cs
theorem zcV.nw {w w' : World} (q : Nw w w') : zcV w w' := fun X t cs h _ _ _ _ _ => h.fr q (fun h => h)
theorem zcV.tr {w w' w2 : World} (h : zcV w w') (h2 : zcV w' w2) : zcV w w2 := fun X t cs b a1 a2 a3 a4 a5 => h2 X t cs (h X t cs b a1 a2 a3 a4 a5) a1 a2 a3 a4 a5
def BgTo (w0 w : World) (g : Nat) (hi hb he hl : List Value) (w' : World) : Prop := zbM w0 w' g hi hb he hl ∧ zcV w w'
theorem zbM.new_ {w0 w : World} {g : Nat} {hi hb he hl : List Value} (h : zbM w0 w g hi hb he hl) : Nw w0 w := by
 obtain ⟨Bi, ci, Bb, cb, Be, ce, Bl, cl, h⟩ := h
 exact h.nw
theorem zjb : (Tryz.prog.info? 41).map (fun i => (i.zero, i.size, i.bytes)) = some (some (.slice none 0 0), 1, 24) := by kernel_rfl
theorem zcq.app_i {w0 w w1 : World} {g : Nat} {hi hb he hl : List Value} {Bi Bb Be Bl : Option Addr} {ci cb ce cl : Nat} {X : Option Addr} {n cx : Nat} {B' : Option Addr} {c' : Nat} (h : zcq w0 w g hi hb he hl Bi ci Bb cb Be ce Bl cl)
  (hap : zaM (w.alloc (.cells #[.slice X n cx] 41)) 41 1 Bi hi.length ci 1 hi [.slice X n cx] B' c' w1) :
  w1.cell? ⟨g, 2, none⟩ = some (.slice Bi hi.length ci) ∧ w1.frozen? ⟨g, 2, none⟩ = false ∧ BgTo w0 w g (hi ++ [.slice X n cx]) hb he hl (w1.setCell ⟨g, 2, none⟩ (.slice B' (hi.length + 1) c')) := by
 have ho := h.oi
 obtain ⟨ho1, q1, n1⟩ := hap.newOwn (h.nw.alloc _) h.ni
 have hb1 := (h.b.alloc (.cells #[.slice X n cx] 41)).fr hap.fr (fun hh => (ho.alloc (.cells #[.slice X n cx] 41)).ne_ (h.b.alloc _) (by decide) hh)
 have hg := h.hg
 have eb : ∀ k, inA Bb k → ¬ inA Bi k := h.oi.off2 h.ob (by decide)
 have ee : ∀ k, inA Be k → ¬ inA Bi k := h.oi.off2 h.oe (by decide)
 have el : ∀ k, inA Bl k → ¬ inA Bi k := h.oi.off2 h.ol (by decide)
 have pb := ((h.ob.alloc (.cells #[.slice X n cx] 41)).fr hap.fr eb).setCell (p := ⟨g, 2, none⟩) (fun hh => (h.ob.ne_ h.b (by decide)) hh) (.slice B' (hi.length + 1) c')
 have pe := ((h.oe.alloc (.cells #[.slice X n cx] 41)).fr hap.fr ee).setCell (p := ⟨g, 2, none⟩) (fun hh => (h.oe.ne_ h.b (by decide)) hh) (.slice B' (hi.length + 1) c')
 have pl := ((h.ol.alloc (.cells #[.slice X n cx] 41)).fr hap.fr el).setCell (p := ⟨g, 2, none⟩) (fun hh => (h.ol.ne_ h.b (by decide)) hh) (.slice B' (hi.length + 1) c')
 have hset := hb1.set_ 2 (.slice B' (hi.length + 1) c')
 have hlen : (hi ++ [Value.slice X n cx]).length = hi.length + 1 := by simp
 refine ⟨by rw [hb1.cell]; simp [bag4], hb1.frozen 2, ⟨B', c', Bb, cb, Be, ce, Bl, cl, ?_⟩, fun Y t cs hY a1 a2 a3 a4 a5 => ((hY.alloc (.cells #[.slice X n cx] 41)).fr hap.fr (fun hh => ho.ne_ hY (by assumption) hh)).far (p := ⟨g, 2, none⟩) (hY.ne_ h.b a1) _⟩
 exact ⟨by rw [hlen]; simpa [bag4] using hset, (by rw [hlen]; exact ho1.setCell (p := ⟨g, 2, none⟩) (fun hh => ho1.ne_ hb1 (by decide) hh) _), pb, pe, pl, hg, n1, h.nb, h.ne, h.nl, q1.setCell (p := ⟨g, 2, none⟩) (.inr hg) _⟩
theorem zcq.cell_i {w0 w : World} {g : Nat} {hi hb he hl : List Value} {Bi Bb Be Bl : Option Addr} {ci cb ce cl : Nat} (h : zcq w0 w g hi hb he hl Bi ci Bb cb Be ce Bl cl) : w.cell? ⟨g, 2, none⟩ = some (.slice Bi hi.length ci) := by
 rw [h.b.cell]; simp [bag4]
theorem zdM (w0 w : World) (g : Nat) (hi hb he hl : List Value) (X : Option Addr) (n cx : Nat) (hst : zbM w0 w g hi hb he hl) (hm : hi.length ≤ 1000000000) :
  Calls Tryz.prog 228 #[.pointer (some ⟨g, 0, none⟩), .slice X n cx] w fun e w' => e = .returned (.tuple #[]) ∧ BgTo w0 w g (hi ++ [.slice X n cx]) hb he hl w' := by
 obtain ⟨Bi, ci, Bb, cb, Be, ce, Bl, cl, h⟩ := hst
 have c5 := h.cell_i
 have hone : ∀ u ∈ [Value.slice X n cx], u.oneCell' = true := by simp [Value.oneCell']
 have ho := h.oi
 have hAP := fun B' c' w1 hap => h.app_i (B' := B') (c' := c') (w1 := w1) (X := X) (n := n) (cx := cx) hap
 have HAP := Lib.hid hAP
 clear hAP h
 obtain ⟨m, hmm⟩ : ∃ m, hi.length = m := ⟨_, rfl⟩
 rw [hmm] at c5 ho hm HAP
 clear hmm
 go_enter Tryz.func228, Tryz.ntmps228
 go_wp2_with (at_builtin; refine zay rfl _ _ _ rfl 24 (.slice none 0 0) Tryz.underlying96 zjb rfl (by decide) rfl (ho.alloc _) rfl (zaI w 41 [.slice X n cx] _ rfl) rfl hone (by omega) (by unfold maxLen; omega) ?_; intro B' c' w1 hap; obtain ⟨c51, f51, hfin⟩ := HAP.out _ _ _ hap; have HF := Lib.hid hfin; clear hfin)
 go_end0
 exact ⟨rfl, HF.out⟩
theorem zjf : (Tryz.prog.info? 48).map (fun i => (i.zero, i.size, i.bytes)) = some (some (.slice none 0 0), 1, 24) := by kernel_rfl
theorem zcq.app_b {w0 w w1 : World} {g : Nat} {hi hb he hl : List Value} {Bi Bb Be Bl : Option Addr} {ci cb ce cl : Nat} {X : Option Addr} {n cx : Nat} {B' : Option Addr} {c' : Nat} (h : zcq w0 w g hi hb he hl Bi ci Bb cb Be ce Bl cl)
  (hap : zaM (w.alloc (.cells #[.slice X n cx] 48)) 48 1 Bb hb.length cb 1 hb [.slice X n cx] B' c' w1) :
  w1.cell? ⟨g, 5, none⟩ = some (.slice Bb hb.length cb) ∧ w1.frozen? ⟨g, 5, none⟩ = false ∧ BgTo w0 w g hi (hb ++ [.slice X n cx]) he hl (w1.setCell ⟨g, 5, none⟩ (.slice B' (hb.length + 1) c')) := by
 have ho := h.ob
 obtain ⟨ho1, q1, n1⟩ := hap.newOwn (h.nw.alloc _) h.nb
 have hb1 := (h.b.alloc (.cells #[.slice X n cx] 48)).fr hap.fr (fun hh => (ho.alloc (.cells #[.slice X n cx] 48)).ne_ (h.b.alloc _) (by decide) hh)
 have hg := h.hg
 have ei : ∀ k, inA Bi k → ¬ inA Bb k := h.ob.off2 h.oi (by decide)
 have ee : ∀ k, inA Be k → ¬ inA Bb k := h.ob.off2 h.oe (by decide)
 have el : ∀ k, inA Bl k → ¬ inA Bb k := h.ob.off2 h.ol (by decide)
 have pi := ((h.oi.alloc (.cells #[.slice X n cx] 48)).fr hap.fr ei).setCell (p := ⟨g, 5, none⟩) (fun hh => (h.oi.ne_ h.b (by decide)) hh) (.slice B' (hb.length + 1) c')
 have pe := ((h.oe.alloc (.cells #[.slice X n cx] 48)).fr hap.fr ee).setCell (p := ⟨g, 5, none⟩) (fun hh => (h.oe.ne_ h.b (by decide)) hh) (.slice B' (hb.length + 1) c')
 have pl := ((h.ol.alloc (.cells #[.slice X n cx] 48)).fr hap.fr el).setCell (p := ⟨g, 5, none⟩) (fun hh => (h.ol.ne_ h.b (by decide)) hh) (.slice B' (hb.length + 1) c')
 have hset := hb1.set_ 5 (.slice B' (hb.length + 1) c')
 have hlen : (hb ++ [Value.slice X n cx]).length = hb.length + 1 := by simp
 refine ⟨by rw [hb1.cell]; simp [bag4], hb1.frozen 5, ⟨Bi, ci, B', c', Be, ce, Bl, cl, ?_⟩, fun Y t cs hY a1 a2 a3 a4 a5 => ((hY.alloc (.cells #[.slice X n cx] 48)).fr hap.fr (fun hh => ho.ne_ hY (by assumption) hh)).far (p := ⟨g, 5, none⟩) (hY.ne_ h.b a1) _⟩
 exact ⟨by rw [hlen]; simpa [bag4] using hset, pi, (by rw [hlen]; exact ho1.setCell (p := ⟨g, 5, none⟩) (fun hh => ho1.ne_ hb1 (by decide) hh) _), pe, pl, hg, h.ni, n1, h.ne, h.nl, q1.setCell (p := ⟨g, 5, none⟩) (.inr hg) _⟩
theorem zcq.cell_b {w0 w : World} {g : Nat} {hi hb he hl : List Value} {Bi Bb Be Bl : Option Addr} {ci cb ce cl : Nat} (h : zcq w0 w g hi hb he hl Bi ci Bb cb Be ce Bl cl) : w.cell? ⟨g, 5, none⟩ = some (.slice Bb hb.length cb) := by
 rw [h.b.cell]; simp [bag4]
theorem zed (w0 w : World) (g : Nat) (hi hb he hl : List Value) (X : Option Addr) (n cx : Nat) (hst : zbM w0 w g hi hb he hl) (hm : hb.length ≤ 1000000000) :
  Calls Tryz.prog 92 #[.pointer (some ⟨g, 0, none⟩), .slice X n cx] w fun e w' => e = .returned (.tuple #[]) ∧ BgTo w0 w g hi (hb ++ [.slice X n cx]) he hl w' := by
 obtain ⟨Bi, ci, Bb, cb, Be, ce, Bl, cl, h⟩ := hst
 have c5 := h.cell_b
 have hone : ∀ u ∈ [Value.slice X n cx], u.oneCell' = true := by simp [Value.oneCell']
 have ho := h.ob
 have hAP := fun B' c' w1 hap => h.app_b (B' := B') (c' := c') (w1 := w1) (X := X) (n := n) (cx := cx) hap
 have HAP := Lib.hid hAP
 clear hAP h
 obtain ⟨m, hmm⟩ : ∃ m, hb.length = m := ⟨_, rfl⟩
 rw [hmm] at c5 ho hm HAP
 clear hmm
 go_enter Tryz.func92, Tryz.ntmps92
 go_wp2_with (at_builtin; refine zay rfl _ _ _ rfl 24 (.slice none 0 0) Tryz.underlying76 zjf rfl (by decide) rfl (ho.alloc _) rfl (zaI w 48 [.slice X n cx] _ rfl) rfl hone (by omega) (by unfold maxLen; omega) ?_; intro B' c' w1 hap; obtain ⟨c51, f51, hfin⟩ := HAP.out _ _ _ hap; have HF := Lib.hid hfin; clear hfin)
 go_end0
 exact ⟨rfl, HF.out⟩
theorem zjj : (Tryz.prog.info? 43).map (fun i => (i.zero, i.size, i.bytes)) = some (some (.slice none 0 0), 1, 24) := by kernel_rfl
theorem zcq.app_e {w0 w w1 : World} {g : Nat} {hi hb he hl : List Value} {Bi Bb Be Bl : Option Addr} {ci cb ce cl : Nat} {X : Option Addr} {n cx : Nat} {B' : Option Addr} {c' : Nat} (h : zcq w0 w g hi hb he hl Bi ci Bb cb Be ce Bl cl)
  (hap : zaM (w.alloc (.cells #[.slice X n cx] 43)) 43 1 Be he.length ce 1 he [.slice X n cx] B' c' w1) :
  w1.cell? ⟨g, 16, none⟩ = some (.slice Be he.length ce) ∧ w1.frozen? ⟨g, 16, none⟩ = false ∧ BgTo w0 w g hi hb (he ++ [.slice X n cx]) hl (w1.setCell ⟨g, 16, none⟩ (.slice B' (he.length + 1) c')) := by
 have ho := h.oe
 obtain ⟨ho1, q1, n1⟩ := hap.newOwn (h.nw.alloc _) h.ne
 have hb1 := (h.b.alloc (.cells #[.slice X n cx] 43)).fr hap.fr (fun hh => (ho.alloc (.cells #[.slice X n cx] 43)).ne_ (h.b.alloc _) (by decide) hh)
 have hg := h.hg
 have ei : ∀ k, inA Bi k → ¬ inA Be k := h.oe.off2 h.oi (by decide)
 have eb : ∀ k, inA Bb k → ¬ inA Be k := h.oe.off2 h.ob (by decide)
 have el : ∀ k, inA Bl k → ¬ inA Be k := h.oe.off2 h.ol (by decide)
 have pi := ((h.oi.alloc (.cells #[.slice X n cx] 43)).fr hap.fr ei).setCell (p := ⟨g, 16, none⟩) (fun hh => (h.oi.ne_ h.b (by decide)) hh) (.slice B' (he.length + 1) c')
 have pb := ((h.ob.alloc (.cells #[.slice X n cx] 43)).fr hap.fr eb).setCell (p := ⟨g, 16, none⟩) (fun hh => (h.ob.ne_ h.b (by decide)) hh) (.slice B' (he.length + 1) c')
 have pl := ((h.ol.alloc (.cells #[.slice X n cx] 43)).fr hap.fr el).setCell (p := ⟨g, 16, none⟩) (fun hh => (h.ol.ne_ h.b (by decide)) hh) (.slice B' (he.length + 1) c')
 have hset := hb1.set_ 16 (.slice B' (he.length + 1) c')
 have hlen : (he ++ [Value.slice X n cx]).length = he.length + 1 := by simp
 refine ⟨by rw [hb1.cell]; simp [bag4], hb1.frozen 16, ⟨Bi, ci, Bb, cb, B', c', Bl, cl, ?_⟩, fun Y t cs hY a1 a2 a3 a4 a5 => ((hY.alloc (.cells #[.slice X n cx] 43)).fr hap.fr (fun hh => ho.ne_ hY (by assumption) hh)).far (p := ⟨g, 16, none⟩) (hY.ne_ h.b a1) _⟩
 exact ⟨by rw [hlen]; simpa [bag4] using hset, pi, pb, (by rw [hlen]; exact ho1.setCell (p := ⟨g, 16, none⟩) (fun hh => ho1.ne_ hb1 (by decide) hh) _), pl, hg, h.ni, h.nb, n1, h.nl, q1.setCell (p := ⟨g, 16, none⟩) (.inr hg) _⟩
theorem zcq.cell_e {w0 w : World} {g : Nat} {hi hb he hl : List Value} {Bi Bb Be Bl : Option Addr} {ci cb ce cl : Nat} (h : zcq w0 w g hi hb he hl Bi ci Bb cb Be ce Bl cl) : w.cell? ⟨g, 16, none⟩ = some (.slice Be he.length ce) := by
 rw [h.b.cell]; simp [bag4]
theorem zj8 : (Tryz.prog.info? 28).map (fun i => (i.zero, i.size, i.bytes)) = some (some (.slice none 0 0), 1, 24) := by kernel_rfl
theorem zcq.app_l {w0 w w1 : World} {g : Nat} {hi hb he hl : List Value} {Bi Bb Be Bl : Option Addr} {ci cb ce cl : Nat} {X : Option Addr} {n cx : Nat} {B' : Option Addr} {c' : Nat} (h : zcq w0 w g hi hb he hl Bi ci Bb cb Be ce Bl cl)
  (hap : zaM (w.alloc (.cells #[.slice X n cx] 28)) 28 1 Bl hl.length cl 1 hl [.slice X n cx] B' c' w1) :
  w1.cell? ⟨g, 19, none⟩ = some (.slice Bl hl.length cl) ∧ w1.frozen? ⟨g, 19, none⟩ = false ∧ BgTo w0 w g hi hb he (hl ++ [.slice X n cx]) (w1.setCell ⟨g, 19, none⟩ (.slice B' (hl.length + 1) c')) := by
 have ho := h.ol
 obtain ⟨ho1, q1, n1⟩ := hap.newOwn (h.nw.alloc _) h.nl
 have hb1 := (h.b.alloc (.cells #[.slice X n cx] 28)).fr hap.fr (fun hh => (ho.alloc (.cells #[.slice X n cx] 28)).ne_ (h.b.alloc _) (by decide) hh)
 have hg := h.hg
 have ei : ∀ k, inA Bi k → ¬ inA Bl k := h.ol.off2 h.oi (by decide)
 have eb : ∀ k, inA Bb k → ¬ inA Bl k := h.ol.off2 h.ob (by decide)
 have ee : ∀ k, inA Be k → ¬ inA Bl k := h.ol.off2 h.oe (by decide)
 have pi := ((h.oi.alloc (.cells #[.slice X n cx] 28)).fr hap.fr ei).setCell (p := ⟨g, 19, none⟩) (fun hh => (h.oi.ne_ h.b (by decide)) hh) (.slice B' (hl.length + 1) c')
 have pb := ((h.ob.alloc (.cells #[.slice X n cx] 28)).fr hap.fr eb).setCell (p := ⟨g, 19, none⟩) (fun hh => (h.ob.ne_ h.b (by decide)) hh) (.slice B' (hl.length + 1) c')
 have pe := ((h.oe.alloc (.cells #[.slice X n cx] 28)).fr hap.fr ee).setCell (p := ⟨g, 19, none⟩) (fun hh => (h.oe.ne_ h.b (by decide)) hh) (.slice B' (hl.length + 1) c')
 have hset := hb1.set_ 19 (.slice B' (hl.length + 1) c')
 have hlen : (hl ++ [Value.slice X n cx]).length = hl.length + 1 := by simp
 refine ⟨by rw [hb1.cell]; simp [bag4], hb1.frozen 19, ⟨Bi, ci, Bb, cb, Be, ce, B', c', ?_⟩, fun Y t cs hY a1 a2 a3 a4 a5 => ((hY.alloc (.cells #[.slice X n cx] 28)).fr hap.fr (fun hh => ho.ne_ hY (by assumption) hh)).far (p := ⟨g, 19, none⟩) (hY.ne_ h.b a1) _⟩
 exact ⟨by rw [hlen]; simpa [bag4] using hset, pi, pb, pe, (by rw [hlen]; exact ho1.setCell (p := ⟨g, 19, none⟩) (fun hh => ho1.ne_ hb1 (by decide) hh) _), hg, h.ni, h.nb, h.ne, n1, q1.setCell (p := ⟨g, 19, none⟩) (.inr hg) _⟩
theorem zcq.cell_l {w0 w : World} {g : Nat} {hi hb he hl : List Value} {Bi Bb Be Bl : Option Addr} {ci cb ce cl : Nat} (h : zcq w0 w g hi hb he hl Bi ci Bb cb Be ce Bl cl) : w.cell? ⟨g, 19, none⟩ = some (.slice Bl hl.length cl) := by
 rw [h.b.cell]; simp [bag4]
open Go Go.RowKit
section
variable {P : Program} {w : World} {E : TypeId} {z : Nat}
theorem zeP {ops : Array Oper} {rest : List Oper} {o : Oper} {a : Act} {Q : Exit → Act → World → Prop} (hgd : o.guard = none) (l c : Operand) (t : TypeId) (hop : o.op = Op.makeSlice t l c) (bytes : Nat) (zv : Value)
  (ht : P.underlying t = some (.slice E)) (hinfo : (P.info? E).map (fun i => (i.zero, i.size, i.bytes)) = some (some zv, z, bytes)) (kl kc : IntKind) (C1 C2 : Int) (n : Nat) (hl : a.eval l = .int kl C1) (hc : a.eval c = .int kc C2) (hC1 : C1 = (n : Int)) (hC2 : C2 = (n : Int))
  (hb : bytes * n ≤ 281474976710656) (hm : n ≤ maxLen)
  (h : ∀ w' cs, Own w' E z (some ⟨w.heap.size, 0, none⟩) n n cs → Nw w w' → wpList P ops Q rest (a.put o.dst (.slice (some ⟨w.heap.size, 0, none⟩) n n)) w') : wpList P ops Q (o :: rest) a w := by
 obtain ⟨i, hi, hz0, hz1, hz2⟩ := info_parts hinfo
 subst hz2
 refine wpList_make_full w hgd l c t hop 0 E i zv z ht hi hz0 hz1 kl kc C1 C2 n hl hc hC1 hC2 hb hm (Nat.zero_le _) fun w' r1 r2 => ?_
 obtain ⟨A, cap, he, ho⟩ := zeu r1
 injection he with he1 he2 he3
 subst he1; subst he3
 exact h w' _ ho ⟨r2.os, r2.tape, r2.output, r2.size, fun k hk _ => r2.block k hk (by simp)⟩
end
theorem Own.thereAt {w : World} {E : TypeId} {z n c g : Nat} {cs : List Value} (h : Own w E z (some ⟨g, 0, none⟩) n c cs) {j : Nat} (hj : j < n) : w.there g (j * z) z := fun i hi => by
 have h1 : j * z + i < n * z := by
  have := Nat.mul_le_mul_right z (show j + 1 ≤ n from hj)
  rw [Nat.succ_mul] at this
  omega
 obtain ⟨u, hu⟩ := h.cellEx h1
 exact ⟨by rw [hu]; simp, h.frozenAt _⟩
theorem zfx {mk : Nat → Nat → List Value} {z : Nat} (hmk : ∀ k i, (mk k i).length = z) (N : Nat → Nat) (k j : Nat) (h : j < N k + 64) : ∀ p u, (mk k j)[p]? = some u → (conA mk N k)[j * z + p]? = some u := by
 intro p u hu
 have hp : p < z := by
  rcases Nat.lt_or_ge p z with h1 | h1
  ·exact h1
  ·rw [List.getElem?_eq_none (by rw [hmk]; exact h1)] at hu; cases hu
 unfold conA
 rw [zgV hmk k _ j p h hp]
 exact hu
theorem zeN {mk : Nat → Nat → List Value} {z : Nat} (hmk : ∀ k i, (mk k i).length = z) (m : Nat) (N : Nat → Nat) (k j : Nat) (h : j < N k) : ∀ p u, (mk k j)[p]? = some u → (conB mk m N k)[j * z + p]? = some u := by
 intro p u hu
 have hp : p < z := by
  rcases Nat.lt_or_ge p z with h1 | h1
  ·exact h1
  ·rw [List.getElem?_eq_none (by rw [hmk]; exact h1)] at hu; cases hu
 rw [zmq hmk m N k j p h hp]
 exact hu
theorem zci {w : World} {X : Option Addr} {con l : List Value} {z j : Nat} (hz : l.length = z) (hz0 : 0 < z) (hgx : ∀ i x, con[i]? = some x → ∃ g, X = some ⟨g, 0, none⟩ ∧ w.cell? ⟨g, i, none⟩ = some x) (h : ∀ p u, l[p]? = some u → con[j * z + p]? = some u) :
  ∃ g, X = some ⟨g, 0, none⟩ ∧ ∀ p u, l[p]? = some u → w.cell? ⟨g, j * z + p, none⟩ = some u := by
 obtain ⟨u0, hu0⟩ : ∃ u, l[0]? = some u := ⟨_, List.getElem?_eq_getElem (by omega)⟩
 obtain ⟨g, rfl, _⟩ := hgx _ _ (h 0 u0 hu0)
 refine ⟨g, rfl, fun p u hu => ?_⟩
 obtain ⟨g', hg', hc⟩ := hgx _ _ (h p u hu)
 injection hg' with hg'
 injection hg' with hg'
 rw [← hg'] at hc
 exact hc
theorem zcW {w w' : World} {g o : Nat} {l : List Value} (h : ∀ p u, l[p]? = some u → w.cell? ⟨g, o + p, none⟩ = some u) (q : Nw w w') : ∀ p u, l[p]? = some u → w'.cell? ⟨g, o + p, none⟩ = some u := fun p u hu => by
 have h1 := h p u hu
 exact (q.cell (p := ⟨g, o + p, none⟩) (World.block_lt_of_cell? _ _ h1) (fun h => h)).trans h1
open Go Go.RowKit
def lvs {α : Type} (l : List (Ls α)) : List Value := l.map Ls.v
theorem zd4 {α : Type} (l m : List (Ls α)) : lvs (l ++ m) = lvs l ++ lvs m := List.map_append
theorem zcp {α β : Type} (g : α → List (Ls β)) (l : List α) (k : Nat) (h : k < l.length) : lvs ((l.take (k + 1)).flatMap g) = lvs ((l.take k).flatMap g) ++ lvs (g l[k]) := by
 rw [List.take_succ_eq_append_getElem h, List.flatMap_append, zd4]
 simp
theorem zfw {α β : Type} (g : α → Ls β) (l : List α) (k : Nat) (h : k < l.length) : lvs ((l.take (k + 1)).map g) = lvs ((l.take k).map g) ++ [(g l[k]).v] := by
 rw [List.take_succ_eq_append_getElem h, List.map_append, zd4]
 rfl
theorem zbW {α : Type} (l : List (Ls α)) : (lvs l).length = l.length := by simp [lvs]
theorem zgJ (w0 w : World) (g : Nat) (hi hb he hl : List Value) (x : CfgM) (hst : zbM w0 w g hi hb he hl) (hm : hi.length ≤ 999999990) :
  Calls Tryz.prog 218 #[.pointer (some ⟨g, 0, none⟩), .agg (cfgA x)] w fun e w' => e = .returned (.tuple #[]) ∧ BgTo w0 w g (hi ++ [x.v.v, x.o.v, x.l.v, x.w.v]) hb he hl w' := by
 obtain ⟨X, hX⟩ : ∃ X, X = w.heap.size := ⟨_, rfl⟩
 obtain ⟨W0, hW0⟩ : ∃ W, W = w.alloc (.cells (cfgA x) 45) := ⟨_, rfl⟩
 have p0 : Nw w W0 := by rw [hW0]; exact (Fr.refl (fun _ => False) _).alloc _
 have x0 : Blk W0 X 45 (cfgA x) := by rw [hW0, hX]; exact Blk.new _ _ _
 have b0 := hst.nw p0
 have k0 := zcV.nw p0
 have HX := Lib.hid hX
 have HW0 := Lib.hid hW0
 clear hX hW0 hst p0
 go_enter Tryz.func218, Tryz.ntmps218
 go_upto_region 1 with (fail)
 rw [← HX.out, ← HW0.out]
 have c1 : W0.cell? ⟨X, 0, none⟩ = some (.slice x.v.a x.v.l.length x.v.c) := by simpa using x0.cell 0
 go_wp2_with fail
 refine ((zdM w0 _ g _ hb he hl _ _ _ b0 (by first | omega | (simp only [List.length_append, List.length_cons, List.length_nil]; omega)))).mono ?_
 rintro e w1 ⟨rfl, b1, t1⟩
 have x1 := t1 _ _ _ x0 (by decide) (by decide) (by decide) (by decide) (by decide)
 have k1 := k0.tr t1
 clear c1 x0 t1 k0 b0
 have c2 : w1.cell? ⟨X, 1, none⟩ = some (.slice x.o.a x.o.l.length x.o.c) := by simpa using x1.cell 1
 go_wp2_with fail
 refine ((zdM w0 _ g _ hb he hl _ _ _ b1 (by first | omega | (simp only [List.length_append, List.length_cons, List.length_nil]; omega)))).mono ?_
 rintro e w2 ⟨rfl, b2, t2⟩
 have x2 := t2 _ _ _ x1 (by decide) (by decide) (by decide) (by decide) (by decide)
 have k2 := k1.tr t2
 clear c2 x1 t2 k1 b1
 have c3 : w2.cell? ⟨X, 2, none⟩ = some (.slice x.l.a x.l.l.length x.l.c) := by simpa using x2.cell 2
 go_wp2_with fail
 refine ((zdM w0 _ g _ hb he hl _ _ _ b2 (by first | omega | (simp only [List.length_append, List.length_cons, List.length_nil]; omega)))).mono ?_
 rintro e w3 ⟨rfl, b3, t3⟩
 have x3 := t3 _ _ _ x2 (by decide) (by decide) (by decide) (by decide) (by decide)
 have k3 := k2.tr t3
 clear c3 x2 t3 k2 b2
 have c4 : w3.cell? ⟨X, 3, none⟩ = some (.slice x.w.a x.w.l.length x.w.c) := by simpa using x3.cell 3
 go_wp2_with fail
 refine ((zdM w0 _ g _ hb he hl _ _ _ b3 (by first | omega | (simp only [List.length_append, List.length_cons, List.length_nil]; omega)))).mono ?_
 rintro e w4 ⟨rfl, b4, t4⟩
 have x4 := t4 _ _ _ x3 (by decide) (by decide) (by decide) (by decide) (by decide)
 have k4 := k3.tr t4
 clear c4 x3 t4 k3 b3
 have BZ := Lib.hid b4
 clear b4 x4
 go_wp2_with fail
 go_end0
 refine ⟨rfl, ?_, k4⟩
 have bz := BZ.out
 simpa [zbH, zbs, zaz, zaB, List.append_assoc] using bz
theorem zfb (w0 w : World) (g : Nat) (hi hb he hl : List Value) (x : CfgM) (hst : zbM w0 w g hi hb he hl) (hm : hi.length ≤ 999999990) :
  Calls Tryz.prog 218 #[.pointer (some ⟨g, 0, none⟩), .agg (cfgA x)] w fun e w' => e = .returned (.tuple #[]) ∧ BgTo w0 w g (hi ++ lvs (zbH x)) hb he hl w' := zgJ w0 w g hi hb he hl x hst hm
theorem zhL (w0 w : World) (g : Nat) (hi hb he hl : List Value) (x : EntM) (hst : zbM w0 w g hi hb he hl) (hm : hi.length ≤ 999999990) (hm2 : hb.length ≤ 999999990) :
  Calls Tryz.prog 217 #[.pointer (some ⟨g, 0, none⟩), .agg (entA x)] w fun e w' => e = .returned (.tuple #[]) ∧ BgTo w0 w g (hi ++ lvs (zbs x)) (hb ++ [x.cmd.v]) he hl w' := by
 obtain ⟨X, hX⟩ : ∃ X, X = w.heap.size := ⟨_, rfl⟩
 obtain ⟨W0, hW0⟩ : ∃ W, W = w.alloc (.cells (entA x) 87) := ⟨_, rfl⟩
 have p0 : Nw w W0 := by rw [hW0]; exact (Fr.refl (fun _ => False) _).alloc _
 have x0 : Blk W0 X 87 (entA x) := by rw [hW0, hX]; exact Blk.new _ _ _
 have b0 := hst.nw p0
 have k0 := zcV.nw p0
 have HX := Lib.hid hX
 have HW0 := Lib.hid hW0
 clear hX hW0 hst p0
 go_enter Tryz.func217, Tryz.ntmps217
 go_upto_region 1 with (fail)
 rw [← HX.out, ← HW0.out]
 have c1 : W0.cell? ⟨X, 2, none⟩ = some (.slice x.cmd.a x.cmd.l.length x.cmd.c) := by simpa using x0.cell 2
 go_wp2_with fail
 refine ((zed w0 _ g hi hb he hl _ _ _ b0 (by omega))).mono ?_
 rintro e w1 ⟨rfl, b1, t1⟩
 have x1 := t1 _ _ _ x0 (by decide) (by decide) (by decide) (by decide) (by decide)
 have k1 := k0.tr t1
 clear c1 x0 t1 k0 b0
 have c2 : ∀ p u, ((cl9 x.cfg) : List Value)[p]? = some u → w1.cell? ⟨X, 3 + p, none⟩ = some u := Blk.cells_in x1 3 4
 go_wp2_with (refine za5 rfl 45 _ rfl X 3 rfl (cl9 x.cfg) _ c2 Tryz.underlying45 rfl (by kernel_rfl) ?_)
 refine ((zfb w0 _ g hi _ he hl x.cfg b1 (by omega))).mono ?_
 rintro e w2 ⟨rfl, b2, t2⟩
 have x2 := t2 _ _ _ x1 (by decide) (by decide) (by decide) (by decide) (by decide)
 have k2 := k1.tr t2
 clear c2 x1 t2 k1 b1
 have BZ := Lib.hid b2
 clear b2 x2
 go_wp2_with fail
 go_end0
 refine ⟨rfl, ?_, k2⟩
 have bz := BZ.out
 simpa [zbH, zbs, zaz, zaB, List.append_assoc] using bz
theorem ziq (w0 w : World) (g : Nat) (hi hb he hl : List Value) (x : BasM) (hst : zbM w0 w g hi hb he hl) (hm : hi.length ≤ 999999990) :
  Calls Tryz.prog 180 #[.pointer (some ⟨g, 0, none⟩), .agg (basA x)] w fun e w' => e = .returned (.tuple #[]) ∧ BgTo w0 w g (hi ++ lvs (zbH x.cfg)) hb he hl w' := by
 obtain ⟨X, hX⟩ : ∃ X, X = w.heap.size := ⟨_, rfl⟩
 obtain ⟨W0, hW0⟩ : ∃ W, W = w.alloc (.cells (basA x) 47) := ⟨_, rfl⟩
 have p0 : Nw w W0 := by rw [hW0]; exact (Fr.refl (fun _ => False) _).alloc _
 have x0 : Blk W0 X 47 (basA x) := by rw [hW0, hX]; exact Blk.new _ _ _
 have b0 := hst.nw p0
 have k0 := zcV.nw p0
 have HX := Lib.hid hX
 have HW0 := Lib.hid hW0
 clear hX hW0 hst p0
 go_enter Tryz.func180, Tryz.ntmps180
 go_upto_region 1 with (fail)
 rw [← HX.out, ← HW0.out]
 have c1 : ∀ p u, ((cl9 x.cfg) : List Value)[p]? = some u → W0.cell? ⟨X, 2 + p, none⟩ = some u := Blk.cells_in x0 2 4
 go_wp2_with (refine za5 rfl 45 _ rfl X 2 rfl (cl9 x.cfg) _ c1 Tryz.underlying45 rfl (by kernel_rfl) ?_)
 refine ((zfb w0 _ g hi hb he hl x.cfg b0 (by omega))).mono ?_
 rintro e w1 ⟨rfl, b1, t1⟩
 have x1 := t1 _ _ _ x0 (by decide) (by decide) (by decide) (by decide) (by decide)
 have k1 := k0.tr t1
 clear c1 x0 t1 k0 b0
 have BZ := Lib.hid b1
 clear b1 x1
 go_wp2_with fail
 go_end0
 refine ⟨rfl, ?_, k1⟩
 have bz := BZ.out
 simpa [zbH, zbs, zaz, zaB, List.append_assoc] using bz
theorem zi6 (l : List EntM) (k : Nat) : ((l.take k).flatMap zbs).length ≤ 4 * l.length := by
 have : ∀ l : List EntM, (l.flatMap zbs).length = 4 * l.length := by
  intro l
  induction l with
  | nil => rfl
  | cons a l ih => rw [List.flatMap_cons, List.length_append, ih, List.length_cons]; show 4 + _ = _; omega
 rw [this, List.length_take]
 omega
def zf9 (w0 w1 : World) (A : Option Addr) (c : Nat) (g : Nat) (hi hb he hl : List Value) (l : List EntM) (i : Value) (wr : World) : Prop := ∃ k : Nat, k ≤ l.length ∧ i = .int .i64 k ∧ BgTo w0 w1 g (hi ++ lvs ((l.take k).flatMap zbs)) (hb ++ lvs ((l.take k).map EntM.cmd)) (he ++ [.slice A l.length c]) hl wr
theorem zgW (w0 w : World) (g : Nat) (hi hb he hl : List Value) (A : Option Addr) (c : Nat) (l : List EntM) (F : Nat → Prop) (hs : Sl w0 F A (zal l))  (hst : zbM w0 w g hi hb he hl) (hm : hi.length + 4 * l.length ≤ 999999000) (hm2 : hb.length + l.length ≤ 999999000) (hm9 : he.length ≤ 999999000) :
  Calls Tryz.prog 179 #[.pointer (some ⟨g, 0, none⟩), .slice A l.length c] w fun e w' => e = .returned (.tuple #[]) ∧ BgTo w0 w g (hi ++ lvs (l.flatMap zbs)) (hb ++ lvs (l.map EntM.cmd)) (he ++ [.slice A l.length c]) hl w' := by
 obtain ⟨Bi, ci, Bb, cb, Be, ce, Bl, cl, h⟩ := hst
 have c5 := h.cell_e
 have hone : ∀ u ∈ [Value.slice A l.length c], u.oneCell' = true := by simp [Value.oneCell']
 have ho := h.oe
 have hAP := fun B' c' w1 hap => h.app_e (B' := B') (c' := c') (w1 := w1) (X := A) (n := l.length) (cx := c) hap
 have HAP := Lib.hid hAP
 clear hAP h
 obtain ⟨m, hmm⟩ : ∃ m, he.length = m := ⟨_, rfl⟩
 rw [hmm] at c5 ho hm9 HAP
 clear hmm
 go_enter Tryz.func179, Tryz.ntmps179
 go_upto_region 1 with (at_builtin; refine zay rfl _ _ _ rfl 24 (.slice none 0 0) Tryz.underlying109 zjj rfl (by decide) rfl (ho.alloc _) rfl (zaI w 43 [.slice A l.length c] _ rfl) rfl hone (by omega) (by unfold maxLen; omega) ?_; intro B' c' w1 hap; obtain ⟨c51, f51, hfin⟩ := HAP.out _ _ _ hap; have HF := Lib.hid hfin; clear hfin)
 obtain ⟨W1, hW1⟩ : ∃ W, W = w1.setCell ⟨g, 16, none⟩ (.slice B' (m + 1) c') := ⟨_, rfl⟩
 have st1 := HF.out
 rw [← hW1] at st1
 have HW1 := Lib.hid hW1
 rw [← HW1.out]
 clear hW1 c51 f51 HF HAP hap ho c5
 go_wp2_with fail
 go_loopw [4] (fun i wr => zf9 w0 w A c g hi hb he hl l i wr) (fun i _ => l.length - (intOf i).toNat)
 case atStart => exact ⟨0, Nat.zero_le _, rfl, by simpa [lvs] using st1⟩
 case round =>
  clear st1
  obtain ⟨k, hk, rfl, st, kp⟩ := hrel
  by_cases hlt : k < l.length
  ·have hi0 : (k : Int) < (l.length : Int) := by omega
   have hi1 : decide ((k : Int) < (l.length : Int)) = true := decide_eq_true hi0
   have hi2 : decide (k < l.length) = true := decide_eq_true hlt
   obtain ⟨b, o, hA, _, _, hc⟩ := (hs.fr st.new_ (fun _ _ h => h)).ent hlt
   have hnext : ∀ w', BgTo w0 wr g ((hi ++ lvs ((l.take k).flatMap zbs)) ++ lvs (zbs l[k])) ((hb ++ lvs ((l.take k).map EntM.cmd)) ++ [(l[k]).cmd.v]) (he ++ [.slice A l.length c]) hl w' → zf9 w0 w A c g hi hb he hl l (.int .i64 ((k : Int) + 1)) w' := fun w' h => by
    refine ⟨k + 1, by omega, by go_num, ?_, kp.tr h.2⟩
    have h1 := h.1
    rw [zcp _ _ _ hlt, zfw _ _ _ hlt]
    simp only [← List.append_assoc]
    exact h1
   have HNX := Lib.hid hnext
   have hl1 : ((l.take k).flatMap zbs).length ≤ 4 * l.length := Nat.le_trans (zi6 _ k) (by omega)
   have hl2 : ((l.take k).map EntM.cmd).length ≤ l.length := by rw [List.length_map, List.length_take]; omega
   have hcall := zhL w0 wr g _ _ _ _ l[k] st (by rw [List.length_append, zbW]; omega) (by rw [List.length_append, zbW]; omega)
   obtain ⟨x, hx⟩ : ∃ x, l[k] = x := ⟨_, rfl⟩
   rw [hx] at hc hcall HNX
   have HC := Lib.hid hcall
   clear hx hnext hcall
   subst hA
   go_wp2_with (refine za5 rfl 87 _ rfl b (o + k * 7) rfl _ _ hc Tryz.underlying87 rfl (by kernel_rfl) ?_)
   refine HC.out.mono ?_
   rintro e w5 ⟨rfl, b5⟩
   have h5 := HNX.out w5 b5
   have H5 := Lib.hid h5
   clear h5 b5
   go_wp2_with fail
   refine ⟨H5.out, ?_⟩
   simp [intOf]
   omega
  ·obtain rfl : k = l.length := by omega
   rw [List.take_length] at st
   have ST := Lib.hid st
   clear st
   go_wp2_with fail
   go_end0
   exact ⟨rfl, ST.out, kp⟩
theorem zgR (w0 w : World) (g : Nat) (hi hb he hl : List Value) (x : LetM) (F : Nat → Prop) (hs : Sl w0 F x.ents.a (zal x.ents.l)) (hst : zbM w0 w g hi hb he hl) (hq : (x.ents.l.flatMap zbs).length ≤ 4 * x.ents.l.length) (hm : hi.length + 4 * x.ents.l.length ≤ 999998000) (hm2 : hb.length + x.ents.l.length ≤ 999998000) (hm9 : he.length ≤ 999998000) :
  Calls Tryz.prog 108 #[.pointer (some ⟨g, 0, none⟩), .agg (letA x)] w fun e w' => e = .returned (.tuple #[]) ∧ BgTo w0 w g (hi ++ lvs (zaz x)) (hb ++ lvs (zaB x)) (he ++ [x.ents.v]) hl w' := by
 obtain ⟨X, hX⟩ : ∃ X, X = w.heap.size := ⟨_, rfl⟩
 obtain ⟨W0, hW0⟩ : ∃ W, W = w.alloc (.cells (letA x) 50) := ⟨_, rfl⟩
 have p0 : Nw w W0 := by rw [hW0]; exact (Fr.refl (fun _ => False) _).alloc _
 have x0 : Blk W0 X 50 (letA x) := by rw [hW0, hX]; exact Blk.new _ _ _
 have b0 := hst.nw p0
 have k0 := zcV.nw p0
 have HX := Lib.hid hX
 have HW0 := Lib.hid hW0
 clear hX hW0 hst p0
 go_enter Tryz.func108, Tryz.ntmps108
 go_upto_region 1 with (fail)
 rw [← HX.out, ← HW0.out]
 have c1 : W0.cell? ⟨X, 9, none⟩ = some (.slice x.ents.a x.ents.l.length x.ents.c) := by simpa using x0.cell 9
 go_wp2_with fail
 refine ((zgW w0 _ g hi hb he hl _ _ x.ents.l F hs b0 (by omega) (by omega) (by omega))).mono ?_
 rintro e w1 ⟨rfl, b1, t1⟩
 have x1 := t1 _ _ _ x0 (by decide) (by decide) (by decide) (by decide) (by decide)
 have k1 := k0.tr t1
 clear c1 x0 t1 k0 b0
 have c2 : ∀ p u, ([I64 x.base.index, I64 x.base.term, .slice x.base.cfg.v.a x.base.cfg.v.l.length x.base.cfg.v.c, .slice x.base.cfg.o.a x.base.cfg.o.l.length x.base.cfg.o.c, .slice x.base.cfg.l.a x.base.cfg.l.l.length x.base.cfg.l.c, .slice x.base.cfg.w.a x.base.cfg.w.l.length x.base.cfg.w.c] : List Value)[p]? = some u → w1.cell? ⟨X, 10 + p, none⟩ = some u := Blk.cells_in x1 10 6
 go_wp2_with (refine za5 rfl 47 _ rfl X 10 rfl [I64 x.base.index, I64 x.base.term, .slice x.base.cfg.v.a x.base.cfg.v.l.length x.base.cfg.v.c, .slice x.base.cfg.o.a x.base.cfg.o.l.length x.base.cfg.o.c, .slice x.base.cfg.l.a x.base.cfg.l.l.length x.base.cfg.l.c, .slice x.base.cfg.w.a x.base.cfg.w.l.length x.base.cfg.w.c] _ c2 Tryz.underlying47 rfl (by kernel_rfl) ?_)
 refine ((ziq w0 _ g _ _ _ _ x.base b1 (by rw [List.length_append, zbW]; omega))).mono ?_
 rintro e w2 ⟨rfl, b2, t2⟩
 have x2 := t2 _ _ _ x1 (by decide) (by decide) (by decide) (by decide) (by decide)
 have k2 := k1.tr t2
 clear c2 x1 t2 k1 b1
 have c3 : w2.cell? ⟨X, 19, none⟩ = some (.slice x.bytes.a x.bytes.l.length x.bytes.c) := by simpa using x2.cell 19
 go_wp2_with fail
 refine ((zed w0 _ g _ _ _ _ _ _ _ b2 (by rw [List.length_append, zbW, List.length_map]; omega))).mono ?_
 rintro e w3 ⟨rfl, b3, t3⟩
 have x3 := t3 _ _ _ x2 (by decide) (by decide) (by decide) (by decide) (by decide)
 have k3 := k2.tr t3
 clear c3 x2 t3 k2 b2
 have BZ := Lib.hid b3
 clear b3 x3
 go_wp2_with fail
 go_end0
 refine ⟨rfl, ?_, k3⟩
 have bz := BZ.out
 rw [zaz, zaB, zd4, zd4, ← List.append_assoc, ← List.append_assoc]
 exact bz
theorem zg2 {α β : Type} (g : α → List β) (l : List α) (k : Nat) (h : k < l.length) : ((l.take k).flatMap g).length + (g l[k]).length ≤ (l.flatMap g).length := by
 have h1 : ((l.take (k + 1)).flatMap g).length = ((l.take k).flatMap g).length + (g l[k]).length := by
  rw [List.take_succ_eq_append_getElem h, List.flatMap_append, List.length_append]; simp
 rw [← h1]
 conv => rhs; rw [← List.take_append_drop (k + 1) l, List.flatMap_append, List.length_append]
 omega
theorem zey (x : LetM) : (zaz x).length = 4 * x.ents.l.length + 4 := by
 have : ∀ l : List EntM, (l.flatMap zbs).length = 4 * l.length := by
  intro l
  induction l with
  | nil => rfl
  | cons a l ih => rw [List.flatMap_cons, List.length_append, ih, List.length_cons]; show 4 + _ = _; omega
 rw [zaz, List.length_append, this]
 rfl
theorem zfU (x : LetM) : (zaB x).length = x.ents.l.length + 1 := by rw [zaB, List.length_append, List.length_map]; rfl
def zfa (w0 w1 : World) (A : Option Addr) (c : Nat) (g : Nat) (hi hb he hl : List Value) (l : List LetM) (i : Value) (wr : World) : Prop := ∃ k : Nat, k ≤ l.length ∧ i = .int .i64 k ∧ BgTo w0 w1 g (hi ++ lvs ((l.take k).flatMap zaz)) (hb ++ lvs ((l.take k).flatMap zaB)) (he ++ lvs ((l.take k).map LetM.ents)) (hl ++ [.slice A l.length c]) wr
theorem zgM (w0 w : World) (g : Nat) (hi hb he hl : List Value) (A : Option Addr) (c : Nat) (l : List LetM) (F : Nat → Prop) (hs : Sl w0 F A (zai l)) (hin : ∀ x ∈ l, za3 w0 F x) (hst : zbM w0 w g hi hb he hl) (hm : hi.length + (l.flatMap zaz).length ≤ 999990000) (hm2 : hb.length + (l.flatMap zaB).length ≤ 999990000) (hm3 : he.length + l.length ≤ 999990000) (hm9 : hl.length ≤ 999990000) :
  Calls Tryz.prog 60 #[.pointer (some ⟨g, 0, none⟩), .slice A l.length c] w fun e w' => e = .returned (.tuple #[]) ∧ BgTo w0 w g (hi ++ lvs (l.flatMap zaz)) (hb ++ lvs (l.flatMap zaB)) (he ++ lvs (l.map LetM.ents)) (hl ++ [.slice A l.length c]) w' := by
 obtain ⟨Bi, ci, Bb, cb, Be, ce, Bl, cl, h⟩ := hst
 have c5 := h.cell_l
 have hone : ∀ u ∈ [Value.slice A l.length c], u.oneCell' = true := by simp [Value.oneCell']
 have ho := h.ol
 have hAP := fun B' c' w1 hap => h.app_l (B' := B') (c' := c') (w1 := w1) (X := A) (n := l.length) (cx := c) hap
 have HAP := Lib.hid hAP
 clear hAP h
 obtain ⟨m, hmm⟩ : ∃ m, hl.length = m := ⟨_, rfl⟩
 rw [hmm] at c5 ho hm9 HAP
 clear hmm
 go_enter Tryz.func60, Tryz.ntmps60
 go_upto_region 1 with (at_builtin; refine zay rfl _ _ _ rfl 24 (.slice none 0 0) Tryz.underlying39 zj8 rfl (by decide) rfl (ho.alloc _) rfl (zaI w 28 [.slice A l.length c] _ rfl) rfl hone (by omega) (by unfold maxLen; omega) ?_; intro B' c' w1 hap; obtain ⟨c51, f51, hfin⟩ := HAP.out _ _ _ hap; have HF := Lib.hid hfin; clear hfin)
 obtain ⟨W1, hW1⟩ : ∃ W, W = w1.setCell ⟨g, 19, none⟩ (.slice B' (m + 1) c') := ⟨_, rfl⟩
 have st1 := HF.out
 rw [← hW1] at st1
 have HW1 := Lib.hid hW1
 rw [← HW1.out]
 clear hW1 c51 f51 HF HAP hap ho c5
 go_wp2_with fail
 go_loopw [4] (fun i wr => zfa w0 w A c g hi hb he hl l i wr) (fun i _ => l.length - (intOf i).toNat)
 case atStart => exact ⟨0, Nat.zero_le _, rfl, by simpa [lvs] using st1⟩
 case round =>
  clear st1
  obtain ⟨k, hk, rfl, st, kp⟩ := hrel
  by_cases hlt : k < l.length
  ·have hi0 : (k : Int) < (l.length : Int) := by omega
   have hi1 : decide ((k : Int) < (l.length : Int)) = true := decide_eq_true hi0
   have hi2 : decide (k < l.length) = true := decide_eq_true hlt
   obtain ⟨b, o, hA, _, _, hc⟩ := (hs.fr st.new_ (fun _ _ h => h)).let_ hlt
   have hnext : ∀ w', BgTo w0 wr g ((hi ++ lvs ((l.take k).flatMap zaz)) ++ lvs (zaz l[k])) ((hb ++ lvs ((l.take k).flatMap zaB)) ++ lvs (zaB l[k])) ((he ++ lvs ((l.take k).map LetM.ents)) ++ [(l[k]).ents.v]) (hl ++ [.slice A l.length c]) w' → zfa w0 w A c g hi hb he hl l (.int .i64 ((k : Int) + 1)) w' := fun w' h => by
    refine ⟨k + 1, by omega, by go_num, ?_, kp.tr h.2⟩
    have h1 := h.1
    rw [zcp _ _ _ hlt, zcp _ _ _ hlt, zfw _ _ _ hlt]
    simp only [← List.append_assoc]
    exact h1
   have HNX := Lib.hid hnext
   have hl1 := zg2 zaz l k hlt
   have hl2 := zg2 zaB l k hlt
   rw [zey] at hl1
   rw [zfU] at hl2
   have hl3 : ((l.take k).map LetM.ents).length ≤ l.length := by rw [List.length_map, List.length_take]; omega
   have hcall := zgR w0 wr g _ _ _ _ l[k] F (hin _ (List.getElem_mem hlt)).ents.sl st (by have := zey l[k]; rw [zaz, List.length_append] at this; have e : (zbH (l[k]).base.cfg).length = 4 := rfl; omega) (by rw [List.length_append, zbW]; omega) (by rw [List.length_append, zbW]; omega) (by rw [List.length_append, zbW]; omega)
   obtain ⟨x, hx⟩ : ∃ x, l[k] = x := ⟨_, rfl⟩
   rw [hx] at hc hcall HNX
   have HC := Lib.hid hcall
   clear hx hnext hcall
   subst hA
   go_wp2_with (refine za5 rfl 50 _ rfl b (o + k * 20) rfl _ _ hc Tryz.underlying50 rfl (by kernel_rfl) ?_)
   refine HC.out.mono ?_
   rintro e w5 ⟨rfl, b5⟩
   have h5 := HNX.out w5 b5
   have H5 := Lib.hid h5
   clear h5 b5
   go_wp2_with fail
   refine ⟨H5.out, ?_⟩
   simp [intOf]
   omega
  ·obtain rfl : k = l.length := by omega
   rw [List.take_length] at st
   have ST := Lib.hid st
   clear st
   go_wp2_with fail
   go_end0
   exact ⟨rfl, ST.out, kp⟩
end Go.Proofs.YtippdjaakcgeoaaGreat
