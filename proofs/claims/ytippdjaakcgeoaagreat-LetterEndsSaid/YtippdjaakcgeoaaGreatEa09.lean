/- Lemmas of the walks: KpB, SmC, SmD, KpC, QTail. (Laid together by shake.py.) -/
import Derived.StillTail
import Derived.Deep.Quiet
import Derived.Test.YtippdjaakcgeoaaGreatEa02
import Derived.Test.YtippdjaakcgeoaaGreatEa04
import Derived.Test.YtippdjaakcgeoaaGreatEa08
set_option linter.unusedVariables false
set_option linter.unusedSimpArgs false
set_option maxRecDepth 100000
set_option maxHeartbeats 16000000
namespace Go.Proofs.YtippdjaakcgeoaaGreat
open Go Go.RowKit
def zki (w : World) (n : Nat) (i : Value) (wr : World) : Prop := ∃ k : Nat, k ≤ n + 12 ∧ i = .int .i64 k ∧ Nw w wr
theorem zkZ (w : World) (F1 F2 : Nat → Prop) (s : Ls EntM) (hs : zbQ w F1 s) (A2 : Option Addr) (c2 : Nat) (ys : List EntM) (h2 : Sl w F2 A2 (zal ys)) (e2 : ∀ e ∈ ys, zau w F2 e) (he : s.l.map EntM.x = ys.map EntM.x) (hz : ∀ e ∈ s.l, zaW e) (hsz : s.l.length ≤ 100000000) :
  Calls Tryz.prog 90 #[s.v, .slice A2 ys.length c2] w fun e w' => e = .returned (.bool true) ∧ Nw w w' := by
 obtain ⟨⟨g, hg, hc, hcm, ho, hF⟩, hev⟩ := hs
 have hyl : ys.length = s.l.length := by have := congrArg List.length he; simpa using this.symm
 obtain ⟨n, hn⟩ : ∃ n, s.l.length = n := ⟨_, rfl⟩
 have hsl := zcN (P := Tryz.prog) 43 zgh 7 zhd (some ⟨g, 0, none⟩) n (n + 12) (n + 12) (Nat.le_refl _)
 have e12 : (((n + 12 : Nat)) : Int) = (n : Int) + 12 := by omega
 rw [e12] at hsl
 unfold Ls.v
 rw [hg, hc, hyl, hn]
 rw [hn] at ho
 have HN := Lib.hid hn
 have HYL := Lib.hid hyl
 have HE := Lib.hid he
 have HEV := Lib.hid hev
 have E2 := Lib.hid e2
 have HZ := Lib.hid hz
 clear hg hc hn hyl he hev e2 hz
 rw [HN.out] at hsz
 have hnn : ((n : Int) != (n : Int)) = false := by simp
 go_enter Tryz.func90, Tryz.ntmps90
 go_wp2_with fail
 go_loopw [6] (fun i wr => zki w n i wr) (fun i _ => n + 12 - (intOf i).toNat)
 case atStart => exact ⟨0, by omega, rfl, Fr.refl _ _⟩
 case round =>
  obtain ⟨k, hk, rfl, hq⟩ := hrel
  by_cases hlt : k < n + 12
  ·have hl12 : k < (s.l ++ behE).length := by rw [List.length_append, zic, HN.out]; exact hlt
   obtain ⟨b1, o1, hbo, _, _, hc1⟩ := ((ho.fr hq (fun _ _ h => h)).sl).ent hl12
   injection hbo with hbo
   injection hbo with e1 e2 _
   subst e1
   subst e2
   simp only [Nat.zero_add] at hc1
   have hi0 : (k : Int) < (n : Int) + 12 := by omega
   by_cases hlt2 : k < n
   ·have hkl : k < s.l.length := by rw [HN.out]; exact hlt2
    have hky : k < ys.length := by rw [HYL.out]; exact hkl
    obtain ⟨b2, o2, rfl, _, _, hc2⟩ := (h2.fr hq (fun _ _ h => h)).ent hky
    rw [List.getElem_append_left hkl] at hc1
    have hxy : (s.l[k]).x = (ys[k]).x := by
     have h3 := congrArg (fun l => l[k]?) HE.out
     simp only [List.getElem?_map, List.getElem?_eq_getElem hkl, List.getElem?_eq_getElem hky, Option.map_some] at h3
     injection h3
    have x1 := (HEV.out _ (List.getElem_mem hkl)).nw hq
    have x2 := (E2.out _ (List.getElem_mem hky)).nw hq
    have z1 := HZ.out _ (List.getElem_mem hkl)
    obtain ⟨x, hx⟩ : ∃ x, s.l[k] = x := ⟨_, rfl⟩
    obtain ⟨y, hy⟩ : ∃ y, ys[k] = y := ⟨_, rfl⟩
    rw [hx] at hc1 x1 z1 hxy
    rw [hy] at hc2 x2 hxy
    have hkp : ∀ m : za0 wr, Calls Tryz.prog 160 #[.agg (entA x), .agg (entA y)] m.at_ fun e w' => e = .returned (.bool true) ∧ Nw m.at_ w' := fun m => zm6 _ F1 F2 x y (x1.nw m.nw) (x2.nw m.nw) hxy z1
    have HK := Lib.hid hkp
    have L1 := Lib.hid (za0.cells hc1)
    have L2 := Lib.hid (za0.cells hc2)
    clear hx hy hc1 hc2 hxy x1 x2 z1 hkp
    have hi1 : (k : Int) < (n : Int) := by omega
    have hi2 : decide ((n : Int) ≤ (k : Int)) = false := by simp; omega
    have hi3 : decide (n ≤ k) = false := by simp; omega
    have hi4 : decide ((k : Int) < (n : Int)) = true := decide_eq_true hi1
    have hi5 : decide (k < n) = true := decide_eq_true hlt2
    go_wp2_with fail
    refine zae (by kernel_rfl) (by kernel_rfl) ?_
    iterate 8 (go_big_quiet_step (fail))
    refine zaa (by kernel_rfl) 87 _ rfl _ (k * 7) rfl _ _ L1.out Tryz.underlying87 rfl (by kernel_rfl) ?_
    simp only [Act.put, sA9, sC9, sB9]
    iterate 3 (go_big_quiet_step (fail))
    refine zaa (by kernel_rfl) 87 _ rfl b2 (o2 + k * 7) rfl _ _ L2.out Tryz.underlying87 rfl (by kernel_rfl) ?_
    simp only [Act.put, sA9, sC9, sB9]
    repeat (go_big_quiet_step ((go_at_call 160; exact za0.call (HK.out _))))
    refine zaj fun w5 q5 => ?_
    go_wp2_with fail
    go_roundw
    case rel => exact ⟨k + 1, by omega, by go_num, hq.tr q5⟩
    case measure => simp [intOf]; omega
   ·rw [List.getElem_append_right (by rw [HN.out]; omega)] at hc1
    have hv : behE[k - s.l.length]'(by rw [zic, HN.out]; omega) = mkEn 1 (k - n) := by simp [behE, HN.out]
    rw [hv] at hc1
    clear hv
    have hi1 : decide ((k : Int) < (n : Int)) = false := by simp; omega
    have hi3 : decide (k < n) = false := by simp; omega
    have hi2 : (n : Int) ≤ (k : Int) := by omega
    have hi4 : decide ((n : Int) ≤ (k : Int)) = true := decide_eq_true hi2
    have hi5 : decide (n ≤ k) = true := decide_eq_true (by omega)
    obtain ⟨j, hj⟩ : ∃ j, j = k - n := ⟨_, rfl⟩
    rw [← hj] at hc1
    have hju : ((j : Nat) : Int) = (k : Int) - (n : Int) := by omega
    have hmk : ∀ m : za0 wr, _ := fun m => zc9 m.at_ 1 j (by omega) (by omega)
    rw [hju] at hmk
    have hsm : ∀ m : za0 wr, Calls Tryz.prog 158 #[.agg #[I64 (mkEn 1 j).term, U8V (mkEn 1 j).kind, .slice (mkEn 1 j).cmd.a (mkEn 1 j).cmd.l.length (mkEn 1 j).cmd.c, .slice (mkEn 1 j).cfg.v.a (mkEn 1 j).cfg.v.l.length (mkEn 1 j).cfg.v.c, .slice (mkEn 1 j).cfg.o.a (mkEn 1 j).cfg.o.l.length (mkEn 1 j).cfg.o.c, .slice (mkEn 1 j).cfg.l.a (mkEn 1 j).cfg.l.l.length (mkEn 1 j).cfg.l.c, .slice (mkEn 1 j).cfg.w.a (mkEn 1 j).cfg.w.l.length (mkEn 1 j).cfg.w.c], .agg #[I64 (mkEn 1 j).term, U8V (mkEn 1 j).kind, .slice (mkEn 1 j).cmd.a (mkEn 1 j).cmd.l.length (mkEn 1 j).cmd.c, .slice (mkEn 1 j).cfg.v.a (mkEn 1 j).cfg.v.l.length (mkEn 1 j).cfg.v.c, .slice (mkEn 1 j).cfg.o.a (mkEn 1 j).cfg.o.l.length (mkEn 1 j).cfg.o.c, .slice (mkEn 1 j).cfg.l.a (mkEn 1 j).cfg.l.l.length (mkEn 1 j).cfg.l.c, .slice (mkEn 1 j).cfg.w.a (mkEn 1 j).cfg.w.l.length (mkEn 1 j).cfg.w.c]] m.at_ fun e w' => e = .returned (.bool true) ∧ Nw m.at_ w' := fun m =>
     (zei m.at_ (fun _ => False) (fun _ => False) (mkEn 1 j) (mkEn 1 j) (zau.mark _ _ _ _) (zau.mark _ _ _ _) zaW.zero').mono fun e w' h => ⟨by simpa using h.1, h.2⟩
    have HMK := Lib.hid hmk
    have HSM := Lib.hid hsm
    have L1 := Lib.hid (za0.cells hc1)
    clear hc1 hmk hsm hju hj
    have hsub2 : IntKind.i64.wrap ((k : Int) - (n : Int)) = (k : Int) - (n : Int) := IntWalk.i64_in _ (by omega)
    go_wp2_with fail
    refine zae (by kernel_rfl) (by kernel_rfl) ?_
    iterate 25 (go_big_quiet_step (fail))
    refine zaa (by kernel_rfl) 87 _ rfl _ (k * 7) rfl _ _ L1.out Tryz.underlying87 rfl (by kernel_rfl) ?_
    simp only [Act.put, sA9, sC9, sB9]
    repeat (go_big_quiet_step ((first | (go_at_call 138; exact za0.call (HMK.out _)) | (go_at_call 158; exact za0.call (HSM.out _)))))
    refine zaj fun w5 q5 => ?_
    go_wp2_with fail
    go_roundw
    case rel => exact ⟨k + 1, by omega, by go_num, hq.tr q5⟩
    case measure => simp [intOf]; omega
  ·go_wp2_with fail
   go_ret
   exact ⟨rfl, hq⟩
open Go Go.RowKit
theorem let_eq (x y : LetM) : decide (x.x = y.x) = (decide (x.kind = y.kind) && (decide (x.group = y.group) && (decide (x.src = y.src) && (decide (x.dst = y.dst) && (decide (x.term = y.term) && (decide (x.index = y.index) && (decide (x.logt = y.logt) && (decide (x.commit = y.commit) && (decide (x.ok = y.ok) && (decide (x.ents.l.map EntM.x = y.ents.l.map EntM.x) && (decide (x.base.x = y.base.x) && (decide (x.size = y.size) && (decide (x.at_ = y.at_) && (decide (x.tag = y.tag) && decide (x.bytes.l = y.bytes.l))))))))))))))) := by
 rw [Bool.eq_iff_iff]
 simp only [decide_eq_true_eq, Bool.and_eq_true, LetF.mk.injEq]
theorem zik (a b : Bool) : (a == b) = decide (a = b) := by cases a <;> cases b <;> rfl
theorem zdh (w : World) (F1 F2 : Nat → Prop) (x y : LetM) (hx : za3 w F1 x) (hy : za3 w F2 y) (hz : za8 x) :
  Calls Tryz.prog 38 #[.agg (letA x), .agg (letA y)] w fun e w' => e = .returned (.bool (decide (x.x = y.x))) ∧ Nw w w' := by
 rw [let_eq]
 obtain ⟨W0, hW0⟩ : ∃ W, W = w.alloc (.cells (letA x) 50) := ⟨_, rfl⟩
 have p0 : Nw w W0 := by rw [hW0]; exact (Fr.refl (fun _ => False) _).alloc _
 have b0 : Blk W0 w.heap.size 50 (letA x) := by rw [hW0]; exact Blk.new _ _ _
 have hz1 : W0.heap.size = w.heap.size + 1 := by rw [hW0]; simp
 obtain ⟨W1, hW1⟩ : ∃ W, W = W0.alloc (.cells (letA y) 50) := ⟨_, rfl⟩
 have p1 : Nw W0 W1 := by rw [hW1]; exact (Fr.refl (fun _ => False) _).alloc _
 have b1 : Blk W1 (w.heap.size + 1) 50 (letA y) := by rw [hW1, ← hz1]; exact Blk.new _ _ _
 have Q0 : Nw w W1 := p0.tr p1
 have b0 := b0.fr p1 (fun h => h)
 have z1 : (x.kind == y.kind) = (decide (x.kind = y.kind)) := rfl
 obtain ⟨d1, e1⟩ : ∃ d, (decide (x.kind = y.kind)) = d := ⟨_, rfl⟩
 simp only [e1] at z1 ⊢
 have z2 : (x.group == y.group) = (decide (x.group = y.group)) := rfl
 obtain ⟨d2, e2⟩ : ∃ d, (decide (x.group = y.group)) = d := ⟨_, rfl⟩
 simp only [e2] at z2 ⊢
 have z3 : (x.src == y.src) = (decide (x.src = y.src)) := rfl
 obtain ⟨d3, e3⟩ : ∃ d, (decide (x.src = y.src)) = d := ⟨_, rfl⟩
 simp only [e3] at z3 ⊢
 have z4 : (x.dst == y.dst) = (decide (x.dst = y.dst)) := rfl
 obtain ⟨d4, e4⟩ : ∃ d, (decide (x.dst = y.dst)) = d := ⟨_, rfl⟩
 simp only [e4] at z4 ⊢
 have z5 : (x.term == y.term) = (decide (x.term = y.term)) := rfl
 obtain ⟨d5, e5⟩ : ∃ d, (decide (x.term = y.term)) = d := ⟨_, rfl⟩
 simp only [e5] at z5 ⊢
 have z6 : (x.index == y.index) = (decide (x.index = y.index)) := rfl
 obtain ⟨d6, e6⟩ : ∃ d, (decide (x.index = y.index)) = d := ⟨_, rfl⟩
 simp only [e6] at z6 ⊢
 have z7 : (x.logt == y.logt) = (decide (x.logt = y.logt)) := rfl
 obtain ⟨d7, e7⟩ : ∃ d, (decide (x.logt = y.logt)) = d := ⟨_, rfl⟩
 simp only [e7] at z7 ⊢
 have z8 : (x.commit == y.commit) = (decide (x.commit = y.commit)) := rfl
 obtain ⟨d8, e8⟩ : ∃ d, (decide (x.commit = y.commit)) = d := ⟨_, rfl⟩
 simp only [e8] at z8 ⊢
 have z9 : (x.ok == y.ok) = (decide (x.ok = y.ok)) := zik _ _
 obtain ⟨d9, e9⟩ : ∃ d, (decide (x.ok = y.ok)) = d := ⟨_, rfl⟩
 simp only [e9] at z9 ⊢
 have z10 : ∀ m : za0 W1, Calls Tryz.prog 88 #[.slice x.ents.a x.ents.l.length x.ents.c, .slice y.ents.a y.ents.l.length y.ents.c] m.at_ fun e w' => e = .returned (.bool (decide (x.ents.l.map EntM.x = y.ents.l.map EntM.x))) ∧ Nw m.at_ w' := fun m => by
  have f := Q0.tr m.nw
  exact zl5 _ F1 F2 _ _ _ _ _ _ (hx.ents.nw f).sl (hy.ents.nw f).sl (fun e he => (hx.each e he).nw f) (fun e he => (hy.each e he).nw f) hz.each (by have := hz.ents; omega)
 obtain ⟨d10, e10⟩ : ∃ d, (decide (x.ents.l.map EntM.x = y.ents.l.map EntM.x)) = d := ⟨_, rfl⟩
 simp only [e10] at z10 ⊢
 have z11 : ∀ m : za0 W1, Calls Tryz.prog 89 #[.agg #[I64 x.base.index, I64 x.base.term, .slice x.base.cfg.v.a x.base.cfg.v.l.length x.base.cfg.v.c, .slice x.base.cfg.o.a x.base.cfg.o.l.length x.base.cfg.o.c, .slice x.base.cfg.l.a x.base.cfg.l.l.length x.base.cfg.l.c, .slice x.base.cfg.w.a x.base.cfg.w.l.length x.base.cfg.w.c], .agg #[I64 y.base.index, I64 y.base.term, .slice y.base.cfg.v.a y.base.cfg.v.l.length y.base.cfg.v.c, .slice y.base.cfg.o.a y.base.cfg.o.l.length y.base.cfg.o.c, .slice y.base.cfg.l.a y.base.cfg.l.l.length y.base.cfg.l.c, .slice y.base.cfg.w.a y.base.cfg.w.l.length y.base.cfg.w.c]] m.at_ fun e w' => e = .returned (.bool (decide (x.base.x = y.base.x))) ∧ Nw m.at_ w' := fun m => by
  have f := Q0.tr m.nw
  exact ziA _ F1 F2 _ _ (hx.cfg.nw f) (hy.cfg.nw f) hz.cfg
 obtain ⟨d11, e11⟩ : ∃ d, (decide (x.base.x = y.base.x)) = d := ⟨_, rfl⟩
 simp only [e11] at z11 ⊢
 have z12 : (x.size == y.size) = (decide (x.size = y.size)) := rfl
 obtain ⟨d12, e12⟩ : ∃ d, (decide (x.size = y.size)) = d := ⟨_, rfl⟩
 simp only [e12] at z12 ⊢
 have z13 : (x.at_ == y.at_) = (decide (x.at_ = y.at_)) := rfl
 obtain ⟨d13, e13⟩ : ∃ d, (decide (x.at_ = y.at_)) = d := ⟨_, rfl⟩
 simp only [e13] at z13 ⊢
 have z14 : (x.tag == y.tag) = (decide (x.tag = y.tag)) := rfl
 obtain ⟨d14, e14⟩ : ∃ d, (decide (x.tag = y.tag)) = d := ⟨_, rfl⟩
 simp only [e14] at z14 ⊢
 have z15 : ∀ m : za0 W1, Calls Tryz.prog 34 #[.slice x.bytes.a x.bytes.l.length x.bytes.c, .slice y.bytes.a y.bytes.l.length y.bytes.c] m.at_ fun e w' => e = .returned (.bool (decide (x.bytes.l = y.bytes.l))) ∧ Nw m.at_ w' := fun m => by
  have f := Q0.tr m.nw
  exact (zfH _ F1 F2 _ _ _ _ _ _ (hx.bytes.nw f).sl (hy.bytes.nw f).sl (by have := hz.bytes; omega)).mono fun e w' h => ⟨h.1, h.2.fr _⟩
 obtain ⟨d15, e15⟩ : ∃ d, (decide (x.bytes.l = y.bytes.l)) = d := ⟨_, rfl⟩
 simp only [e15] at z15 ⊢
 have hS : ∀ w1, Nw W1 w1 → w1.cell? ⟨w.heap.size, 0, none⟩ = some (U8V x.kind) ∧ w1.cell? ⟨w.heap.size, 1, none⟩ = some (I64 x.group) ∧ w1.cell? ⟨w.heap.size, 2, none⟩ = some (I64 x.src) ∧ w1.cell? ⟨w.heap.size, 3, none⟩ = some (I64 x.dst) ∧ w1.cell? ⟨w.heap.size, 4, none⟩ = some (I64 x.term) ∧ w1.cell? ⟨w.heap.size, 5, none⟩ = some (I64 x.index) ∧ w1.cell? ⟨w.heap.size, 6, none⟩ = some (I64 x.logt) ∧ w1.cell? ⟨w.heap.size, 7, none⟩ = some (I64 x.commit) ∧ w1.cell? ⟨w.heap.size, 8, none⟩ = some (.bool x.ok) ∧ w1.cell? ⟨w.heap.size, 9, none⟩ = some (.slice x.ents.a x.ents.l.length x.ents.c) ∧ w1.cell? ⟨w.heap.size, 10, none⟩ = some (I64 x.base.index) ∧ w1.cell? ⟨w.heap.size, 11, none⟩ = some (I64 x.base.term) ∧ w1.cell? ⟨w.heap.size, 12, none⟩ = some (.slice x.base.cfg.v.a x.base.cfg.v.l.length x.base.cfg.v.c) ∧ w1.cell? ⟨w.heap.size, 13, none⟩ = some (.slice x.base.cfg.o.a x.base.cfg.o.l.length x.base.cfg.o.c) ∧ w1.cell? ⟨w.heap.size, 14, none⟩ = some (.slice x.base.cfg.l.a x.base.cfg.l.l.length x.base.cfg.l.c) ∧ w1.cell? ⟨w.heap.size, 15, none⟩ = some (.slice x.base.cfg.w.a x.base.cfg.w.l.length x.base.cfg.w.c) ∧ w1.cell? ⟨w.heap.size, 16, none⟩ = some (I64 x.size) ∧ w1.cell? ⟨w.heap.size, 17, none⟩ = some (I64 x.at_) ∧ w1.cell? ⟨w.heap.size, 18, none⟩ = some (I64 x.tag) ∧ w1.cell? ⟨w.heap.size, 19, none⟩ = some (.slice x.bytes.a x.bytes.l.length x.bytes.c) ∧ w1.cell? ⟨(w.heap.size + 1), 0, none⟩ = some (U8V y.kind) ∧ w1.cell? ⟨(w.heap.size + 1), 1, none⟩ = some (I64 y.group) ∧ w1.cell? ⟨(w.heap.size + 1), 2, none⟩ = some (I64 y.src) ∧ w1.cell? ⟨(w.heap.size + 1), 3, none⟩ = some (I64 y.dst) ∧ w1.cell? ⟨(w.heap.size + 1), 4, none⟩ = some (I64 y.term) ∧ w1.cell? ⟨(w.heap.size + 1), 5, none⟩ = some (I64 y.index) ∧ w1.cell? ⟨(w.heap.size + 1), 6, none⟩ = some (I64 y.logt) ∧ w1.cell? ⟨(w.heap.size + 1), 7, none⟩ = some (I64 y.commit) ∧ w1.cell? ⟨(w.heap.size + 1), 8, none⟩ = some (.bool y.ok) ∧ w1.cell? ⟨(w.heap.size + 1), 9, none⟩ = some (.slice y.ents.a y.ents.l.length y.ents.c) ∧ w1.cell? ⟨(w.heap.size + 1), 10, none⟩ = some (I64 y.base.index) ∧ w1.cell? ⟨(w.heap.size + 1), 11, none⟩ = some (I64 y.base.term) ∧ w1.cell? ⟨(w.heap.size + 1), 12, none⟩ = some (.slice y.base.cfg.v.a y.base.cfg.v.l.length y.base.cfg.v.c) ∧ w1.cell? ⟨(w.heap.size + 1), 13, none⟩ = some (.slice y.base.cfg.o.a y.base.cfg.o.l.length y.base.cfg.o.c) ∧ w1.cell? ⟨(w.heap.size + 1), 14, none⟩ = some (.slice y.base.cfg.l.a y.base.cfg.l.l.length y.base.cfg.l.c) ∧ w1.cell? ⟨(w.heap.size + 1), 15, none⟩ = some (.slice y.base.cfg.w.a y.base.cfg.w.l.length y.base.cfg.w.c) ∧ w1.cell? ⟨(w.heap.size + 1), 16, none⟩ = some (I64 y.size) ∧ w1.cell? ⟨(w.heap.size + 1), 17, none⟩ = some (I64 y.at_) ∧ w1.cell? ⟨(w.heap.size + 1), 18, none⟩ = some (I64 y.tag) ∧ w1.cell? ⟨(w.heap.size + 1), 19, none⟩ = some (.slice y.bytes.a y.bytes.l.length y.bytes.c) := fun w1 f => by
  have a0 := b0.fr f (fun h => h)
  have a1 := b1.fr f (fun h => h)
  exact ⟨by simpa using a0.cell 0, by simpa using a0.cell 1, by simpa using a0.cell 2, by simpa using a0.cell 3, by simpa using a0.cell 4, by simpa using a0.cell 5, by simpa using a0.cell 6, by simpa using a0.cell 7, by simpa using a0.cell 8, by simpa using a0.cell 9, by simpa using a0.cell 10, by simpa using a0.cell 11, by simpa using a0.cell 12, by simpa using a0.cell 13, by simpa using a0.cell 14, by simpa using a0.cell 15, by simpa using a0.cell 16, by simpa using a0.cell 17, by simpa using a0.cell 18, by simpa using a0.cell 19, by simpa using a1.cell 0, by simpa using a1.cell 1, by simpa using a1.cell 2, by simpa using a1.cell 3, by simpa using a1.cell 4, by simpa using a1.cell 5, by simpa using a1.cell 6, by simpa using a1.cell 7, by simpa using a1.cell 8, by simpa using a1.cell 9, by simpa using a1.cell 10, by simpa using a1.cell 11, by simpa using a1.cell 12, by simpa using a1.cell 13, by simpa using a1.cell 14, by simpa using a1.cell 15, by simpa using a1.cell 16, by simpa using a1.cell 17, by simpa using a1.cell 18, by simpa using a1.cell 19⟩
 have HW0 := Lib.hid hW0
 have HW1 := Lib.hid hW1
 clear hW0 b0 hW1 b1 e1 e2 e3 e4 e5 e6 e7 e8 e9 e10 e11 e12 e13 e14 e15
 go_enter Tryz.func38, Tryz.ntmps38
 go_upto_region 1 with (fail)
 rw [← HW0.out, ← HW1.out]
 obtain ⟨k0_0_0, k0_0_1, k0_0_2, k0_0_3, k0_0_4, k0_0_5, k0_0_6, k0_0_7, k0_0_8, k0_0_9, _, _, _, _, _, _, _, _, _, _, k0_1_0, k0_1_1, k0_1_2, k0_1_3, k0_1_4, k0_1_5, k0_1_6, k0_1_7, k0_1_8, k0_1_9, _, _, _, _, _, _, _, _, _, _⟩ := hS W1 (Fr.refl _ _)
 have HS := Lib.hid hS
 clear hS
 go_wp2_with fail
 any_goals (go_ret; exact ⟨zad (congrArg Value.bool (by simp [*])), Q0.tr (Fr.refl (fun _ => False) W1)⟩)
 refine (z10 ⟨_, (Fr.refl (fun _ => False) W1)⟩).mono ?_
 rintro e v1 ⟨rfl, r1⟩
 have Q1 : Nw W1 v1 := (Fr.refl (fun _ => False) W1).tr r1
 obtain ⟨_, _, _, _, _, _, _, _, _, _, k1_0_10, k1_0_11, k1_0_12, k1_0_13, k1_0_14, k1_0_15, _, _, _, _, _, _, _, _, _, _, _, _, _, _, k1_1_10, k1_1_11, k1_1_12, k1_1_13, k1_1_14, k1_1_15, _, _, _, _⟩ := HS.out v1 Q1
 go_wp2_with fail
 any_goals (go_ret; exact ⟨zad (congrArg Value.bool (by simp [*])), Q0.tr Q1⟩)
 refine (z11 ⟨_, Q1⟩).mono ?_
 rintro e v2 ⟨rfl, r2⟩
 have Q2 : Nw W1 v2 := Q1.tr r2
 obtain ⟨_, _, _, _, _, _, _, _, _, _, _, _, _, _, _, _, k2_0_16, k2_0_17, k2_0_18, k2_0_19, _, _, _, _, _, _, _, _, _, _, _, _, _, _, _, _, k2_1_16, k2_1_17, k2_1_18, k2_1_19⟩ := HS.out v2 Q2
 go_wp2_with fail
 any_goals (go_ret; exact ⟨zad (congrArg Value.bool (by simp [*])), Q0.tr Q2⟩)
 refine (z15 ⟨_, Q2⟩).mono ?_
 rintro e v3 ⟨rfl, r3⟩
 have Q3 : Nw W1 v3 := Q2.tr r3
 go_wp2_with fail
 all_goals (go_ret; exact ⟨zad (congrArg Value.bool (by simp [*])), Q0.tr Q3⟩)
open Go Go.RowKit
def zk8 (w : World) (xs ys : List LetM) (i : Value) (wr : World) : Prop := ∃ k : Nat, i = .int .i64 k ∧ k ≤ xs.length ∧ (xs.take k).map LetM.x = (ys.take k).map LetM.x ∧ Nw w wr
theorem zkO (w : World) (F1 F2 : Nat → Prop) (A1 A2 : Option Addr) (c1 c2 : Nat) (xs ys : List LetM) (h1 : Sl w F1 A1 (zai xs)) (h2 : Sl w F2 A2 (zai ys)) (e1 : ∀ e ∈ xs, za3 w F1 e) (e2 : ∀ e ∈ ys, za3 w F2 e) (hz : ∀ e ∈ xs, za8 e) (hm1 : xs.length ≤ 1000000000000) :
  Calls Tryz.prog 45 #[.slice A1 xs.length c1, .slice A2 ys.length c2] w fun e w' => e = .returned (.bool (decide (xs.map LetM.x = ys.map LetM.x))) ∧ Nw w w' := by
 by_cases hl : xs.length = ys.length
 ·have hlen : ((xs.length : Int) != (ys.length : Int)) = false := by simp [hl]
  have HL := Lib.hid hl
  have HZ := Lib.hid hz
  have E1 := Lib.hid e1
  have E2 := Lib.hid e2
  clear hl hz e1 e2
  go_enter Tryz.func45, Tryz.ntmps45
  go_wp2_with fail
  go_loopw [5] (fun i wr => zk8 w xs ys i wr) (fun i _ => xs.length - (intOf i).toNat)
  case atStart => exact ⟨0, rfl, Nat.zero_le _, rfl, Fr.refl _ _⟩
  case round =>
   obtain ⟨k, rfl, hk, ht, hq⟩ := hrel
   have HT := Lib.hid ht
   clear ht
   by_cases hlt : k < xs.length
   ·have hlt2 : k < ys.length := by have := HL.out; omega
    obtain ⟨b1, o1, rfl, _, _, hc1⟩ := (h1.fr hq (fun _ _ h => h)).let_ hlt
    obtain ⟨b2, o2, rfl, _, _, hc2⟩ := (h2.fr hq (fun _ _ h => h)).let_ hlt2
    have hi1 : (k : Int) < (xs.length : Int) := by omega
    have hi2 : (k : Int) < (ys.length : Int) := by omega
    have x1 := (E1.out _ (List.getElem_mem hlt)).nw hq
    have x2 := (E2.out _ (List.getElem_mem hlt2)).nw hq
    have z1 := HZ.out _ (List.getElem_mem hlt)
    obtain ⟨x, hx⟩ : ∃ x, xs[k] = x := ⟨_, rfl⟩
    obtain ⟨y, hy⟩ : ∃ y, ys[k] = y := ⟨_, rfl⟩
    rw [hx] at x1 z1 hc1
    rw [hy] at x2 hc2
    have hsm : ∀ m : za0 wr, Calls Tryz.prog 38 #[.agg (letA x), .agg (letA y)] m.at_ fun e w' => e = .returned (.bool (decide (x.x = y.x))) ∧ Nw m.at_ w' := fun m => zdh _ F1 F2 x y (x1.nw m.nw) (x2.nw m.nw) z1
    obtain ⟨d, hd⟩ : ∃ d, decide (x.x = y.x) = d := ⟨_, rfl⟩
    simp only [hd] at hsm
    have HD := Lib.hid hd
    have HX := Lib.hid hx
    have HY := Lib.hid hy
    have HSM := Lib.hid hsm
    have hC1 := za0.cells hc1
    have hC2 := za0.cells hc2
    have L1 := Lib.hid hC1
    have L2 := Lib.hid hC2
    clear hc1 hc2 hC1 hC2 hd hx hy hsm x1 x2 z1
    go_wp2_with fail
    refine zae (by kernel_rfl) (by kernel_rfl) ?_
    repeat (first | (refine zaa (by rfl) 50 _ rfl b1 (o1 + k * 20) rfl _ _ L1.out Tryz.underlying50 rfl (by kernel_rfl) ?_; simp only [Act.put, sA9, sC9, sB9]) | (refine zaa (by rfl) 50 _ rfl b2 (o2 + k * 20) rfl _ _ L2.out Tryz.underlying50 rfl (by kernel_rfl) ?_; simp only [Act.put, sA9, sC9, sB9]) | go_big_quiet_step ((go_at_call 38; exact za0.call (HSM.out _))))
    refine zaj fun w5 q5 => ?_
    cases d with
    | false =>
     go_wp2_with fail
     go_ret
     refine ⟨zad (congrArg Value.bool (decide_eq_false fun h => ?_).symm), hq.tr q5⟩
     have h3 := congrArg (fun l => l[k]?) h
     simp only [List.getElem?_map, List.getElem?_eq_getElem hlt, List.getElem?_eq_getElem hlt2, Option.map_some] at h3
     injection h3 with h3
     rw [HX.out, HY.out] at h3
     exact of_decide_eq_false HD.out h3
    | true =>
     go_wp2_with fail
     go_roundw
     case rel =>
      refine ⟨k + 1, by go_num, by omega, ?_, hq.tr q5⟩
      rw [List.take_succ_eq_append_getElem hlt, List.take_succ_eq_append_getElem hlt2, List.map_append, List.map_append, HT.out, HX.out, HY.out]
      congr 1
      rw [List.map_singleton, List.map_singleton, of_decide_eq_true HD.out]
     case measure => simp [intOf]; omega
   ·go_wp2_with fail
    go_ret
    have hx : xs.map LetM.x = ys.map LetM.x := by
     have := HT.out
     rwa [List.take_of_length_le (by omega), List.take_of_length_le (by have := HL.out; omega)] at this
    exact ⟨zad (congrArg Value.bool (decide_eq_true hx).symm), hq⟩
 ·have hlen : ((xs.length : Int) != (ys.length : Int)) = true := by simp; omega
  go_enter Tryz.func45, Tryz.ntmps45
  go_wp2_with fail
  go_ret
  exact ⟨zad (congrArg Value.bool (decide_eq_false fun h => hl (by have := congrArg List.length h; simpa using this)).symm), Fr.refl _ _⟩
open Go Go.RowKit
theorem zf4 (w : World) (F1 F2 : Nat → Prop) (x y : LetM) (hx : zbz w F1 x) (hy : za3 w F2 y) (he : x.x = y.x) (hz : za8 x) :
  Calls Tryz.prog 40 #[.agg (letA x), .agg (letA y)] w fun e w' => e = .returned (.bool (true)) ∧ Nw w w' := by
 have h_e : x.ents.l.map EntM.x = y.ents.l.map EntM.x := congrArg LetF.ents he
 have h_s : x.base.x = y.base.x := congrArg LetF.base he
 have h_b : x.bytes.l = y.bytes.l := congrArg LetF.bytes he
 obtain ⟨W0, hW0⟩ : ∃ W, W = w.alloc (.cells (letA x) 50) := ⟨_, rfl⟩
 have p0 : Nw w W0 := by rw [hW0]; exact (Fr.refl (fun _ => False) _).alloc _
 have b0 : Blk W0 w.heap.size 50 (letA x) := by rw [hW0]; exact Blk.new _ _ _
 have hz1 : W0.heap.size = w.heap.size + 1 := by rw [hW0]; simp
 obtain ⟨W1, hW1⟩ : ∃ W, W = W0.alloc (.cells (letA y) 50) := ⟨_, rfl⟩
 have p1 : Nw W0 W1 := by rw [hW1]; exact (Fr.refl (fun _ => False) _).alloc _
 have b1 : Blk W1 (w.heap.size + 1) 50 (letA y) := by rw [hW1, ← hz1]; exact Blk.new _ _ _
 have Q0 : Nw w W1 := p0.tr p1
 have b0 := b0.fr p1 (fun h => h)
 have z1 : ∀ m : za0 W1, Calls Tryz.prog 38 #[.agg (letA x), .agg (letA y)] m.at_ fun e w' => e = .returned (.bool (true)) ∧ Nw m.at_ w' := fun m => by
  have f := Q0.tr m.nw
  exact (zdh _ F1 F2 _ _ (hx.in_.nw f) (hy.nw f) hz).mono fun e w' h => ⟨by rw [decide_eq_true he] at h; exact h.1, h.2⟩
 have z2 : ∀ m : za0 W1, Calls Tryz.prog 90 #[.slice x.ents.a x.ents.l.length x.ents.c, .slice y.ents.a y.ents.l.length y.ents.c] m.at_ fun e w' => e = .returned (.bool (true)) ∧ Nw m.at_ w' := fun m => by
  have f := Q0.tr m.nw
  exact zkZ _ F1 F2 x.ents (hx.ents.nw f) _ _ _ ((hy.ents.nw f).sl) (fun e he => (hy.each e he).nw f) h_e hz.each (by have := hz.ents; omega)
 have z3 : ∀ m : za0 W1, Calls Tryz.prog 91 #[.agg #[I64 x.base.index, I64 x.base.term, .slice x.base.cfg.v.a x.base.cfg.v.l.length x.base.cfg.v.c, .slice x.base.cfg.o.a x.base.cfg.o.l.length x.base.cfg.o.c, .slice x.base.cfg.l.a x.base.cfg.l.l.length x.base.cfg.l.c, .slice x.base.cfg.w.a x.base.cfg.w.l.length x.base.cfg.w.c], .agg #[I64 y.base.index, I64 y.base.term, .slice y.base.cfg.v.a y.base.cfg.v.l.length y.base.cfg.v.c, .slice y.base.cfg.o.a y.base.cfg.o.l.length y.base.cfg.o.c, .slice y.base.cfg.l.a y.base.cfg.l.l.length y.base.cfg.l.c, .slice y.base.cfg.w.a y.base.cfg.w.l.length y.base.cfg.w.c]] m.at_ fun e w' => e = .returned (.bool (true)) ∧ Nw m.at_ w' := fun m => by
  have f := Q0.tr m.nw
  exact zlZ _ F1 F2 _ _ (hx.cfg.nw f) (hy.cfg.nw f) h_s hz.cfg
 have z4 : ∀ m : za0 W1, Calls Tryz.prog 46 #[.slice x.bytes.a x.bytes.l.length x.bytes.c, .slice y.bytes.a y.bytes.l.length y.bytes.c] m.at_ fun e w' => e = .returned (.bool (true)) ∧ Nw m.at_ w' := fun m => by
  have f := Q0.tr m.nw
  exact zfA _ F1 F2 x.bytes (hx.bytes.nw f) _ _ _ ((hy.bytes.nw f).sl) h_b (by have := hz.bytes; omega)
 have hS : ∀ w1, Nw W1 w1 → w1.cell? ⟨w.heap.size, 0, none⟩ = some (U8V x.kind) ∧ w1.cell? ⟨w.heap.size, 1, none⟩ = some (I64 x.group) ∧ w1.cell? ⟨w.heap.size, 2, none⟩ = some (I64 x.src) ∧ w1.cell? ⟨w.heap.size, 3, none⟩ = some (I64 x.dst) ∧ w1.cell? ⟨w.heap.size, 4, none⟩ = some (I64 x.term) ∧ w1.cell? ⟨w.heap.size, 5, none⟩ = some (I64 x.index) ∧ w1.cell? ⟨w.heap.size, 6, none⟩ = some (I64 x.logt) ∧ w1.cell? ⟨w.heap.size, 7, none⟩ = some (I64 x.commit) ∧ w1.cell? ⟨w.heap.size, 8, none⟩ = some (.bool x.ok) ∧ w1.cell? ⟨w.heap.size, 9, none⟩ = some (.slice x.ents.a x.ents.l.length x.ents.c) ∧ w1.cell? ⟨w.heap.size, 10, none⟩ = some (I64 x.base.index) ∧ w1.cell? ⟨w.heap.size, 11, none⟩ = some (I64 x.base.term) ∧ w1.cell? ⟨w.heap.size, 12, none⟩ = some (.slice x.base.cfg.v.a x.base.cfg.v.l.length x.base.cfg.v.c) ∧ w1.cell? ⟨w.heap.size, 13, none⟩ = some (.slice x.base.cfg.o.a x.base.cfg.o.l.length x.base.cfg.o.c) ∧ w1.cell? ⟨w.heap.size, 14, none⟩ = some (.slice x.base.cfg.l.a x.base.cfg.l.l.length x.base.cfg.l.c) ∧ w1.cell? ⟨w.heap.size, 15, none⟩ = some (.slice x.base.cfg.w.a x.base.cfg.w.l.length x.base.cfg.w.c) ∧ w1.cell? ⟨w.heap.size, 16, none⟩ = some (I64 x.size) ∧ w1.cell? ⟨w.heap.size, 17, none⟩ = some (I64 x.at_) ∧ w1.cell? ⟨w.heap.size, 18, none⟩ = some (I64 x.tag) ∧ w1.cell? ⟨w.heap.size, 19, none⟩ = some (.slice x.bytes.a x.bytes.l.length x.bytes.c) ∧ w1.cell? ⟨(w.heap.size + 1), 0, none⟩ = some (U8V y.kind) ∧ w1.cell? ⟨(w.heap.size + 1), 1, none⟩ = some (I64 y.group) ∧ w1.cell? ⟨(w.heap.size + 1), 2, none⟩ = some (I64 y.src) ∧ w1.cell? ⟨(w.heap.size + 1), 3, none⟩ = some (I64 y.dst) ∧ w1.cell? ⟨(w.heap.size + 1), 4, none⟩ = some (I64 y.term) ∧ w1.cell? ⟨(w.heap.size + 1), 5, none⟩ = some (I64 y.index) ∧ w1.cell? ⟨(w.heap.size + 1), 6, none⟩ = some (I64 y.logt) ∧ w1.cell? ⟨(w.heap.size + 1), 7, none⟩ = some (I64 y.commit) ∧ w1.cell? ⟨(w.heap.size + 1), 8, none⟩ = some (.bool y.ok) ∧ w1.cell? ⟨(w.heap.size + 1), 9, none⟩ = some (.slice y.ents.a y.ents.l.length y.ents.c) ∧ w1.cell? ⟨(w.heap.size + 1), 10, none⟩ = some (I64 y.base.index) ∧ w1.cell? ⟨(w.heap.size + 1), 11, none⟩ = some (I64 y.base.term) ∧ w1.cell? ⟨(w.heap.size + 1), 12, none⟩ = some (.slice y.base.cfg.v.a y.base.cfg.v.l.length y.base.cfg.v.c) ∧ w1.cell? ⟨(w.heap.size + 1), 13, none⟩ = some (.slice y.base.cfg.o.a y.base.cfg.o.l.length y.base.cfg.o.c) ∧ w1.cell? ⟨(w.heap.size + 1), 14, none⟩ = some (.slice y.base.cfg.l.a y.base.cfg.l.l.length y.base.cfg.l.c) ∧ w1.cell? ⟨(w.heap.size + 1), 15, none⟩ = some (.slice y.base.cfg.w.a y.base.cfg.w.l.length y.base.cfg.w.c) ∧ w1.cell? ⟨(w.heap.size + 1), 16, none⟩ = some (I64 y.size) ∧ w1.cell? ⟨(w.heap.size + 1), 17, none⟩ = some (I64 y.at_) ∧ w1.cell? ⟨(w.heap.size + 1), 18, none⟩ = some (I64 y.tag) ∧ w1.cell? ⟨(w.heap.size + 1), 19, none⟩ = some (.slice y.bytes.a y.bytes.l.length y.bytes.c) := fun w1 f => by
  have a0 := b0.fr f (fun h => h)
  have a1 := b1.fr f (fun h => h)
  exact ⟨by simpa using a0.cell 0, by simpa using a0.cell 1, by simpa using a0.cell 2, by simpa using a0.cell 3, by simpa using a0.cell 4, by simpa using a0.cell 5, by simpa using a0.cell 6, by simpa using a0.cell 7, by simpa using a0.cell 8, by simpa using a0.cell 9, by simpa using a0.cell 10, by simpa using a0.cell 11, by simpa using a0.cell 12, by simpa using a0.cell 13, by simpa using a0.cell 14, by simpa using a0.cell 15, by simpa using a0.cell 16, by simpa using a0.cell 17, by simpa using a0.cell 18, by simpa using a0.cell 19, by simpa using a1.cell 0, by simpa using a1.cell 1, by simpa using a1.cell 2, by simpa using a1.cell 3, by simpa using a1.cell 4, by simpa using a1.cell 5, by simpa using a1.cell 6, by simpa using a1.cell 7, by simpa using a1.cell 8, by simpa using a1.cell 9, by simpa using a1.cell 10, by simpa using a1.cell 11, by simpa using a1.cell 12, by simpa using a1.cell 13, by simpa using a1.cell 14, by simpa using a1.cell 15, by simpa using a1.cell 16, by simpa using a1.cell 17, by simpa using a1.cell 18, by simpa using a1.cell 19⟩
 have HW0 := Lib.hid hW0
 have HW1 := Lib.hid hW1
 clear hW0 hW1 
 clear h_e h_s h_b he
 go_enter Tryz.func40, Tryz.ntmps40
 go_upto_region 1 with (fail)
 rw [← HW0.out, ← HW1.out]
 have bb1_0 := b0.fr (Fr.refl (fun _ => False) W1) (fun h => h)
 have bb1_1 := b1.fr (Fr.refl (fun _ => False) W1) (fun h => h)
 go_wp2_with (first | (refine wpList_load_row rfl 50 _ rfl w.heap.size rfl 50 _ (0, 0) _ bb1_0 Tryz.underlying50 rfl (by kernel_rfl) ?_) | (refine wpList_load_row rfl 50 _ rfl (w.heap.size + 1) rfl 50 _ (0, 0) _ bb1_1 Tryz.underlying50 rfl (by kernel_rfl) ?_))
 refine (z1 ⟨_, (Fr.refl (fun _ => False) W1)⟩).mono ?_
 rintro e v1 ⟨rfl, r1⟩
 clear bb1_0 bb1_1
 have Q1 : Nw W1 v1 := (Fr.refl (fun _ => False) W1).tr r1
 obtain ⟨_, _, _, _, _, _, _, _, _, k1_0_9, _, _, _, _, _, _, _, _, _, _, _, _, _, _, _, _, _, _, _, k1_1_9, _, _, _, _, _, _, _, _, _, _⟩ := hS v1 Q1
 go_wp2_with fail
 refine (z2 ⟨_, Q1⟩).mono ?_
 rintro e v2 ⟨rfl, r2⟩
 have Q2 : Nw W1 v2 := Q1.tr r2
 have bb3_0 := b0.fr Q2 (fun h => h)
 have bs3_0 : ∀ p u, ([I64 x.base.index, I64 x.base.term, .slice x.base.cfg.v.a x.base.cfg.v.l.length x.base.cfg.v.c, .slice x.base.cfg.o.a x.base.cfg.o.l.length x.base.cfg.o.c, .slice x.base.cfg.l.a x.base.cfg.l.l.length x.base.cfg.l.c, .slice x.base.cfg.w.a x.base.cfg.w.l.length x.base.cfg.w.c] : List Value)[p]? = some u → _ := Blk.cells_in (l := (letL x)) bb3_0 10 6
 have bb3_1 := b1.fr Q2 (fun h => h)
 have bs3_1 : ∀ p u, ([I64 y.base.index, I64 y.base.term, .slice y.base.cfg.v.a y.base.cfg.v.l.length y.base.cfg.v.c, .slice y.base.cfg.o.a y.base.cfg.o.l.length y.base.cfg.o.c, .slice y.base.cfg.l.a y.base.cfg.l.l.length y.base.cfg.l.c, .slice y.base.cfg.w.a y.base.cfg.w.l.length y.base.cfg.w.c] : List Value)[p]? = some u → _ := Blk.cells_in (l := (letL y)) bb3_1 10 6
 go_wp2_with (first | (refine za5 rfl 47 _ rfl w.heap.size 10 rfl [I64 x.base.index, I64 x.base.term, .slice x.base.cfg.v.a x.base.cfg.v.l.length x.base.cfg.v.c, .slice x.base.cfg.o.a x.base.cfg.o.l.length x.base.cfg.o.c, .slice x.base.cfg.l.a x.base.cfg.l.l.length x.base.cfg.l.c, .slice x.base.cfg.w.a x.base.cfg.w.l.length x.base.cfg.w.c] _ bs3_0 Tryz.underlying47 rfl (by kernel_rfl) ?_) | (refine za5 rfl 47 _ rfl (w.heap.size + 1) 10 rfl [I64 y.base.index, I64 y.base.term, .slice y.base.cfg.v.a y.base.cfg.v.l.length y.base.cfg.v.c, .slice y.base.cfg.o.a y.base.cfg.o.l.length y.base.cfg.o.c, .slice y.base.cfg.l.a y.base.cfg.l.l.length y.base.cfg.l.c, .slice y.base.cfg.w.a y.base.cfg.w.l.length y.base.cfg.w.c] _ bs3_1 Tryz.underlying47 rfl (by kernel_rfl) ?_))
 refine (z3 ⟨_, Q2⟩).mono ?_
 rintro e v3 ⟨rfl, r3⟩
 clear bb3_0 bs3_0 bb3_1 bs3_1
 have Q3 : Nw W1 v3 := Q2.tr r3
 obtain ⟨_, _, _, _, _, _, _, _, _, _, _, _, _, _, _, _, _, _, _, k3_0_19, _, _, _, _, _, _, _, _, _, _, _, _, _, _, _, _, _, _, _, k3_1_19⟩ := hS v3 Q3
 go_wp2_with fail
 refine (z4 ⟨_, Q3⟩).mono ?_
 rintro e v4 ⟨rfl, r4⟩
 have Q4 : Nw W1 v4 := Q3.tr r4
 go_wp2_with fail
 go_ret
 exact ⟨rfl, Q0.tr Q4⟩
def zkd (w : World) (n : Nat) (i : Value) (wr : World) : Prop := ∃ k : Nat, k ≤ n + 12 ∧ i = .int .i64 k ∧ Nw w wr
theorem zkX (w : World) (F1 F2 : Nat → Prop) (s : Ls LetM) (hs : zbv w F1 s) (A2 : Option Addr) (c2 : Nat) (ys : List LetM) (h2 : Sl w F2 A2 (zai ys)) (e2 : ∀ e ∈ ys, za3 w F2 e) (he : s.l.map LetM.x = ys.map LetM.x) (hz : ∀ e ∈ s.l, za8 e) (hsz : s.l.length ≤ 100000000) :
  Calls Tryz.prog 39 #[s.v, .slice A2 ys.length c2] w fun e w' => e = .returned (.bool true) ∧ Nw w w' := by
 obtain ⟨⟨g, hg, hc, hcm, ho, hF⟩, hev⟩ := hs
 have hyl : ys.length = s.l.length := by have := congrArg List.length he; simpa using this.symm
 obtain ⟨n, hn⟩ : ∃ n, s.l.length = n := ⟨_, rfl⟩
 have hsl := zcN (P := Tryz.prog) 28 zgn 20 zhC (some ⟨g, 0, none⟩) n (n + 12) (n + 12) (Nat.le_refl _)
 have e12 : (((n + 12 : Nat)) : Int) = (n : Int) + 12 := by omega
 rw [e12] at hsl
 unfold Ls.v
 rw [hg, hc, hyl, hn]
 rw [hn] at ho
 have HN := Lib.hid hn
 have HYL := Lib.hid hyl
 have HE := Lib.hid he
 have HEV := Lib.hid hev
 have E2 := Lib.hid e2
 have HZ := Lib.hid hz
 clear hg hc hn hyl he hev e2 hz
 rw [HN.out] at hsz
 have hnn : ((n : Int) != (n : Int)) = false := by simp
 go_enter Tryz.func39, Tryz.ntmps39
 go_wp2_with fail
 go_loopw [6] (fun i wr => zkd w n i wr) (fun i _ => n + 12 - (intOf i).toNat)
 case atStart => exact ⟨0, by omega, rfl, Fr.refl _ _⟩
 case round =>
  obtain ⟨k, hk, rfl, hq⟩ := hrel
  by_cases hlt : k < n + 12
  ·have hl12 : k < (s.l ++ behL).length := by rw [List.length_append, zi7, HN.out]; exact hlt
   obtain ⟨b1, o1, hbo, _, _, hc1⟩ := ((ho.fr hq (fun _ _ h => h)).sl).let_ hl12
   injection hbo with hbo
   injection hbo with e1 e2 _
   subst e1
   subst e2
   simp only [Nat.zero_add] at hc1
   have hi0 : (k : Int) < (n : Int) + 12 := by omega
   by_cases hlt2 : k < n
   ·have hkl : k < s.l.length := by rw [HN.out]; exact hlt2
    have hky : k < ys.length := by rw [HYL.out]; exact hkl
    obtain ⟨b2, o2, rfl, _, _, hc2⟩ := (h2.fr hq (fun _ _ h => h)).let_ hky
    rw [List.getElem_append_left hkl] at hc1
    have hxy : (s.l[k]).x = (ys[k]).x := by
     have h3 := congrArg (fun l => l[k]?) HE.out
     simp only [List.getElem?_map, List.getElem?_eq_getElem hkl, List.getElem?_eq_getElem hky, Option.map_some] at h3
     injection h3
    have x1 := (HEV.out _ (List.getElem_mem hkl)).nw hq
    have x2 := (E2.out _ (List.getElem_mem hky)).nw hq
    have z1 := HZ.out _ (List.getElem_mem hkl)
    obtain ⟨x, hx⟩ : ∃ x, s.l[k] = x := ⟨_, rfl⟩
    obtain ⟨y, hy⟩ : ∃ y, ys[k] = y := ⟨_, rfl⟩
    rw [hx] at hc1 x1 z1 hxy
    rw [hy] at hc2 x2 hxy
    have hkp : ∀ m : za0 wr, Calls Tryz.prog 40 #[.agg (letA x), .agg (letA y)] m.at_ fun e w' => e = .returned (.bool true) ∧ Nw m.at_ w' := fun m => zf4 _ F1 F2 x y (x1.nw m.nw) (x2.nw m.nw) hxy z1
    have HK := Lib.hid hkp
    have L1 := Lib.hid (za0.cells hc1)
    have L2 := Lib.hid (za0.cells hc2)
    clear hx hy hc1 hc2 hxy x1 x2 z1 hkp
    have hi1 : (k : Int) < (n : Int) := by omega
    have hi2 : decide ((n : Int) ≤ (k : Int)) = false := by simp; omega
    have hi3 : decide (n ≤ k) = false := by simp; omega
    have hi4 : decide ((k : Int) < (n : Int)) = true := decide_eq_true hi1
    have hi5 : decide (k < n) = true := decide_eq_true hlt2
    go_wp2_with fail
    refine zae (by kernel_rfl) (by kernel_rfl) ?_
    iterate 8 (go_big_quiet_step (fail))
    refine zaa (by kernel_rfl) 50 _ rfl _ (k * 20) rfl _ _ L1.out Tryz.underlying50 rfl (by kernel_rfl) ?_
    simp only [Act.put, sA9, sC9, sB9]
    iterate 3 (go_big_quiet_step (fail))
    refine zaa (by kernel_rfl) 50 _ rfl b2 (o2 + k * 20) rfl _ _ L2.out Tryz.underlying50 rfl (by kernel_rfl) ?_
    simp only [Act.put, sA9, sC9, sB9]
    repeat (go_big_quiet_step ((go_at_call 40; exact za0.call (HK.out _))))
    refine zaj fun w5 q5 => ?_
    go_wp2_with fail
    go_roundw
    case rel => exact ⟨k + 1, by omega, by go_num, hq.tr q5⟩
    case measure => simp [intOf]; omega
   ·rw [List.getElem_append_right (by rw [HN.out]; omega)] at hc1
    have hv : behL[k - s.l.length]'(by rw [zi7, HN.out]; omega) = mkLe 1 (k - n) := by simp [behL, HN.out]
    rw [hv] at hc1
    clear hv
    have hi1 : decide ((k : Int) < (n : Int)) = false := by simp; omega
    have hi3 : decide (k < n) = false := by simp; omega
    have hi2 : (n : Int) ≤ (k : Int) := by omega
    have hi4 : decide ((n : Int) ≤ (k : Int)) = true := decide_eq_true hi2
    have hi5 : decide (n ≤ k) = true := decide_eq_true (by omega)
    obtain ⟨j, hj⟩ : ∃ j, j = k - n := ⟨_, rfl⟩
    rw [← hj] at hc1
    have hju : ((j : Nat) : Int) = (k : Int) - (n : Int) := by omega
    have hmk : ∀ m : za0 wr, _ := fun m => zc3 m.at_ 1 j (by omega) (by omega)
    rw [hju] at hmk
    have hsm : ∀ m : za0 wr, Calls Tryz.prog 38 #[.agg #[U8V (mkLe 1 j).kind, I64 (mkLe 1 j).group, I64 (mkLe 1 j).src, I64 (mkLe 1 j).dst, I64 (mkLe 1 j).term, I64 (mkLe 1 j).index, I64 (mkLe 1 j).logt, I64 (mkLe 1 j).commit, .bool (mkLe 1 j).ok, .slice (mkLe 1 j).ents.a (mkLe 1 j).ents.l.length (mkLe 1 j).ents.c, I64 (mkLe 1 j).base.index, I64 (mkLe 1 j).base.term, .slice (mkLe 1 j).base.cfg.v.a (mkLe 1 j).base.cfg.v.l.length (mkLe 1 j).base.cfg.v.c, .slice (mkLe 1 j).base.cfg.o.a (mkLe 1 j).base.cfg.o.l.length (mkLe 1 j).base.cfg.o.c, .slice (mkLe 1 j).base.cfg.l.a (mkLe 1 j).base.cfg.l.l.length (mkLe 1 j).base.cfg.l.c, .slice (mkLe 1 j).base.cfg.w.a (mkLe 1 j).base.cfg.w.l.length (mkLe 1 j).base.cfg.w.c, I64 (mkLe 1 j).size, I64 (mkLe 1 j).at_, I64 (mkLe 1 j).tag, .slice (mkLe 1 j).bytes.a (mkLe 1 j).bytes.l.length (mkLe 1 j).bytes.c], .agg #[U8V (mkLe 1 j).kind, I64 (mkLe 1 j).group, I64 (mkLe 1 j).src, I64 (mkLe 1 j).dst, I64 (mkLe 1 j).term, I64 (mkLe 1 j).index, I64 (mkLe 1 j).logt, I64 (mkLe 1 j).commit, .bool (mkLe 1 j).ok, .slice (mkLe 1 j).ents.a (mkLe 1 j).ents.l.length (mkLe 1 j).ents.c, I64 (mkLe 1 j).base.index, I64 (mkLe 1 j).base.term, .slice (mkLe 1 j).base.cfg.v.a (mkLe 1 j).base.cfg.v.l.length (mkLe 1 j).base.cfg.v.c, .slice (mkLe 1 j).base.cfg.o.a (mkLe 1 j).base.cfg.o.l.length (mkLe 1 j).base.cfg.o.c, .slice (mkLe 1 j).base.cfg.l.a (mkLe 1 j).base.cfg.l.l.length (mkLe 1 j).base.cfg.l.c, .slice (mkLe 1 j).base.cfg.w.a (mkLe 1 j).base.cfg.w.l.length (mkLe 1 j).base.cfg.w.c, I64 (mkLe 1 j).size, I64 (mkLe 1 j).at_, I64 (mkLe 1 j).tag, .slice (mkLe 1 j).bytes.a (mkLe 1 j).bytes.l.length (mkLe 1 j).bytes.c]] m.at_ fun e w' => e = .returned (.bool true) ∧ Nw m.at_ w' := fun m =>
     (zdh m.at_ (fun _ => False) (fun _ => False) (mkLe 1 j) (mkLe 1 j) (za3.mark _ _ _ _) (za3.mark _ _ _ _) za8.zero').mono fun e w' h => ⟨by simpa using h.1, h.2⟩
    have HMK := Lib.hid hmk
    have HSM := Lib.hid hsm
    have L1 := Lib.hid (za0.cells hc1)
    clear hc1 hmk hsm hju hj
    have hsub2 : IntKind.i64.wrap ((k : Int) - (n : Int)) = (k : Int) - (n : Int) := IntWalk.i64_in _ (by omega)
    go_wp2_with fail
    refine zae (by kernel_rfl) (by kernel_rfl) ?_
    iterate 25 (go_big_quiet_step (fail))
    refine zaa (by kernel_rfl) 50 _ rfl _ (k * 20) rfl _ _ L1.out Tryz.underlying50 rfl (by kernel_rfl) ?_
    simp only [Act.put, sA9, sC9, sB9]
    repeat (go_big_quiet_step ((first | (go_at_call 65; exact za0.call (HMK.out _)) | (go_at_call 38; exact za0.call (HSM.out _)))))
    refine zaj fun w5 q5 => ?_
    go_wp2_with fail
    go_roundw
    case rel => exact ⟨k + 1, by omega, by go_num, hq.tr q5⟩
    case measure => simp [intOf]; omega
  ·go_wp2_with fail
   go_ret
   exact ⟨rfl, hq⟩
open Go Go.RowKit
section
variable {P : Program} {ops : Array Oper} {md : Region.Mode} {C : World → Prop}
def Head (P : Program) (md : Region.Mode) (ops : Array Oper) (C : World → Prop) (n : Nat) (L : Array Bool → Act → Prop) : Nat → Array Bool → Act → Prop
 | 0 => L
 | f + 1 => fun listed a => (∃ i, i ∈ Region.ready md ops listed) ∧ ∀ i, i ∈ Region.ready md ops listed → i < n ∧ qOp P ops C i (Head P md ops C n L f (listed.setIfInBounds i true)) a
theorem Head.to {n g : Nat} {L : Array Bool → Act → Prop} {Q : Exit → Act → World → Prop} (hL : ∀ listed a w, C w → L listed a → wpAny P md ops Q g listed a w) (f : Nat) (listed : Array Bool) (a : Act) (w : World) (hw : C w)
  (h : Head P md ops C n L f listed a) : wpAny P md ops Q (f + g) listed a w := by
 induction f generalizing listed a w with
 | zero => rw [Nat.zero_add]; exact hL _ _ _ hw h
 | succ f ih =>
  obtain ⟨⟨i0, hi0⟩, hall⟩ := h
  rw [Nat.add_right_comm]
  exact ⟨fun e => (by rw [e] at hi0; cases hi0), fun i hi => wpOp_of_qOp hw (fun a' w' hw' hk => ih _ _ _ hw' hk) (hall i hi).2⟩
theorem Head.take {n i : Nat} {o : Oper} {v : Value} {L : Array Bool → Act → Prop} (ho : ops[i]? = some o) (hsel : ∀ (j : Nat) (o : Oper) cs b, ops[j]? = some o → o.op ≠ .select cs b) (hs : Region.sinkB md ops n = true) (hc : Region.chainB md ops n = true) (hn : n < ops.size) (hin : i < n)
  (hL : ∀ listed a, L listed a → ∀ j ∈ Region.ready md ops listed, n ≤ j) (f : Nat) (listed : Array Bool) (a : Act) (inv : HeadInv md ops n listed)
  (hfree : ∀ j oj, ops[j]? = some oj → j ≠ i → listed.getD j true = false → (∀ e ∈ oj.after, Region.binds md e = true → e.on ≠ i) → o.apart ops oj = true)
  (hr : i ∈ Region.ready md ops listed) (hy : YieldsIn P ops C o v a) (H : Head P md ops C n L f (listed.setIfInBounds i true) (a.put o.dst v)) : Head P md ops C n L (f + 1) listed a := by
 induction f generalizing listed a with
 | zero =>
  have hun := (mem_ready.1 hr).1
  refine ⟨⟨i, hr⟩, fun j hj => ?_⟩
  have hjn : j < n := Nat.lt_of_not_le fun h => tail_waits hs hc hn inv _ i rfl hin hun j h hj
  refine ⟨hjn, ?_⟩
  rcases Nat.decEq j i with hne | rfl
  ·have := hL _ _ H j (ready_mono hj hne); omega
  ·exact hy.qOp ho H
 | succ f ih =>
  have hun := (mem_ready.1 hr).1
  refine ⟨⟨i, hr⟩, fun j hj => ?_⟩
  have hjn : j < n := Nat.lt_of_not_le fun h => tail_waits hs hc hn inv _ i rfl hin hun j h hj
  refine ⟨hjn, ?_⟩
  rcases Nat.decEq j i with hne | rfl
  ·obtain ⟨hjun, oj, hoj, hall⟩ := mem_ready.1 hj
   have hnot : ∀ e ∈ oj.after, Region.binds md e = true → e.on ≠ i := fun e he hb heq => by
    have h1 := hall e he hb
    rw [heq, getD_both hun] at h1
    cases h1
   have h2 := qOp_put hoj (hfree j oj hoj hne hjun hnot) (fun cs b => hsel i o cs b ho) (fun cs b => hsel j oj cs b hoj) hy (H.2 j (ready_mono hj hne)).2
   refine qOp_mono (fun a' h3 => ih (listed.setIfInBounds j true) a' (inv.set hj hjn) (fun k ok hk hki hkn hno => hfree k ok hk hki ?_ hno) (ready_mono hr (Ne.symm hne)) h3.1 ?_) h2
   ·rcases Nat.decEq j k with hjk | rfl
    ·rw [getD_set_ne true hjk] at hkn; exact hkn
    ·exact hjun
   ·rw [Array.setIfInBounds_comm _ _ hne]
    exact h3.2
  ·exact hy.qOp ho H
theorem Head.lex {n g : Nat} {Lq : Act → Prop} (hsel : Region.noSelect ops = true) (hs : Region.sinkB md ops n = true) (hc : Region.chainB md ops n = true) (hn : n < ops.size) (l : List Oper) (k : Nat) (listed : Array Bool) (a : Act)
  (hl : ∀ j, j < l.length → l[j]? = ops[k + j]?) (hk : k + l.length = n) (inv : HeadInv md ops n listed) (hB : Region.lexHead md ops g l.length k listed = true) (h : wpQuiet P ops C Lq l a) :
  Head P md ops C n (fun listed' a' => Region.seqB md ops g n listed' = true ∧ Lq a') l.length listed a := by
 induction l generalizing k listed a with
 | nil =>
  obtain rfl : k = n := by simpa using hk
  exact ⟨by simpa [Region.lexHead] using hB, h⟩
 | cons o l ih =>
  have h0 : ops[k]? = some o := by simpa using (hl 0 (by simp)).symm
  simp only [List.length_cons, Region.lexHead, Bool.and_eq_true] at hB hk
  obtain ⟨⟨hr, hf⟩, hB'⟩ := hB
  have hkn : k < n := by omega
  have hr' : k ∈ Region.ready md ops listed := by simpa using hr
  have hst : qOp P ops C k (wpQuiet P ops C Lq l) a := by unfold qOp; simp only [h0]; exact h
  obtain ⟨v, hy, hK⟩ := yieldsIn_of_qOp h0 hst
  exact Head.take h0 (Region.noSelect_spec hsel) hs hc hn hkn (fun _ _ hL => seqB_ready hL.1) l.length listed a inv (Region.free_spec h0 hf) hr' hy
   (ih (k + 1) _ _ (fun j hj => by have := hl (j + 1) (by simp; omega); simpa [Nat.add_assoc, Nat.add_comm 1 j] using this) (by omega) (inv.set hr' hkn) hB' hK)
end
theorem zce {P : Program} {id : Nat} {Q : Exit → Act → World → Prop} {a : Act} {w : World} {l : List Oper} (n : Nat) (hm : P.follows .mixedOrders = true) (hB : Region.lexTailB .any l.toArray n = true)
  (h : wpQuiet P l.toArray (fun w' => ∃ m : za0 w, w' = m.at_) (fun a' => ∀ w', Nw w w' → wpList P l.toArray Q (l.drop n) a' w') (l.take n) a) : (Code.region id l.toArray true).wp P Q a w := by
 simp only [Region.lexTailB, Bool.and_eq_true, decide_eq_true_eq] at hB
 obtain ⟨⟨⟨⟨hsel, hn⟩, hs⟩, hc⟩, hlex⟩ := hB
 have hn' : n < l.length := by simpa using hn
 have htl : (l.take n).length = n := by rw [List.length_take]; omega
 have hdl : (l.drop n).length = l.toArray.size - n := by simp
 have inv0 : HeadInv .any l.toArray n (Array.replicate l.toArray.size false) :=
  ⟨by simp, fun j oj _ hl => (by rw [getD_replicate_false] at hl; cases hl), fun t _ ht => getD_in (by simpa using ht) (getD_replicate_false _ _)⟩
 have H := Head.lex (md := .any) (g := l.toArray.size - n) hsel hs hc hn (l.take n) 0 _ a (fun j hj => by
  have hj' : j < n := by rw [htl] at hj; exact hj
  simp [hj']) (by simpa using htl) inv0 (by rw [htl]; exact hlex) h
 refine wp_region_any hm ?_
 have := Head.to (Q := Q) (g := l.toArray.size - n) (fun listed a' w' hw' hL => by
  obtain ⟨m, rfl⟩ := hw'
  have := wpAny_of_seq (md := .any) (Q' := Q) (l.drop n) n listed a' m.at_ (fun j => by simp [List.getElem?_drop]) (by rw [hdl]; exact hL.1) (hL.2 _ m.nw)
  rwa [hdl] at this) _ _ _ w.drew ⟨⟨w.drew, (Fr.refl _ w).drew⟩, rfl⟩ H
 rw [htl, show n + (l.toArray.size - n) = l.toArray.size by omega] at this
 exact this
end Go.Proofs.YtippdjaakcgeoaaGreat
