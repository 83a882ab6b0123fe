/- Lemmas of the walks: LgA, Bld, LaA, LcP, VrT. (Laid together by shake.py.) -/
import Derived.Test.YtippdjaakcgeoaaGreatEa02
import Derived.Test.YtippdjaakcgeoaaGreatEa03
import Derived.Test.YtippdjaakcgeoaaGreatEa04
import Derived.Test.YtippdjaakcgeoaaGreatEa06
import Derived.Test.YtippdjaakcgeoaaGreatEa09
import Derived.Test.YtippdjaakcgeoaaGreatEa14
import Derived.Test.YtippdjaakcgeoaaGreatEa23
import Derived.Test.YtippdjaakcgeoaaGreatEa24
import Derived.Test.YtippdjaakcgeoaaGreatEa26
set_option linter.unusedVariables false
set_option linter.unusedSimpArgs false
set_option maxRecDepth 100000
set_option maxHeartbeats 16000000
namespace Go.Proofs.YtippdjaakcgeoaaGreat
open Go Go.RowKit
structure zhW (c : CfgM) : Prop where
 v : c.v.l.length ≤ 1125899906842624
 o : c.o.l.length ≤ 1125899906842624
 l : c.l.l.length ≤ 1125899906842624
 w : c.w.l.length ≤ 1125899906842624
structure zhX (e : EntM) : Prop where
 cmd : e.cmd.l.length ≤ 1125899906842624
 cfg : zhW e.cfg
structure zd1 (x : LetM) : Prop where
 ents : x.ents.l.length ≤ 1125899906842624
 each : ∀ e ∈ x.ents.l, zhX e
 cfg : zhW x.base.cfg
 bytes : x.bytes.l.length ≤ 1125899906842624
def cfgN (c : CfgM) : Nat := 1 + c.v.l.length + c.o.l.length + c.l.l.length + c.w.l.length
structure EntS (t : Nat) (e : EntM) : Prop where
 cmd : e.cmd.l.length ≤ 8 * t + 7
 cfg : cfgN e.cfg ≤ t
structure LetS (t : Nat) (x : LetM) : Prop where
 ents : x.ents.l.length ≤ t
 each : ∀ e ∈ x.ents.l, EntS t e
 cfg : cfgN x.base.cfg ≤ t
 bytes : x.bytes.l.length ≤ 8 * t + 7
theorem EntS.mono {t u : Nat} {e : EntM} (h : EntS t e) (hu : t ≤ u) : EntS u e := ⟨by have := h.cmd; omega, Nat.le_trans h.cfg hu⟩
theorem LetS.mono {t u : Nat} {x : LetM} (h : LetS t x) (hu : t ≤ u) : LetS u x := ⟨Nat.le_trans h.ents hu, fun e he => (h.each e he).mono hu, Nat.le_trans h.cfg hu, by have := h.bytes; omega⟩
theorem zj2 {t : Nat} {c : CfgM} (h : cfgN c ≤ t) (ht : t ≤ 100000) : zaY c := by unfold cfgN at h; exact ⟨by omega, by omega, by omega, by omega⟩
theorem EntS.sz {t : Nat} {e : EntM} (h : EntS t e) (ht : t ≤ 100000) : zaW e := ⟨by have := h.cmd; omega, zj2 h.cfg ht⟩
theorem LetS.sz {t : Nat} {x : LetM} (h : LetS t x) (ht : t ≤ 100000) : za8 x := ⟨by have := h.ents; omega, fun e he => (h.each e he).sz ht, zj2 h.cfg ht, by have := h.bytes; omega⟩
theorem zaY.bd {c : CfgM} (h : zaY c) : zhW c := ⟨by have := h.v; omega, by have := h.o; omega, by have := h.l; omega, by have := h.w; omega⟩
theorem zaW.bd {e : EntM} (h : zaW e) : zhX e := ⟨by have := h.cmd; omega, h.cfg.bd⟩
theorem za8.bd {x : LetM} (h : za8 x) : zd1 x := ⟨by have := h.ents; omega, fun e he => (h.each e he).bd, h.cfg.bd, by have := h.bytes; omega⟩
theorem zhl (w : World) (x : CfgM) (hz : zhW x) : Calls Tryz.prog 104 #[.agg (cfgA x)] w fun e w' => e = .returned (I64 (cfgN x)) ∧ Nw w w' := by
 have h1 := hz.v
 have h2 := hz.o
 have h3 := hz.l
 have h4 := hz.w
 have hw1 : IntKind.i64.wrap (1 + (x.v.l.length : Int)) = 1 + (x.v.l.length : Int) := IntWalk.i64_in _ (by omega)
 have hw2 : IntKind.i64.wrap (1 + (x.v.l.length : Int) + (x.o.l.length : Int)) = 1 + (x.v.l.length : Int) + (x.o.l.length : Int) := IntWalk.i64_in _ (by omega)
 have hw3 : IntKind.i64.wrap (1 + (x.v.l.length : Int) + (x.o.l.length : Int) + (x.l.l.length : Int)) = 1 + (x.v.l.length : Int) + (x.o.l.length : Int) + (x.l.l.length : Int) := IntWalk.i64_in _ (by omega)
 have hw4 : IntKind.i64.wrap (1 + (x.v.l.length : Int) + (x.o.l.length : Int) + (x.l.l.length : Int) + (x.w.l.length : Int)) = 1 + (x.v.l.length : Int) + (x.o.l.length : Int) + (x.l.l.length : Int) + (x.w.l.length : Int) := IntWalk.i64_in _ (by omega)
 obtain ⟨W0, hW0⟩ : ∃ W, W = w.alloc (.cells (cfgA x) 45) := ⟨_, rfl⟩
 have p0 : Nw w W0 := by rw [hW0]; exact (Fr.refl (fun _ => False) _).alloc _
 have x0 : Blk W0 w.heap.size 45 (cfgA x) := by rw [hW0]; exact Blk.new _ _ _
 have c0 : W0.cell? ⟨w.heap.size, 0, none⟩ = some (.slice x.v.a x.v.l.length x.v.c) := by simpa using x0.cell 0
 have c1 : W0.cell? ⟨w.heap.size, 1, none⟩ = some (.slice x.o.a x.o.l.length x.o.c) := by simpa using x0.cell 1
 have c2 : W0.cell? ⟨w.heap.size, 2, none⟩ = some (.slice x.l.a x.l.l.length x.l.c) := by simpa using x0.cell 2
 have c3 : W0.cell? ⟨w.heap.size, 3, none⟩ = some (.slice x.w.a x.w.l.length x.w.c) := by simpa using x0.cell 3
 have HW0 := Lib.hid hW0
 clear hW0 x0 h1 h2 h3 h4
 go_enter Tryz.func104, Tryz.ntmps104
 go_upto_region 1 with (fail)
 rw [← HW0.out]
 go_wp2_with fail
 go_ret
 refine ⟨?_, p0⟩
 have e : ((cfgN x : Nat) : Int) = 1 + (x.v.l.length : Int) + (x.o.l.length : Int) + (x.l.l.length : Int) + (x.w.l.length : Int) := by unfold cfgN; omega
 rw [I64, e]
 rfl
def zdZ (most : Nat) (t : Nat) (e : EntM) : Nat := if t ≤ most then t + 1 + e.cmd.l.length / 8 + cfgN e.cfg else t
def zbj (most : Nat) (l : List EntM) : Nat := l.foldl (zdZ most) 0
theorem zjo (most : Nat) (l : List EntM) (t : Nat) (h : ¬ t ≤ most) : l.foldl (zdZ most) t = t := by
 induction l with
 | nil => rfl
 | cons e l ih => rw [List.foldl_cons]; unfold zdZ; rw [if_neg h]; exact ih
theorem ziW (most : Nat) (l : List EntM) (hz : ∀ e ∈ l, zhX e) (hm : most ≤ 100000) : zbj most l ≤ most + 7881299347898368 ∧ (zbj most l ≤ most → l.length ≤ zbj most l ∧ ∀ e ∈ l, EntS (zbj most l) e) := by
 have key : ∀ (k : Nat), k ≤ l.length → zbj most (l.take k) ≤ most + 7881299347898368 ∧ (zbj most (l.take k) ≤ most → k ≤ zbj most (l.take k) ∧ ∀ j (h : j < l.length), j < k → EntS (zbj most (l.take k)) l[j]) := by
  intro k
  induction k with
  | zero => intro _; exact ⟨Nat.zero_le _, fun _ => ⟨Nat.zero_le _, fun j _ hj => absurd hj (Nat.not_lt_zero _)⟩⟩
  | succ k ih =>
   intro hk
   obtain ⟨h1, h2⟩ := ih (by omega)
   have hlt : k < l.length := hk
   have e1 : zbj most (l.take (k + 1)) = zdZ most (zbj most (l.take k)) l[k] := zcs _ l k hlt _
   have hb := hz _ (List.getElem_mem hlt)
   have b1 := hb.cmd
   have b2 : cfgN (l[k]).cfg ≤ 5629499534213121 := by
    have := hb.cfg.v
    have := hb.cfg.o
    have := hb.cfg.l
    have := hb.cfg.w
    unfold cfgN
    omega
   rw [e1]
   by_cases hle : zbj most (l.take k) ≤ most
   ·obtain ⟨h3, h4⟩ := h2 hle
    unfold zdZ
    rw [if_pos hle]
    refine ⟨by omega, fun _ => ⟨by omega, fun j hj hjk => ?_⟩⟩
    by_cases hjk2 : j < k
    ·exact (h4 j hj hjk2).mono (by omega)
    ·obtain rfl : j = k := by omega
     exact ⟨by omega, by omega⟩
   ·unfold zdZ
    rw [if_neg hle]
    exact ⟨h1, fun h => absurd h hle⟩
 have h := key l.length (Nat.le_refl _)
 rw [List.take_of_length_le (Nat.le_refl _)] at h
 exact ⟨h.1, fun hh => ⟨(h.2 hh).1, fun e he => by
  obtain ⟨j, hj, rfl⟩ := List.mem_iff_getElem.1 he
  exact (h.2 hh).2 j hj hj⟩⟩
def EoRel (w : World) (most : Nat) (l : List EntM) (n i : Value) (wr : World) : Prop :=
 ∃ k t : Nat, k ≤ l.length ∧ t = zbj most (l.take k) ∧ i = .int .i64 k ∧ n = .int .i64 t ∧ (t ≤ most → k ≤ t) ∧ t ≤ most + 7881299347898368 ∧ (t ≤ most → ∀ j (h : j < l.length), j < k → EntS t l[j]) ∧ Nw w wr
theorem zk2 (w : World) (F : Nat → Prop) (A : Option Addr) (c : Nat) (l : List EntM) (most : Nat) (h : Sl w F A (zal l)) (hz : ∀ e ∈ l, zhX e) (hl : l.length ≤ 1125899906842624) (hm : most ≤ 100000) :
  Calls Tryz.prog 105 #[.slice A l.length c, I64 most] w fun e w' => e = .returned (I64 (zbj most l)) ∧ (zbj most l ≤ most + 7881299347898368 ∧ (zbj most l ≤ most → l.length ≤ zbj most l ∧ ∀ e ∈ l, EntS (zbj most l) e)) ∧ Nw w w' := by
 have HZ := Lib.hid hz
 clear hz
 go_enter Tryz.func105, Tryz.ntmps105
 go_wp2_with fail
 go_loopw [5, 6] (fun n i wr => EoRel w most l n i wr) (fun _ i _ => l.length - (intOf i).toNat)
 case atStart => exact ⟨0, 0, Nat.zero_le _, rfl, rfl, rfl, fun _ => Nat.le_refl _, Nat.zero_le _, fun _ j _ hj => absurd hj (Nat.not_lt_zero _), Fr.refl _ _⟩
 case round =>
  obtain ⟨k, t, hk, htt, rfl, rfl, hkt, htm, hall, hq⟩ := hrel
  have HTT := Lib.hid htt
  clear htt
  have HALL := Lib.hid hall
  clear hall
  by_cases hlt : k < l.length
  ·have hi0 : (k : Int) < (l.length : Int) := by omega
   have hi1 : decide ((k : Int) < (l.length : Int)) = true := decide_eq_true hi0
   have hi2 : decide (k < l.length) = true := decide_eq_true hlt
   by_cases hle : t ≤ most
   ·have hm1 : decide ((t : Int) ≤ (most : Int)) = true := decide_eq_true (by omega)
    have hm2 : decide (t ≤ most) = true := decide_eq_true hle
    obtain ⟨b, of, rfl, _, _, hc⟩ := (h.fr hq (fun _ _ h => h)).ent hlt
    have hbd := HZ.out _ (List.getElem_mem hlt)
    obtain ⟨e, hee⟩ : ∃ e, l[k] = e := ⟨_, rfl⟩
    rw [hee] at hc hbd
    have b1 := hbd.cmd
    have b2 : cfgN e.cfg ≤ 5629499534213121 := by
     have := hbd.cfg.v
     have := hbd.cfg.o
     have := hbd.cfg.l
     have := hbd.cfg.w
     unfold cfgN
     omega
    have hcf : ∀ m : za0 wr, Calls Tryz.prog 104 #[.agg (cfgA e.cfg)] m.at_ fun e9 w' => e9 = .returned (I64 (cfgN e.cfg)) ∧ Nw m.at_ w' := fun m => zhl m.at_ e.cfg hbd.cfg
    obtain ⟨q, hqq⟩ : ∃ q : Nat, q = cfgN e.cfg := ⟨_, rfl⟩
    rw [← hqq] at hcf b2
    obtain ⟨cl, hcl⟩ : ∃ cl : Nat, cl = e.cmd.l.length := ⟨_, rfl⟩
    have hdiv : (cl : Int).tdiv 8 = ((cl / 8 : Nat) : Int) := by rw [Int.tdiv_eq_ediv_of_nonneg (by omega)]; rfl
    have k2 : ∀ n : za0 wr, n.at_.cell? ⟨b, of + k * 7 + 2, none⟩ = some (.slice e.cmd.a cl e.cmd.c) := fun n => by rw [hcl]; exact za0.cells hc n.at_ ⟨n, rfl⟩ 2 _ rfl
    have k3 : ∀ w', (∃ n : za0 wr, w' = n.at_) → ∀ p u, ((cl9 e.cfg) : List Value)[p]? = some u → w'.cell? ⟨b, of + k * 7 + 3 + p, none⟩ = some u := fun w' hw p u hu => by
     have hp : p < 4 := by
      rcases Nat.lt_or_ge p 4 with h | h
      ·exact h
      ·rw [List.getElem?_eq_none (by simpa using h)] at hu; cases hu
     have := za0.cells hc w' hw (3 + p) u (by
      match p, hp with
      | 0, _ => exact hu
      | 1, _ => exact hu
      | 2, _ => exact hu
      | 3, _ => exact hu)
     rw [← Nat.add_assoc] at this
     exact this
    rw [← hcl] at b1
    have hs1 : IntKind.i64.wrap ((t : Int) + 1) = (t : Int) + 1 := IntWalk.i64_in _ (by omega)
    have hs2 : IntKind.i64.wrap ((t : Int) + 1 + ((cl / 8 : Nat) : Int)) = (t : Int) + 1 + ((cl / 8 : Nat) : Int) := IntWalk.i64_in _ (by omega)
    have hs3 : IntKind.i64.wrap ((t : Int) + 1 + ((cl / 8 : Nat) : Int) + (q : Int)) = (t : Int) + 1 + ((cl / 8 : Nat) : Int) + (q : Int) := IntWalk.i64_in _ (by omega)
    have HE := Lib.hid (And.intro hee (And.intro hqq hcl))
    have K3 := Lib.hid k3
    have HCF := Lib.hid hcf
    clear hee hqq hcl k3 hcf hbd hc
    go_upto_region 5 with (fail)
    refine zae (by kernel_rfl) (by kernel_rfl) ?_
    iterate 14 (go_big_quiet_step (fail))
    refine zaa (by kernel_rfl) 45 _ rfl b (of + k * 7 + 3) rfl _ _ K3.out Tryz.underlying45 rfl (by kernel_rfl) ?_
    simp only [Act.put, sA9, sC9, sB9]
    repeat (go_big_quiet_step ((go_at_call 104; exact za0.call (HCF.out _))))
    refine zaj fun w5 q5 => ?_
    go_wp2_with fail
    go_roundw
    case rel =>
     obtain ⟨hee, hqq, hcl⟩ := HE.out
     have hnx : t + 1 + cl / 8 + q = zbj most (l.take (k + 1)) := by
      unfold zbj
      rw [zcs _ l k hlt, hee]
      show _ = zdZ most (zbj most (l.take k)) e
      rw [← HTT.out]
      unfold zdZ
      rw [if_pos hle, ← hcl, ← hqq]
     refine ⟨k + 1, t + 1 + cl / 8 + q, hlt, hnx, by go_num, by go_num, fun _ => by have := hkt hle; omega, by omega, fun _ j hj hjk => ?_, hq.tr q5⟩
     by_cases hjk2 : j < k
     ·exact (HALL.out hle j hj hjk2).mono (by omega)
     ·obtain rfl : j = k := by omega
      rw [hee]
      exact ⟨by rw [← hcl]; omega, by rw [← hqq]; omega⟩
    case measure => simp [intOf]; omega
   ·have hm1 : decide ((t : Int) ≤ (most : Int)) = false := decide_eq_false (by omega)
    have hm2 : decide (t ≤ most) = false := decide_eq_false hle
    go_wp2_with fail
    go_ret
    have hfin : zbj most l = t := by
     unfold zbj
     conv => lhs; rw [← List.take_append_drop k l, List.foldl_append]
     show (l.drop k).foldl (zdZ most) (zbj most (l.take k)) = t
     rw [← HTT.out]
     exact zjo most _ t hle
    rw [hfin]
    exact ⟨rfl, ⟨htm, fun h => absurd h hle⟩, hq⟩
  ·have hi1 : decide ((k : Int) < (l.length : Int)) = false := decide_eq_false (by omega)
   have hi2 : decide (k < l.length) = false := decide_eq_false hlt
   go_wp2_with fail
   go_ret
   have hfin : zbj most l = t := by
    have := HTT.out
    rw [List.take_of_length_le (by omega)] at this
    exact this.symm
   rw [hfin]
   exact ⟨rfl, ⟨htm, fun h => ⟨by have := hkt h; omega, fun e he => by
    obtain ⟨j, hj, rfl⟩ := List.mem_iff_getElem.1 he
    exact HALL.out h j hj (by omega)⟩⟩, hq⟩
def letT (most : Nat) (x : LetM) : Nat := 1 + x.bytes.l.length / 8 + cfgN x.base.cfg + zbj most x.ents.l
theorem zkP (w : World) (F : Nat → Prop) (x : LetM) (most : Nat) (hx : za3 w F x) (hz : zd1 x) (hm : most ≤ 100000) :
  Calls Tryz.prog 48 #[.agg (letA x), I64 most] w fun e w' => e = .returned (I64 (letT most x)) ∧ (letT most x ≤ most + 16888498602639360 ∧ (letT most x ≤ most → LetS (letT most x) x)) ∧ Nw w w' := by
 have hE : ∀ w1, Nw w w1 → _ := fun w1 f => zk2 w1 F x.ents.a x.ents.c x.ents.l most ((hx.ents.nw f).sl) hz.each hz.ents hm
 have hC : ∀ w1, _ := fun w1 => zhl w1 x.base.cfg hz.cfg
 have hfa : zbj most x.ents.l ≤ most + 7881299347898368 ∧ (zbj most x.ents.l ≤ most → x.ents.l.length ≤ zbj most x.ents.l ∧ ∀ e ∈ x.ents.l, EntS (zbj most x.ents.l) e) := ziW most x.ents.l hz.each hm
 have hcb : cfgN x.base.cfg ≤ 5629499534213121 := by
  have := hz.cfg.v
  have := hz.cfg.o
  have := hz.cfg.l
  have := hz.cfg.w
  unfold cfgN
  omega
 have hbb := hz.bytes
 obtain ⟨ne, hne⟩ : ∃ ne, ne = zbj most x.ents.l := ⟨_, rfl⟩
 obtain ⟨nc, hnc⟩ : ∃ nc, nc = cfgN x.base.cfg := ⟨_, rfl⟩
 obtain ⟨nb, hnb⟩ : ∃ nb, nb = x.bytes.l.length := ⟨_, rfl⟩
 have hT : letT most x = 1 + nb / 8 + nc + ne := by unfold letT; rw [hne, hnc, hnb]
 have hres : letT most x ≤ most + 16888498602639360 ∧ (letT most x ≤ most → LetS (letT most x) x) := by
  rw [hT]
  refine ⟨by omega, fun h => ?_⟩
  obtain ⟨h1, h2⟩ := hfa.2 (by omega)
  exact ⟨by omega, fun e he => (h2 e he).mono (by omega), by omega, by omega⟩
 rw [← hne] at hE
 rw [← hnc] at hC hcb
 rw [← hnb] at hbb
 rw [hT] at hres ⊢
 clear hfa hT hne
 obtain ⟨X, hX⟩ : ∃ X, X = w.heap.size := ⟨_, rfl⟩
 obtain ⟨W0, hW0⟩ : ∃ W, W = w.alloc (.cells (letA x) 50) := ⟨_, rfl⟩
 have p0 : Nw w W0 := by rw [hW0]; exact (Fr.refl (fun _ => False) _).alloc _
 have x0 : Blk W0 X 50 (letA x) := by rw [hW0, hX]; exact Blk.new _ _ _
 have k1 : ∀ n : za0 W0, n.at_.cell? ⟨X, 19, none⟩ = some (.slice x.bytes.a nb x.bytes.c) := fun n => by rw [hnb]; simpa using (x0.fr n.nw (fun h => h)).cell 19
 have k2 : ∀ n : za0 W0, n.at_.cell? ⟨X, 9, none⟩ = some (.slice x.ents.a x.ents.l.length x.ents.c) := fun n => by simpa using (x0.fr n.nw (fun h => h)).cell 9
 have k3 : ∀ w', (∃ n : za0 W0, w' = n.at_) → ∀ p u, ((cl9 x.base.cfg) : List Value)[p]? = some u → w'.cell? ⟨X, 12 + p, none⟩ = some u := by
  rintro w' ⟨n, rfl⟩
  exact Blk.cells_in (l := (letL x)) (x0.fr n.nw (fun h => h)) 12 4
 have hdiv : (nb : Int).tdiv 8 = ((nb / 8 : Nat) : Int) := by rw [Int.tdiv_eq_ediv_of_nonneg (by omega)]; rfl
 have hs1 : IntKind.i64.wrap (1 + ((nb / 8 : Nat) : Int)) = 1 + ((nb / 8 : Nat) : Int) := IntWalk.i64_in _ (by omega)
 have hs2 : IntKind.i64.wrap (1 + ((nb / 8 : Nat) : Int) + (nc : Int)) = 1 + ((nb / 8 : Nat) : Int) + (nc : Int) := IntWalk.i64_in _ (by omega)
 have hs3 : IntKind.i64.wrap (1 + ((nb / 8 : Nat) : Int) + (nc : Int) + (ne : Int)) = 1 + ((nb / 8 : Nat) : Int) + (nc : Int) + (ne : Int) := IntWalk.i64_in _ (by omega)
 have hE2 : ∀ m : za0 W0, Calls Tryz.prog 105 #[.slice x.ents.a x.ents.l.length x.ents.c, I64 most] m.at_ fun e9 w' => e9 = .returned (I64 ne) ∧ Nw m.at_ w' := fun m => (hE m.at_ (p0.tr m.nw)).mono fun e w' h => ⟨h.1, h.2.2⟩
 have hC2 : ∀ m : za0 W0, Calls Tryz.prog 104 #[.agg (cfgA x.base.cfg)] m.at_ fun e9 w' => e9 = .returned (I64 nc) ∧ Nw m.at_ w' := fun m => hC m.at_
 have HE := Lib.hid hE2
 have HC := Lib.hid hC2
 have K3 := Lib.hid k3
 have HW0 := Lib.hid hW0
 have HX := Lib.hid hX
 clear hE hC hE2 hC2 k3 hW0 hX x0 hnc hnb
 go_enter Tryz.func48, Tryz.ntmps48
 go_upto_region 1 with (fail)
 rw [← HX.out, ← HW0.out]
 refine zae (by kernel_rfl) (by kernel_rfl) ?_
 iterate 7 (go_big_quiet_step (fail))
 refine zaa (by kernel_rfl) 45 _ rfl X 12 rfl _ _ K3.out Tryz.underlying45 rfl (by kernel_rfl) ?_
 simp only [Act.put, sA9, sC9, sB9]
 repeat (go_big_quiet_step ((first | (go_at_call 105; exact za0.call (HE.out _)) | (go_at_call 104; exact za0.call (HC.out _)))))
 refine zaj fun w5 q5 => ?_
 go_wp2_with fail
 go_ret
 have e : ((1 + nb / 8 + nc + ne : Nat) : Int) = 1 + ((nb / 8 : Nat) : Int) + (nc : Int) + (ne : Int) := by omega
 rw [I64, e]
 exact ⟨rfl, hres, p0.tr q5⟩
def GtRel (w : World) (l : List LetM) (n i : Value) (wr : World) : Prop :=
 ∃ k t : Nat, k ≤ l.length ∧ i = .int .i64 k ∧ n = .int .i64 t ∧ l.length ≤ t ∧ t ≤ 18014398509481984 ∧ (t ≤ 3000 → ∀ j (h : j < l.length), j < k → LetS 3000 l[j]) ∧ Nw w wr
theorem zhB (w : World) (F : Nat → Prop) (A : Option Addr) (c : Nat) (l : List LetM) (h : Sl w F A (zai l)) (he : ∀ x ∈ l, za3 w F x) (hz : ∀ x ∈ l, zd1 x) (hl : l.length ≤ 1125899906842624) :
  Calls Tryz.prog 27 #[.slice A l.length c] w fun e w' => ∃ b, e = .returned (.bool b) ∧ (b = false → l.length ≤ 3000 ∧ ∀ x ∈ l, LetS 3000 x) ∧ Nw w w' := by
 have HZ := Lib.hid hz
 have HE := Lib.hid he
 clear hz he
 go_enter Tryz.func27, Tryz.ntmps27
 go_wp2_with fail
 go_loopw [3, 4] (fun n i wr => GtRel w l n i wr) (fun _ i _ => l.length - (intOf i).toNat)
 case atStart => exact ⟨0, l.length, Nat.zero_le _, rfl, rfl, Nat.le_refl _, by omega, fun _ j _ hj => absurd hj (Nat.not_lt_zero _), Fr.refl _ _⟩
 case round =>
  obtain ⟨k, t, hk, rfl, rfl, hkt, htm, hall, hq⟩ := hrel
  have HALL := Lib.hid hall
  clear hall
  by_cases hlt : k < l.length
  ·have hi0 : (k : Int) < (l.length : Int) := by omega
   have hi1 : decide ((k : Int) < (l.length : Int)) = true := decide_eq_true hi0
   have hi2 : decide (k < l.length) = true := decide_eq_true hlt
   by_cases hle : t ≤ 3000
   ·have hm1 : decide ((t : Int) ≤ 3000) = true := decide_eq_true (by omega)
    have hm2 : decide (t ≤ 3000) = true := decide_eq_true hle
    obtain ⟨b, of, rfl, _, _, hc⟩ := (h.fr hq (fun _ _ h => h)).let_ hlt
    have hbd := HZ.out _ (List.getElem_mem hlt)
    have hin := (HE.out _ (List.getElem_mem hlt)).nw hq
    obtain ⟨x, hee⟩ : ∃ x, l[k] = x := ⟨_, rfl⟩
    rw [hee] at hc hbd hin
    have hlo := zkP wr F x 3000 hin hbd (by omega)
    have HEE := Lib.hid hee
    clear hee
    go_wp2_with (refine za5 rfl 50 _ rfl b (of + k * 20) rfl (letL x) _ hc Tryz.underlying50 rfl (by kernel_rfl) ?_)
    refine hlo.mono ?_
    obtain ⟨nn, hnn⟩ : ∃ nn, nn = letT 3000 x := ⟨_, rfl⟩
    rw [← hnn]
    rintro e w4 ⟨rfl, ⟨hn1, hn2⟩, q4⟩
    have hs1 : IntKind.i64.wrap ((t : Int) + (nn : Int)) = (t : Int) + (nn : Int) := IntWalk.i64_in _ (by omega)
    clear hnn hlo hc
    go_wp2_with fail
    go_roundw
    case rel =>
     refine ⟨k + 1, t + nn, hlt, by go_num, by go_num, by omega, by omega, fun hs j hj hjk => ?_, hq.tr q4⟩
     by_cases hjk2 : j < k
     ·exact HALL.out hle j hj hjk2
     ·obtain rfl : j = k := by omega
      rw [HEE.out]
      exact (hn2 (by omega)).mono (by omega)
    case measure => simp [intOf]; omega
   ·have hm1 : decide ((t : Int) ≤ 3000) = false := decide_eq_false (by omega)
    have hm2 : decide (t ≤ 3000) = false := decide_eq_false hle
    have hm3 : decide ((3000 : Int) < (t : Int)) = true := decide_eq_true (by omega)
    have hm4 : decide (3000 < t) = true := decide_eq_true (by omega)
    go_wp2_with fail
    go_ret
    exact ⟨true, rfl, fun h => (by cases h), hq⟩
  ·have hi1 : decide ((k : Int) < (l.length : Int)) = false := decide_eq_false (by omega)
   have hi2 : decide (k < l.length) = false := decide_eq_false hlt
   by_cases hle : t ≤ 3000
   ·have hm3 : decide ((3000 : Int) < (t : Int)) = false := decide_eq_false (by omega)
    have hm4 : decide (3000 < t) = false := decide_eq_false (by omega)
    go_wp2_with fail
    go_ret
    exact ⟨false, rfl, fun _ => ⟨by omega, fun e he => by
     obtain ⟨j, hj, rfl⟩ := List.mem_iff_getElem.1 he
     exact HALL.out hle j hj (by omega)⟩, hq⟩
   ·have hm3 : decide ((3000 : Int) < (t : Int)) = true := decide_eq_true (by omega)
    have hm4 : decide (3000 < t) = true := decide_eq_true (by omega)
    go_wp2_with fail
    go_ret
    exact ⟨true, rfl, fun h => (by cases h), hq⟩
open Go Go.RowKit
theorem zlS (v : List Value) : ∀ (j off : Nat) (cs : Array Value) (i : Nat), ((v.zipIdx j).foldl (fun (cs : Array Value) (p : Value × Nat) => cs.setIfInBounds (off + p.2) p.1) cs)[i]? =
  if off + j ≤ i ∧ i < off + j + v.length ∧ i < cs.size then v[i - (off + j)]? else cs[i]? := by
 induction v with
 | nil =>
  intro j off cs i
  rw [if_neg (by simp; omega)]
  rfl
 | cons c v ih =>
  intro j off cs i
  rw [List.zipIdx_cons, List.foldl_cons, ih (j + 1) off]
  simp only [List.length_cons, Array.size_setIfInBounds]
  rcases Nat.lt_trichotomy i (off + j) with h | h | h
  ·rw [if_neg (by omega), if_neg (by omega), Array.getElem?_setIfInBounds_ne (by omega)]
  ·subst h
   by_cases hs : off + j < cs.size
   ·rw [if_neg (by omega), if_pos (by omega), Array.getElem?_setIfInBounds_self_of_lt hs, Nat.sub_self]
    rfl
   ·rw [if_neg (by omega), if_neg (by omega), Array.getElem?_eq_none (by simp; omega), Array.getElem?_eq_none (by omega)]
  ·by_cases hs : off + (j + 1) ≤ i ∧ i < off + (j + 1) + v.length ∧ i < cs.size
   ·rw [if_pos hs, if_pos (by omega), show i - (off + j) = (i - (off + (j + 1))) + 1 by omega]
    rfl
   ·rw [if_neg hs, if_neg (by omega), Array.getElem?_setIfInBounds_ne (by omega)]
theorem zl3 (C : Nat) : ∀ (vs : List (List Value)) (k : Nat) (cs : Array Value), (∀ v ∈ vs, v.length = C) → cs.size = (k + vs.length) * C →
  Instr.fill (fun i => some (i * C, C)) cs ((vs.zipIdx k).map fun p => (p.2, Value.agg p.1.toArray)) = some (cs.toList.take (k * C) ++ vs.flatten).toArray := by
 intro vs
 induction vs with
 | nil =>
  intro k cs _ hs
  show some cs = _
  simp at hs
  rw [List.take_of_length_le (by simp [hs])]
  simp
 | cons v vs ih =>
  intro k cs hv hs
  have hvl := hv v (by simp)
  simp only [List.length_cons] at hs
  rw [List.zipIdx_cons, List.map_cons]
  unfold Instr.fill
  simp only
  have e1 : (Value.agg v.toArray).cells = v.toArray := rfl
  have hb : k * C + C ≤ cs.size := by
   rw [hs, ← Nat.succ_mul]
   exact Nat.mul_le_mul_right _ (by omega)
  rw [e1, if_neg (by simp [hvl]; omega)]
  have e2 : v.toArray.zipIdx.foldl (fun cs x => cs.setIfInBounds (k * C + x.2) x.1) cs = (v.zipIdx 0).foldl (fun (cs : Array Value) (p : Value × Nat) => cs.setIfInBounds (k * C + p.2) p.1) cs := by simp
  have e3 : ((v.zipIdx 0).foldl (fun (cs : Array Value) (p : Value × Nat) => cs.setIfInBounds (k * C + p.2) p.1) cs).size = cs.size := by
   have hg : ∀ (l : List (Value × Nat)) (c : Array Value), (l.foldl (fun (cs : Array Value) (p : Value × Nat) => cs.setIfInBounds (k * C + p.2) p.1) c).size = c.size := fun l => by
    induction l with
    | nil => intro c; rfl
    | cons x l ih => intro c; rw [List.foldl_cons, ih]; simp
   exact hg _ _
  have e4 := ih (k + 1) ((v.zipIdx 0).foldl (fun (cs : Array Value) (p : Value × Nat) => cs.setIfInBounds (k * C + p.2) p.1) cs) (fun x hx => hv x (by simp [hx])) (by rw [e3, hs]; congr 1; omega)
  refine Eq.trans ?_ (e4.trans ?_)
  ·rw [← e2]
  ·congr 2
   rw [List.flatten_cons, ← List.append_assoc]
   congr 1
   refine List.ext_getElem? fun i => ?_
   rw [List.getElem?_take, List.getElem?_append, List.getElem?_take]
   have e5 : ((v.zipIdx 0).foldl (fun (cs : Array Value) (p : Value × Nat) => cs.setIfInBounds (k * C + p.2) p.1) cs).toList[i]? = if k * C + 0 ≤ i ∧ i < k * C + 0 + v.length ∧ i < cs.size then v[i - (k * C + 0)]? else cs[i]? := by
    rw [Array.getElem?_toList]
    exact zlS v 0 (k * C) cs i
   rw [e5, hvl]
   have hlt : (List.take (k * C) cs.toList).length = k * C := by simp; omega
   rw [hlt, Nat.succ_mul]
   simp only [Nat.add_zero, Array.getElem?_toList]
   by_cases h1 : i < k * C
   ·rw [if_pos (by omega), if_neg (by omega), if_pos h1, if_pos h1]
   ·by_cases h2 : i < k * C + C
    ·rw [if_pos h2, if_pos (by omega), if_neg h1]
    ·rw [if_neg h2, if_neg h1, List.getElem?_eq_none (by omega)]
theorem zfi {P : Program} (w : World) (t E : TypeId) (C : Nat) (vs : List (List Value)) (z : Value) (ht : P.underlying t = some (.slice E)) (hinfo : (P.info? E).map (fun i => (i.zero, i.size)) = some (some z, C))
  (hn0 : 0 < vs.length) (hC : 0 < C) (hl : ∀ v ∈ vs, v.length = C) (hsz : vs.length * C ≤ 16777216) :
  (Instr.buildSlice t vs.length ((vs.zipIdx 0).map fun p => (p.2, Value.agg p.1.toArray)).toArray).run P w = .ok (.slice (some ⟨w.heap.size, 0, none⟩) vs.length vs.length) (w.alloc (.cells vs.flatten.toArray E)) := by
 have hne : ¬ vs.length * C = 0 := Nat.ne_of_gt (Nat.mul_pos hn0 hC)
 have hle : ¬ vs.length * C > 2 ^ 24 := by show ¬ vs.length * C > 16777216; omega
 cases hi : P.info? E with
 | none => rw [hi] at hinfo; cases hinfo
 | some i =>
  rw [hi] at hinfo
  simp only [Option.map_some, Option.some.injEq, Prod.mk.injEq] at hinfo
  obtain ⟨hz, hs⟩ := hinfo
  have hf := zl3 C vs 0 ((Array.range (vs.length * C)).map fun k => z.cells[k % z.cells.size]!) hl (by simp)
  rw [Nat.zero_mul, List.take_zero, List.nil_append] at hf
  simp [Instr.buildSlice, run_underlying ht, sizeOf, typeInfo, hi, hs, hle, hne, zeroValue, hz, hf, newRow]
section
variable {P : Program} {w : World} {ops : Array Oper} {rest : List Oper} {o : Oper} {a : Act} {Q : Exit → Act → World → Prop}
theorem wl_build (hgd : o.guard = none) {E : TypeId} (t : TypeId) (n : Nat) (ps : List (Nat × Operand)) (C : Nat) (vs : List (List Value)) (z : Value) (ho : o.op = .buildSlice t n ps.toArray) (ht : P.underlying t = some (.slice E)) (hinfo : (P.info? E).map (fun i => (i.zero, i.size)) = some (some z, C))
  (hn : vs.length = n) (hn0 : 0 < n) (hC : 0 < C) (hl : ∀ v ∈ vs, v.length = C) (hsz : n * C ≤ 16777216)
  (hp : (ps.map fun (i, x) => (i, a.eval x)) = (vs.zipIdx 0).map fun p => (p.2, Value.agg p.1.toArray))
  (h : ∀ g w', g = w.heap.size → w' = w.alloc (.cells vs.flatten.toArray E) → wpList P ops Q rest (a.put o.dst (.slice (some ⟨g, 0, none⟩) n n)) w') : wpList P ops Q (o :: rest) a w := by
 refine wpList_plain hgd fun K hK => ?_
 subst hn
 unfold Oper.wp execOp
 simp only [ho, List.map_toArray, hp]
 rw [Sem.run_bind, zfi w t E C vs z ht hinfo hn0 hC hl hsz]
 exact hK _ _ (h _ _ rfl rfl)
theorem zl6 (hw : Region.wanted o (yielded ops a.tmps) = true) {E : TypeId} (t : TypeId) (n : Nat) (ps : List (Nat × Operand)) (C : Nat) (vs : List (List Value)) (z : Value) (ho : o.op = .buildSlice t n ps.toArray) (ht : P.underlying t = some (.slice E)) (hinfo : (P.info? E).map (fun i => (i.zero, i.size)) = some (some z, C))
  (hn : vs.length = n) (hn0 : 0 < n) (hC : 0 < C) (hl : ∀ v ∈ vs, v.length = C) (hsz : n * C ≤ 16777216)
  (hp : (ps.map fun (i, x) => (i, a.eval x)) = (vs.zipIdx 0).map fun p => (p.2, Value.agg p.1.toArray))
  (h : ∀ g w', g = w.heap.size → w' = w.alloc (.cells vs.flatten.toArray E) → wpList P ops Q rest (a.put o.dst (.slice (some ⟨g, 0, none⟩) n n)) w') : wpList P ops Q (o :: rest) a w := by
 refine BigFrame.wpList_want hw fun K hK => ?_
 subst hn
 unfold Oper.wp execOp
 simp only [ho, List.map_toArray, hp]
 rw [Sem.run_bind, zfi w t E C vs z ht hinfo hn0 hC hl hsz]
 exact hK _ _ (h _ _ rfl rfl)
end
open Go Go.RowKit
def zag : LetM := ⟨2, 1, 2, 3, 4, 0, 0, 0, true, lsZ, zcP, 0, 0, 0, lsZ⟩
theorem za3.vote (w : World) (F : Nat → Prop) : za3 w F zag := ⟨⟨by decide, by decide⟩, LsIn.nil w F zal rfl, (by intro e he; cases he), zaD.zero w F, LsIn.nil w F zaw rfl⟩
theorem za8.vote : za8 zag := ⟨by decide, (by intro e he; cases he), zaY.zero, by decide⟩
theorem zj4 : zaE zag.x = true := by decide
theorem zlF : zbU [zag.x] = some [1, 2, 1, 2, 3, 4, 0, 0, 0, 1, 0, 0, 0, 0, 0, 0, 0, 0, 0, 0, 0] := by decide
theorem zmh : zaE zaP.x = false := by decide
theorem zca (w : World) : Calls Tryz.prog 47 #[] w fun e w' => e = .returned (.agg (letA zag)) ∧ Nw w w' := by
 obtain ⟨Y, hY⟩ : ∃ Y, Y = w.heap.size := ⟨_, rfl⟩
 obtain ⟨W0, hW0⟩ : ∃ W, W = w.alloc (.cells zL9A 50) := ⟨_, rfl⟩
 have p0 : Nw w W0 := by rw [hW0]; exact (Fr.refl (fun _ => False) _).alloc _
 have y0 : Blk W0 Y 50 zL9A := by rw [hW0, hY]; exact Blk.new _ _ _
 have th := Blk.there (l := zL9L) y0 0 20 (by show 0 + 20 ≤ 20; omega)
 have one := zbc zag
 obtain ⟨W1, hW1⟩ : ∃ W, W = W0.setCells Y 0 [U8V 2, I64 1, I64 2, I64 3, I64 4, I64 0, I64 0, I64 0, .bool true, .slice none 0 0, I64 0, I64 0, .slice none 0 0, .slice none 0 0, .slice none 0 0, .slice none 0 0, I64 0, I64 0, I64 0, .slice none 0 0] := ⟨_, rfl⟩
 have y1 : Blk W1 Y 50 #[U8V 2, I64 1, I64 2, I64 3, I64 4, I64 0, I64 0, I64 0, .bool true, .slice none 0 0, I64 0, I64 0, .slice none 0 0, .slice none 0 0, .slice none 0 0, .slice none 0 0, I64 0, I64 0, I64 0, .slice none 0 0] := by rw [hW1]; exact Blk.setCells (l := zL9L) y0 0 [U8V 2, I64 1, I64 2, I64 3, I64 4, I64 0, I64 0, I64 0, .bool true, .slice none 0 0, I64 0, I64 0, .slice none 0 0, .slice none 0 0, .slice none 0 0, .slice none 0 0, I64 0, I64 0, I64 0, .slice none 0 0]
 have m1 : Fr (· = Y) W0 W1 := by rw [hW1]; exact (Fr.refl (· = Y) _).setCells _ _
 have Q1 : Nw w W1 := p0.new m1 (fun b hb => by omega)
 have HY := Lib.hid hY
 have HW0 := Lib.hid hW0
 have HW1 := Lib.hid hW1
 clear hY hW0 hW1 p0 y0 m1
 go_enter Tryz.func47, Tryz.ntmps47
 go_upto_region 1 with (fail)
 rw [← HY.out, ← HW0.out]
 go_wp2_with (refine wpList_store_mid rfl 50 _ _ rfl Y 0 #[U8V 2, I64 1, I64 2, I64 3, I64 4, I64 0, I64 0, I64 0, .bool true, .slice none 0 0, I64 0, I64 0, .slice none 0 0, .slice none 0 0, .slice none 0 0, .slice none 0 0, I64 0, I64 0, I64 0, .slice none 0 0] rfl rfl th (by kernel_rfl) one ?_; rw [← HW1.out])
 refine bodyPost_ret (v := .agg #[U8V 2, I64 1, I64 2, I64 3, I64 4, I64 0, I64 0, I64 0, .bool true, .slice none 0 0, I64 0, I64 0, .slice none 0 0, .slice none 0 0, .slice none 0 0, .slice none 0 0, I64 0, I64 0, I64 0, .slice none 0 0]) ?_ rfl ?_
 ·exact results_cell_row rfl _ _ Y 50 _ (0, 0) _ rfl y1 Tryz.underlying50 rfl (by kernel_rfl)
 exact ⟨rfl, Q1⟩
theorem zff (w : World) (x : LetM) : Sl (w.alloc (.cells (letA x) 50)) (· = w.heap.size) (some ⟨w.heap.size, 0, none⟩) (zai [x]) := by
 have h := (Blk.new w 50 (letA x)).sl 0 20
 rw [List.drop_zero, List.take_of_length_le (by simp)] at h
 exact h
theorem zgo (w : World) (t : TypeId) (cs : Array Value) : Nw w (w.alloc (.cells cs t)) := (Fr.refl (fun _ => False) w).alloc _
theorem zld {w : World} {g : Nat} (cs : Array Value) (bs : List UInt8) (hb : Blk w g 5 cs) (h : cs.toList = bs.map B8) : Sl w (· = g) (some ⟨g, 0, none⟩) (bs.map B8) := by
 have h1 := hb.sl 0 cs.size
 rw [List.drop_zero, List.take_of_length_le (by simp), h] at h1
 exact h1
theorem zdp (w : World) : Calls Tryz.prog 28 #[] w fun e w' => e = .returned (.bool true) ∧ Nw w w' := by
 have cV : ∀ w1, _ := fun w1 => zca w1
 have cP : ∀ w1 (g : Nat), Sl w1 (· = g) (some ⟨g, 0, none⟩) (zai [zag]) → Calls Tryz.prog 31 #[.slice (some ⟨g, 0, none⟩) 1 1] w1 fun e w' => ∃ A c, e = .returned (.tuple #[.slice A 21 c, .int .i64 0]) ∧ Own w' 5 1 A 21 c (([1, 2, 1, 2, 3, 4, 0, 0, 0, 1, 0, 0, 0, 0, 0, 0, 0, 0, 0, 0, 0] : List UInt8).map B8) ∧ Nw w1 w' := fun w1 g h =>
  (zib w1 (· = g) (some ⟨g, 0, none⟩) 1 [zag] h (fun x hx => by rw [List.mem_singleton.1 hx]; exact za3.vote _ _) (fun x hx => by rw [List.mem_singleton.1 hx]; exact za8.vote) (by decide)).mono fun e w' hp => by
   have e1 : zbU ([zag].map LetM.x) = some [1, 2, 1, 2, 3, 4, 0, 0, 0, 1, 0, 0, 0, 0, 0, 0, 0, 0, 0, 0, 0] := zlF
   rw [e1] at hp
   obtain ⟨A, c, h1, h2, h3, _⟩ := hp
   exact ⟨A, c, h1, h2, h3⟩
 have cR : ∀ w1 (g : Nat) (x : LetM), (x = zag ∨ x = zaP) → Sl w1 (· = g) (some ⟨g, 0, none⟩) (zai [x]) → Calls Tryz.prog 35 #[.slice (some ⟨g, 0, none⟩) 1 1] w1 fun e w' => e = .returned (.bool (zaE x.x)) ∧ Nw w1 w' := fun w1 g x hx h =>
  (zd3 w1 (· = g) (some ⟨g, 0, none⟩) 1 [x] h (fun y hy => by rw [List.mem_singleton.1 hy]; rcases hx with rfl | rfl; exact za3.vote _ _; exact za3.zero _ _) (fun y hy => by rw [List.mem_singleton.1 hy]; rcases hx with rfl | rfl; exact za8.vote; exact za8.zero) (by simp)).mono fun e w' h => ⟨by rw [h.1]; simp [zbF], h.2⟩
 have cN : ∀ w1, Calls Tryz.prog 35 #[.slice none 0 0] w1 fun e w' => e = .returned (.bool true) ∧ Nw w1 w' := fun w1 =>
  zd3 w1 (fun _ => False) none 0 [] (Sl.nil _ _ _) (by intro x hx; cases hx) (by intro x hx; cases hx) (by decide)
 have HV := Lib.hid cV
 have HP := Lib.hid cP
 have HR := Lib.hid cR
 have HN := Lib.hid cN
 clear cV cP cR cN
 go_enter Tryz.func28, Tryz.ntmps28
 go_upto_region 2 with (first | (go_at_call 47; refine (HV.out _).mono ?_; rintro e w1 ⟨rfl, q1⟩) | (go_at_call 31; refine (HP.out _ _ (zff w1 zag)).mono ?_; rintro e w3 ⟨A3, c3, rfl, o3, q3⟩))
 have Q3 := (q1.tr (zgo w1 50 (letA zag))).tr q3
 have o3a := o3.alloc (.cells #[.int .u8 1, .int .u8 2, .int .u8 1, .int .u8 2, .int .u8 3, .int .u8 4, .int .u8 0, .int .u8 0, .int .u8 0, .int .u8 1, .int .u8 0, .int .u8 0, .int .u8 0, .int .u8 0, .int .u8 0, .int .u8 0, .int .u8 0, .int .u8 0, .int .u8 0, .int .u8 0, .int .u8 0] 5)
 go_wp2_with fail
 refine (zfH _ (inA A3) (· = w3.heap.size) A3 (some ⟨w3.heap.size, 0, none⟩) c3 21 [1, 2, 1, 2, 3, 4, 0, 0, 0, 1, 0, 0, 0, 0, 0, 0, 0, 0, 0, 0, 0] [1, 2, 1, 2, 3, 4, 0, 0, 0, 1, 0, 0, 0, 0, 0, 0, 0, 0, 0, 0, 0] o3a.sl (zld _ _ (Blk.new w3 5 _) rfl) (by decide)).mono ?_
 rintro e w4 ⟨he, hq4⟩
 have he2 : e = .returned (.bool true) := by rw [he]; simp
 subst he2
 clear he
 have Q4 := (Q3.tr (zgo w3 5 _)).tr (hq4.fr (fun _ => False))
 clear o3a o3 hq4
 go_wp2_with fail
 refine (HV.out _).mono ?_
 rintro e w5 ⟨rfl, q5⟩
 go_wp2_with fail
 refine (HR.out _ _ zag (.inl rfl) (zff w5 zag)).mono ?_
 rw [zj4]
 rintro e w6 ⟨rfl, q6⟩
 have Q6 := (Q4.tr q5).tr ((zgo w5 50 (letA zag)).tr q6)
 go_wp2_with fail
 refine (HN.out _).mono ?_
 rintro e w7 ⟨rfl, q7⟩
 go_wp2_with fail
 refine (HR.out _ _ zaP (.inr rfl) (zff w7 zaP)).mono ?_
 rw [zmh]
 rintro e w8 ⟨rfl, q8⟩
 go_wp2_with fail
 go_ret
 exact ⟨rfl, (Q6.tr q7).tr ((zgo w7 50 (letA zaP)).tr q8)⟩
open Go Go.RowKit
def zjI (r : Option (List LetF)) : Int := if r.isSome then 0 else 4
theorem zgH.one {w w' : World} {r : Option (List LetF)} {e : Ending} (h : zgH w r e w') : ∃ s : Ls LetM, e = .returned (.tuple #[.slice s.a s.l.length s.c, .int .i64 (zjI r)]) ∧ s.l.map LetM.x = r.getD [] ∧ zao w w' 50 20 zai s ∧ zas w' (fun j => w.heap.size ≤ j) s.l ∧ (∀ y ∈ s.l, za8 y) ∧ Nw w w' := by
 obtain ⟨hq, h⟩ := h
 cases r with
 | none => exact ⟨lsZ, h, rfl, ⟨Own.nil _ _ _, fun k hk => (zaH k hk).elim⟩, zas.nil _ _, fun _ h => (by cases h), hq⟩
 | some l =>
  obtain ⟨s, h1, h2, h3, h4, h5⟩ := h
  exact ⟨s, h1, h2, h3, h4, h5, hq⟩
theorem zgb.one {w w' : World} {r : Option (List LetF)} {e : Ending} (h : zgb w r e w') : ∃ s : Ls LetM, e = .returned (.tuple #[.slice s.a s.l.length s.c, .int .i64 (zjI r)]) ∧ s.l.map LetM.x = r.getD [] ∧ zao w w' 50 20 zai s ∧ (∀ y ∈ s.l, za3 w' (fun j => w.heap.size ≤ j) y) ∧ Nw w w' := by
 obtain ⟨hq, h⟩ := h
 cases r with
 | none => exact ⟨lsZ, h, rfl, ⟨Own.nil _ _ _, fun k hk => (zaH k hk).elim⟩, fun _ h => (by cases h), hq⟩
 | some l =>
  obtain ⟨s, h1, h2, h3, h4, h5⟩ := h
  exact ⟨s, h1, h2, h3, h4, hq⟩
theorem zgg {α β : Type} (g : α → List β) (l : List α) (n : Nat) (h : ∀ x ∈ l, (g x).length ≤ n) : (l.flatMap g).length ≤ l.length * n := by
 induction l with
 | nil => simp
 | cons a l ih =>
  rw [List.flatMap_cons, List.length_append, List.length_cons, Nat.succ_mul]
  have h1 := h a List.mem_cons_self
  have h2 := ih (fun x hx => h x (List.mem_cons_of_mem _ hx))
  omega
theorem zjy (l : List LetF) : l.length ≤ (zcw l).length := by
 have h1 : ∀ l : List LetF, l.length ≤ ((l.map letB).flatten).length := by
  intro l
  induction l with
  | nil => simp
  | cons x l ih =>
   rw [List.map_cons, List.flatten_cons, List.length_append, List.length_cons]
   have h2 : 1 ≤ (letB x).length := by
    unfold letB
    rw [List.length_append]
    have h3 := zjX (zcd x)
    have h4 : (zcd x).length = 8 := rfl
    omega
   omega
 unfold zcw
 rw [List.length_append]
 have := h1 l
 omega
theorem zma {b : List UInt8} {r : Option (List LetF)} (hr : zbJ zaS b = r) (hb : b.length ≤ 3000) {l : List LetM} (hl : l.map LetM.x = r.getD []) : l.length ≤ 3000 ∧ ∀ y ∈ l, y.ents.l.length ≤ 30 := by
 cases r with
 | none =>
  have : l = [] := List.map_eq_nil_iff.1 hl
  subst this
  exact ⟨by simp, fun _ h => by cases h⟩
 | some m =>
  obtain ⟨h1, h2, _⟩ := zew zeU hr
  have hl' : l.map LetM.x = m := hl
  have h3 := zjy m
  rw [h2] at h3
  have h4 : l.length = m.length := by rw [← hl', List.length_map]
  refine ⟨by omega, fun y hy => ?_⟩
  have h5 := (zcJ m).1 h1 y.x (by rw [← hl']; exact List.mem_map.2 ⟨y, hy, rfl⟩)
  have h6 := ((zbw _).1 h5)
  have h7 : y.x.ents.length ≤ 30 := by
   unfold zaE at h5
   simp only [Bool.and_eq_true, decide_eq_true_eq] at h5
   exact h5.2.2.2.1.1
  rwa [List.length_map] at h7
theorem ziE {l : List LetM} (h : l.length ≤ 6000 ∧ ∀ y ∈ l, y.ents.l.length ≤ 3000) : (l.flatMap zaz).length ≤ 100000000 ∧ (l.flatMap zaB).length ≤ 100000000 ∧ (l.map LetM.ents).length ≤ 100000000 := by
 refine ⟨Nat.le_trans (zgg _ _ 12004 fun x hx => ?_) (by omega), Nat.le_trans (zgg _ _ 3001 fun x hx => ?_) (by omega), by rw [List.length_map]; omega⟩
 ·rw [zey]; have := h.2 x hx; omega
 ·rw [zfU]; have := h.2 x hx; omega
open Go Go.RowKit
abbrev VT := LetM × Nat × Ls LetM
structure zb2 (P : VT → World → (Nat → Prop) → Prop) : Prop where
 fr : ∀ {t : VT} {w w' : World} {F S : Nat → Prop}, P t w F → Fr S w w' → (∀ k, F k → ¬ S k) → P t w' F
 mono : ∀ {t : VT} {w : World} {F F' : Nat → Prop}, P t w F → (∀ k, F k → k < w.heap.size → F' k) → P t w F'
def vq (W1 : World) (b1 b2 : Bool) (n1 n2 : Nat) (k : Nat) : Prop := W1.heap.size ≤ k ∧ (b1 = true → k ≠ n1) ∧ (b2 = true → k ≠ n2)
structure VarS (W1 : World) (PL P1 P2 : VT → World → (Nat → Prop) → Prop) (PF : VT → VT → Prop) (ll l1 l2 m1 m2 t1 t2 : Bool) (vl v1 v2 : VT) (n1 n2 : Nat) (w : World) : Prop where
 nw : Nw W1 w
 pl : ll = true → PL vl w (vq W1 m1 m2 n1 n2)
 p1 : l1 = true → P1 v1 w (vq W1 m1 m2 n1 n2)
 p2 : l2 = true → P2 v2 w (vq W1 m1 m2 n1 n2)
 x1 : m1 = true → W1.heap.size ≤ n1 ∧ Blk w n1 50 (letA (if t1 = true then v1.1 else zaP))
 x2 : m2 = true → W1.heap.size ≤ n2 ∧ Blk w n2 50 (letA (if t2 = true then v2.1 else zaP))
 ne : m1 = true → m2 = true → n1 ≠ n2
 far : l1 = true → l2 = true → PF v1 v2
section
variable {W1 w w' : World} {PL P1 P2 : VT → World → (Nat → Prop) → Prop} {PF : VT → VT → Prop} {ll l1 l2 m1 m2 t1 t2 : Bool} {vl v1 v2 b : VT} {n1 n2 : Nat}
theorem VarS.start (W1 w : World) (q : Nw W1 w) (vl v1 v2 : VT) (n1 n2 : Nat) : VarS W1 PL P1 P2 PF false false false false false false false vl v1 v2 n1 n2 w :=
 ⟨q, fun h => (by cases h), fun h => (by cases h), fun h => (by cases h), fun h => (by cases h), fun h => (by cases h), fun h => (by cases h), fun h => (by cases h)⟩
theorem VarS.since (h : VarS W1 PL P1 P2 PF ll l1 l2 m1 m2 t1 t2 vl v1 v2 n1 n2 w) (k : Nat) (hk : w.heap.size ≤ k) : vq W1 m1 m2 n1 n2 k :=
 ⟨Nat.le_trans h.nw.size hk, fun hm => by have := (h.x1 hm).2.lt; omega, fun hm => by have := (h.x2 hm).2.lt; omega⟩
theorem VarS.step (cl : zb2 PL) (c1 : zb2 P1) (c2 : zb2 P2) (h : VarS W1 PL P1 P2 PF ll l1 l2 m1 m2 t1 t2 vl v1 v2 n1 n2 w) (q : Nw w w') : VarS W1 PL P1 P2 PF ll l1 l2 m1 m2 t1 t2 vl v1 v2 n1 n2 w' :=
 ⟨h.nw.tr q, fun hl => cl.fr (h.pl hl) q (fun _ _ h => h), fun hl => c1.fr (h.p1 hl) q (fun _ _ h => h), fun hl => c2.fr (h.p2 hl) q (fun _ _ h => h),
  fun hm => ⟨(h.x1 hm).1, (h.x1 hm).2.fr q (fun h => h)⟩, fun hm => ⟨(h.x2 hm).1, (h.x2 hm).2.fr q (fun h => h)⟩, h.ne, h.far⟩
theorem VarS.callL (cl : zb2 PL) (c1 : zb2 P1) (c2 : zb2 P2) (h : VarS W1 PL P1 P2 PF false l1 l2 m1 m2 t1 t2 vl v1 v2 n1 n2 w) (q : Nw w w') (hp : PL b w' (fun k => w.heap.size ≤ k)) : VarS W1 PL P1 P2 PF true l1 l2 m1 m2 t1 t2 b v1 v2 n1 n2 w' :=
 { h.step cl c1 c2 q with pl := fun _ => cl.mono hp (fun k hk _ => h.since k hk) }
theorem VarS.call1 (cl : zb2 PL) (c1 : zb2 P1) (c2 : zb2 P2) (h : VarS W1 PL P1 P2 PF ll false false m1 m2 false t2 vl v1 v2 n1 n2 w) (q : Nw w w') (hp : P1 b w' (fun k => w.heap.size ≤ k)) : VarS W1 PL P1 P2 PF ll true false m1 m2 false t2 vl b v2 n1 n2 w' :=
 { h.step cl c1 c2 q with p1 := fun _ => c1.mono hp (fun k hk _ => h.since k hk), x1 := fun hm => ⟨(h.x1 hm).1, by simpa using (h.x1 hm).2.fr q (fun h => h)⟩, far := fun _ h => (by cases h) }
theorem VarS.call2 (cl : zb2 PL) (c1 : zb2 P1) (c2 : zb2 P2) (h : VarS W1 PL P1 P2 PF ll l1 false m1 m2 t1 false vl v1 v2 n1 n2 w) (q : Nw w w') (hp : P2 b w' (fun k => w.heap.size ≤ k)) (hf : l1 = true → PF v1 b) : VarS W1 PL P1 P2 PF ll l1 true m1 m2 t1 false vl v1 b n1 n2 w' :=
 { h.step cl c1 c2 q with p2 := fun _ => c2.mono hp (fun k hk _ => h.since k hk), x2 := fun hm => ⟨(h.x2 hm).1, by simpa using (h.x2 hm).2.fr q (fun h => h)⟩, far := fun h _ => hf h }
theorem VarS.alloc1 (cl : zb2 PL) (c1 : zb2 P1) (c2 : zb2 P2) (h : VarS W1 PL P1 P2 PF ll l1 l2 false m2 false t2 vl v1 v2 n1 n2 w) : VarS W1 PL P1 P2 PF ll l1 l2 true m2 false t2 vl v1 v2 w.heap.size n2 (w.alloc (.cells (letA zaP) 50)) := by
 have q : Nw w (w.alloc (.cells (letA zaP) 50)) := (Fr.refl (fun _ => False) w).alloc _
 have h' := h.step cl c1 c2 q
 have mv : ∀ k, vq W1 false m2 n1 n2 k → k < w.heap.size → vq W1 true m2 w.heap.size n2 k := fun k hk hl => ⟨hk.1, fun _ => by omega, hk.2.2⟩
 exact ⟨h'.nw, fun hl => cl.fr (cl.mono (h.pl hl) mv) q (fun _ _ h => h), fun hl => c1.fr (c1.mono (h.p1 hl) mv) q (fun _ _ h => h), fun hl => c2.fr (c2.mono (h.p2 hl) mv) q (fun _ _ h => h),
  fun _ => ⟨h.nw.size, by simpa using Blk.new w 50 (letA zaP)⟩, h'.x2, fun _ hm => (by have := (h.x2 hm).2.lt; omega), h.far⟩
theorem VarS.alloc2 (cl : zb2 PL) (c1 : zb2 P1) (c2 : zb2 P2) (h : VarS W1 PL P1 P2 PF ll l1 l2 m1 false t1 false vl v1 v2 n1 n2 w) : VarS W1 PL P1 P2 PF ll l1 l2 m1 true t1 false vl v1 v2 n1 w.heap.size (w.alloc (.cells (letA zaP) 50)) := by
 have q : Nw w (w.alloc (.cells (letA zaP) 50)) := (Fr.refl (fun _ => False) w).alloc _
 have h' := h.step cl c1 c2 q
 have mv : ∀ k, vq W1 m1 false n1 n2 k → k < w.heap.size → vq W1 m1 true n1 w.heap.size k := fun k hk hl => ⟨hk.1, hk.2.1, fun _ => by omega⟩
 exact ⟨h'.nw, fun hl => cl.fr (cl.mono (h.pl hl) mv) q (fun _ _ h => h), fun hl => c1.fr (c1.mono (h.p1 hl) mv) q (fun _ _ h => h), fun hl => c2.fr (c2.mono (h.p2 hl) mv) q (fun _ _ h => h),
  h'.x1, fun _ => ⟨h.nw.size, by simpa using Blk.new w 50 (letA zaP)⟩, fun hm _ => (by have := (h.x1 hm).2.lt; omega), h.far⟩
theorem VarS.store1 (cl : zb2 PL) (c1 : zb2 P1) (c2 : zb2 P2) (h : VarS W1 PL P1 P2 PF ll true l2 true m2 false t2 vl v1 v2 n1 n2 w) : VarS W1 PL P1 P2 PF ll true l2 true m2 true t2 vl v1 v2 n1 n2 (w.setCells n1 0 (letL v1.1)) := by
 obtain ⟨hx, hb⟩ := h.x1 rfl
 have m : Fr (· = n1) w (w.setCells n1 0 (letL v1.1)) := (Fr.refl (· = n1) w).setCells _ _
 have q : Nw W1 (w.setCells n1 0 (letL v1.1)) := h.nw.new m (fun k hk => by omega)
 have hn : ∀ k, vq W1 true m2 n1 n2 k → ¬ k = n1 := fun k hk => hk.2.1 rfl
 have hset := Blk.setCells (l := letL zaP) (by simpa using hb) 0 (letL v1.1)
 exact ⟨q, fun hl => cl.fr (h.pl hl) m hn, fun hl => c1.fr (h.p1 hl) m hn, fun hl => c2.fr (h.p2 hl) m hn, fun _ => ⟨hx, by simpa [putL] using hset⟩,
  fun hm => ⟨(h.x2 hm).1, (h.x2 hm).2.fr m (fun e => (h.ne rfl hm) e.symm)⟩, h.ne, h.far⟩
theorem VarS.store2 (cl : zb2 PL) (c1 : zb2 P1) (c2 : zb2 P2) (h : VarS W1 PL P1 P2 PF ll l1 true m1 true t1 false vl v1 v2 n1 n2 w) : VarS W1 PL P1 P2 PF ll l1 true m1 true t1 true vl v1 v2 n1 n2 (w.setCells n2 0 (letL v2.1)) := by
 obtain ⟨hx, hb⟩ := h.x2 rfl
 have m : Fr (· = n2) w (w.setCells n2 0 (letL v2.1)) := (Fr.refl (· = n2) w).setCells _ _
 have q : Nw W1 (w.setCells n2 0 (letL v2.1)) := h.nw.new m (fun k hk => by omega)
 have hn : ∀ k, vq W1 m1 true n1 n2 k → ¬ k = n2 := fun k hk => hk.2.2 rfl
 have hset := Blk.setCells (l := letL zaP) (by simpa using hb) 0 (letL v2.1)
 exact ⟨q, fun hl => cl.fr (h.pl hl) m hn, fun hl => c1.fr (h.p1 hl) m hn, fun hl => c2.fr (h.p2 hl) m hn, fun hm => ⟨(h.x1 hm).1, (h.x1 hm).2.fr m (fun e => (h.ne hm rfl) e)⟩,
  fun _ => ⟨hx, by simpa [putL] using hset⟩, h.ne, h.far⟩
end
def VarC (md : Region.Mode) (ops : Array Oper) (kl k1 k2 a1 a2 s1 s2 : Nat) (W1 : World) (PL P1 P2 : VT → World → (Nat → Prop) → Prop) (PF : VT → VT → Prop) (L : Nat → Bool) (B : BkT VT) (w : World) : Prop :=
 zdA md ops L ∧ VarS W1 PL P1 P2 PF (L kl) (L k1) (L k2) (L a1) (L a2) (L s1) (L s2) (B kl) (B k1) (B k2) (B a1).2.1 (B a2).2.1 w
theorem zfd {P : Program} {id : Nat} {Q : Exit → Act → World → Prop} {a : Act} {w : World} {l : List Oper} (kl k1 k2 a1 a2 s1 s2 : Nat) (W1 : World) (PL P1 P2 : VT → World → (Nat → Prop) → Prop) (PF : VT → VT → Prop) (hm : P.follows .mixedOrders = true) (hB : effB .any l.toArray = true) (h0 : Nw W1 w)
  (h : zcz .any P l.toArray (VarC .any l.toArray kl k1 k2 a1 a2 s1 s2 W1 PL P1 P2 PF) (fun B a' => ∀ w', VarC .any l.toArray kl k1 k2 a1 a2 s1 s2 W1 PL P1 P2 PF (fun j => decide (j < l.length)) B w' → Q .normal a' w') l 0 (fun _ => a)) : (Code.region id l.toArray true).wp P Q a w :=
 zdG (VarC .any l.toArray kl k1 k2 a1 a2 s1 s2 W1 PL P1 P2 PF) (fun _ => (zaP, 0, lsZ)) hm hB ⟨fun _ _ _ h => (by cases h), VarS.start _ _ h0.drew _ _ _ _ _⟩ h
theorem VarS.there1 {W1 w : World} {PL P1 P2 : VT → World → (Nat → Prop) → Prop} {PF : VT → VT → Prop} {ll l1 l2 m2 t1 t2 : Bool} {vl v1 v2 : VT} {n1 n2 : Nat} (h : VarS W1 PL P1 P2 PF ll l1 l2 true m2 t1 t2 vl v1 v2 n1 n2 w) : w.there n1 0 20 :=
 Blk.there (l := letL (if t1 = true then v1.1 else zaP)) (by simpa using (h.x1 rfl).2) 0 20 (by show 0 + 20 ≤ 20; omega)
theorem VarS.there2 {W1 w : World} {PL P1 P2 : VT → World → (Nat → Prop) → Prop} {PF : VT → VT → Prop} {ll l1 l2 m1 t1 t2 : Bool} {vl v1 v2 : VT} {n1 n2 : Nat} (h : VarS W1 PL P1 P2 PF ll l1 l2 m1 true t1 t2 vl v1 v2 n1 n2 w) : w.there n2 0 20 :=
 Blk.there (l := letL (if t2 = true then v2.1 else zaP)) (by simpa using (h.x2 rfl).2) 0 20 (by show 0 + 20 ≤ 20; omega)
def zdu (y : LetM) (k : Nat) : Prop := InH (zaz y) k ∨ InH (zaB y) k ∨ inA y.ents.a k
theorem zbg.blk {w : World} {F : Nat → Prop} {y : LetM} (h : zbg w F y) {k : Nat} (hk : zdu y k) : F k ∧ k < w.heap.size := by
 have e1 : [y].flatMap zaz = zaz y := by simp
 have e2 : [y].flatMap zaB = zaB y := by simp
 rcases hk with hk | hk | hk
 ·have := h.ints; rw [e1] at this; exact ⟨this.inH hk, this.ltH hk⟩
 ·have := h.byts; rw [e2] at this; exact ⟨this.inH hk, this.ltH hk⟩
 ·have := h.ents.each y.ents (by simp); exact ⟨this.base k hk, this.own.lt k hk⟩
theorem zas.two {w : World} {F : Nat → Prop} {c d : LetM} (h1 : zbg w F c) (h2 : zbg w F d) (hf : ∀ k, zdu c k → ¬ zdu d k) : zas w F [c, d] := by
 have e1 : ∀ y : LetM, [y].flatMap zaz = zaz y := fun y => by simp
 have e2 : ∀ y : LetM, [y].flatMap zaB = zaB y := fun y => by simp
 have i1 := h1.ints
 have i2 := h2.ints
 have b1 := h1.byts
 have b2 := h2.byts
 rw [e1] at i1 i2
 rw [e2] at b1 b2
 refine ⟨fun y hy => ?_, ?_, ?_, ?_⟩
 ·simp only [List.mem_cons, List.not_mem_nil, or_false] at hy
  rcases hy with rfl | rfl
  ·exact h1.in_
  ·exact h2.in_
 ·have e : [c, d].flatMap zaz = zaz c ++ zaz d := by simp
  rw [e]
  exact ⟨fun s hs => (List.mem_append.1 hs).elim (i1.each s) (i2.each s), List.pairwise_append.2 ⟨i1.far, i2.far, fun s hs t ht k ks kt => hf k (.inl ⟨s, hs, ks⟩) (.inl ⟨t, ht, kt⟩)⟩⟩
 ·have e : [c, d].flatMap zaB = zaB c ++ zaB d := by simp
  rw [e]
  exact ⟨fun s hs => (List.mem_append.1 hs).elim (b1.each s) (b2.each s), List.pairwise_append.2 ⟨b1.far, b2.far, fun s hs t ht k ks kt => hf k (.inr (.inl ⟨s, hs, ks⟩)) (.inr (.inl ⟨t, ht, kt⟩))⟩⟩
 ·refine ⟨fun s hs => ?_, ?_⟩
  ·simp only [List.map_cons, List.map_nil, List.mem_cons, List.not_mem_nil, or_false] at hs
   rcases hs with rfl | rfl
   ·exact h1.ents.each _ (by simp)
   ·exact h2.ents.each _ (by simp)
  ·show [c.ents, d.ents].Pairwise zfF
   refine List.pairwise_cons.2 ⟨fun t ht k ks kt => ?_, List.pairwise_singleton _ _⟩
   rw [List.mem_singleton.1 ht] at kt
   exact hf k (.inr (.inr ks)) (.inr (.inr kt))
end Go.Proofs.YtippdjaakcgeoaaGreat
