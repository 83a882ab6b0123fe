/- Lemmas of the walks: LgA, NdA, SmA, SmB. (Laid together by shake.py.) -/
import Derived.Deep.DeepCutAuto
import Derived.Test.YtippdjaakcgeoaaNa02
import Derived.Test.YtippdjaakcgeoaaNa03
import Derived.Test.YtippdjaakcgeoaaNa04
import Derived.Test.YtippdjaakcgeoaaNa05
set_option linter.unusedVariables false
set_option linter.unusedSimpArgs false
namespace Go.Proofs.Ytippdjaakcgeoaa
open Go Go.RowKit
set_option linter.unusedVariables false
set_option linter.unusedSimpArgs false
/-- Lists as long as memory may hold. -/
structure CfgBd (c : CfgM) : Prop where
  v : c.v.l.length ≤ 1125899906842624
  o : c.o.l.length ≤ 1125899906842624
  l : c.l.l.length ≤ 1125899906842624
  w : c.w.l.length ≤ 1125899906842624
structure EntBd (e : EntM) : Prop where
  cmd : e.cmd.l.length ≤ 1125899906842624
  cfg : CfgBd e.cfg
structure LetBd (x : LetM) : Prop where
  ents : x.ents.l.length ≤ 1125899906842624
  each : ∀ e ∈ x.ents.l, EntBd e
  cfg : CfgBd x.base.cfg
  bytes : x.bytes.l.length ≤ 1125899906842624
def cfgN (c : CfgM) : Nat := 1 + c.v.l.length + c.o.l.length + c.l.l.length + c.w.l.length
/-- Few parts: at most t. -/
structure EntS (t : Nat) (e : EntM) : Prop where
  cmd : e.cmd.l.length ≤ 8 * t + 7
  cfg : cfgN e.cfg ≤ t
structure LetS (t : Nat) (x : LetM) : Prop where
  ents : x.ents.l.length ≤ t
  each : ∀ e ∈ x.ents.l, EntS t e
  cfg : cfgN x.base.cfg ≤ t
  bytes : x.bytes.l.length ≤ 8 * t + 7
theorem EntS.mono {t u : Nat} {e : EntM} (h : EntS t e) (hu : t ≤ u) : EntS u e := ⟨by have := h.cmd; omega, Nat.le_trans h.cfg hu⟩
theorem LetS.mono {t u : Nat} {x : LetM} (h : LetS t x) (hu : t ≤ u) : LetS u x := ⟨Nat.le_trans h.ents hu, fun e he => (h.each e he).mono hu, Nat.le_trans h.cfg hu, by have := h.bytes; omega⟩
theorem cfgN_sz {t : Nat} {c : CfgM} (h : cfgN c ≤ t) (ht : t ≤ 100000) : CfgSz c := by unfold cfgN at h; exact ⟨by omega, by omega, by omega, by omega⟩
theorem EntS.sz {t : Nat} {e : EntM} (h : EntS t e) (ht : t ≤ 100000) : EntSz e := ⟨by have := h.cmd; omega, cfgN_sz h.cfg ht⟩
theorem LetS.sz {t : Nat} {x : LetM} (h : LetS t x) (ht : t ≤ 100000) : LetSz x := ⟨by have := h.ents; omega, fun e he => (h.each e he).sz ht, cfgN_sz h.cfg ht, by have := h.bytes; omega⟩
theorem CfgSz.bd {c : CfgM} (h : CfgSz c) : CfgBd c := ⟨by have := h.v; omega, by have := h.o; omega, by have := h.l; omega, by have := h.w; omega⟩
theorem EntSz.bd {e : EntM} (h : EntSz e) : EntBd e := ⟨by have := h.cmd; omega, h.cfg.bd⟩
theorem LetSz.bd {x : LetM} (h : LetSz x) : LetBd x := ⟨by have := h.ents; omega, fun e he => (h.each e he).bd, h.cfg.bd, by have := h.bytes; omega⟩
set_option maxRecDepth 100000 in
set_option maxHeartbeats 4000000 in
theorem cfgof_any (w : World) (x : CfgM) (hz : CfgBd x) : Calls Try.prog 66 #[.agg (cfgA x)] w fun e w' => e = .returned (I64 (cfgN x)) ∧ Nw w w' := by
  have h1 := hz.v
  have h2 := hz.o
  have h3 := hz.l
  have h4 := hz.w
  have hw1 : IntKind.i64.wrap (1 + (x.v.l.length : Int)) = 1 + (x.v.l.length : Int) := IntWalk.i64_in _ (by omega)
  have hw2 : IntKind.i64.wrap (1 + (x.v.l.length : Int) + (x.o.l.length : Int)) = 1 + (x.v.l.length : Int) + (x.o.l.length : Int) := IntWalk.i64_in _ (by omega)
  have hw3 : IntKind.i64.wrap (1 + (x.v.l.length : Int) + (x.o.l.length : Int) + (x.l.l.length : Int)) = 1 + (x.v.l.length : Int) + (x.o.l.length : Int) + (x.l.l.length : Int) := IntWalk.i64_in _ (by omega)
  have hw4 : IntKind.i64.wrap (1 + (x.v.l.length : Int) + (x.o.l.length : Int) + (x.l.l.length : Int) + (x.w.l.length : Int)) = 1 + (x.v.l.length : Int) + (x.o.l.length : Int) + (x.l.l.length : Int) + (x.w.l.length : Int) := IntWalk.i64_in _ (by omega)
  obtain ⟨W0, hW0⟩ : ∃ W, W = w.alloc (.cells #[.slice x.v.a x.v.l.length x.v.c, .slice x.o.a x.o.l.length x.o.c, .slice x.l.a x.l.l.length x.l.c, .slice x.w.a x.w.l.length x.w.c] 35) := ⟨_, rfl⟩
  have p0 : Nw w W0 := by rw [hW0]; exact (Fr.refl (fun _ => False) _).alloc _
  have x0 : Blk W0 w.heap.size 35 #[.slice x.v.a x.v.l.length x.v.c, .slice x.o.a x.o.l.length x.o.c, .slice x.l.a x.l.l.length x.l.c, .slice x.w.a x.w.l.length x.w.c] := by rw [hW0]; exact Blk.new _ _ _
  have c0 : W0.cell? ⟨w.heap.size, 0, none⟩ = some (.slice x.v.a x.v.l.length x.v.c) := by simpa using x0.cell 0
  have c1 : W0.cell? ⟨w.heap.size, 1, none⟩ = some (.slice x.o.a x.o.l.length x.o.c) := by simpa using x0.cell 1
  have c2 : W0.cell? ⟨w.heap.size, 2, none⟩ = some (.slice x.l.a x.l.l.length x.l.c) := by simpa using x0.cell 2
  have c3 : W0.cell? ⟨w.heap.size, 3, none⟩ = some (.slice x.w.a x.w.l.length x.w.c) := by simpa using x0.cell 3
  have HW0 := Lib.hid hW0
  clear hW0 x0 h1 h2 h3 h4
  go_enter Try.func66, Try.ntmps66
  go_upto_region 1 with (fail)
  rw [← HW0.out]
  go_wp2_with fail
  go_ret
  refine ⟨?_, p0⟩
  have e : ((cfgN x : Nat) : Int) = 1 + (x.v.l.length : Int) + (x.o.l.length : Int) + (x.l.l.length : Int) + (x.w.l.length : Int) := by unfold cfgN; omega
  rw [I64, e]
  rfl
def entF1 (most : Nat) (t : Nat) (e : EntM) : Nat := if t ≤ most then t + 1 + e.cmd.l.length / 8 + cfgN e.cfg else t
def entsT (most : Nat) (l : List EntM) : Nat := l.foldl (entF1 most) 0
theorem entsT_stop (most : Nat) (l : List EntM) (t : Nat) (h : ¬ t ≤ most) : l.foldl (entF1 most) t = t := by
  induction l with
  | nil => rfl
  | cons e l ih => rw [List.foldl_cons]; unfold entF1; rw [if_neg h]; exact ih
theorem entsT_facts (most : Nat) (l : List EntM) (hz : ∀ e ∈ l, EntBd e) (hm : most ≤ 100000) : entsT most l ≤ most + 7881299347898368 ∧ (entsT most l ≤ most → l.length ≤ entsT most l ∧ ∀ e ∈ l, EntS (entsT most l) e) := by
  have key : ∀ (k : Nat), k ≤ l.length → entsT most (l.take k) ≤ most + 7881299347898368 ∧ (entsT most (l.take k) ≤ most → k ≤ entsT most (l.take k) ∧ ∀ j (h : j < l.length), j < k → EntS (entsT most (l.take k)) l[j]) := by
    intro k
    induction k with
    | zero => intro _; exact ⟨Nat.zero_le _, fun _ => ⟨Nat.zero_le _, fun j _ hj => absurd hj (Nat.not_lt_zero _)⟩⟩
    | succ k ih =>
      intro hk
      obtain ⟨h1, h2⟩ := ih (by omega)
      have hlt : k < l.length := hk
      have e1 : entsT most (l.take (k + 1)) = entF1 most (entsT most (l.take k)) l[k] := foldl_take_succ _ l k hlt _
      have hb := hz _ (List.getElem_mem hlt)
      have b1 := hb.cmd
      have b2 : cfgN (l[k]).cfg ≤ 5629499534213121 := by
        have := hb.cfg.v
        have := hb.cfg.o
        have := hb.cfg.l
        have := hb.cfg.w
        unfold cfgN
        omega
      rw [e1]
      by_cases hle : entsT most (l.take k) ≤ most
      · obtain ⟨h3, h4⟩ := h2 hle
        unfold entF1
        rw [if_pos hle]
        refine ⟨by omega, fun _ => ⟨by omega, fun j hj hjk => ?_⟩⟩
        by_cases hjk2 : j < k
        · exact (h4 j hj hjk2).mono (by omega)
        · obtain rfl : j = k := by omega
          exact ⟨by omega, by omega⟩
      · unfold entF1
        rw [if_neg hle]
        exact ⟨h1, fun h => absurd h hle⟩
  have h := key l.length (Nat.le_refl _)
  rw [List.take_of_length_le (Nat.le_refl _)] at h
  exact ⟨h.1, fun hh => ⟨(h.2 hh).1, fun e he => by
    obtain ⟨j, hj, rfl⟩ := List.mem_iff_getElem.1 he
    exact (h.2 hh).2 j hj hj⟩⟩
def EoRel (w : World) (most : Nat) (l : List EntM) (n i : Value) (wr : World) : Prop :=
  ∃ k t : Nat, k ≤ l.length ∧ t = entsT most (l.take k) ∧ i = .int .i64 k ∧ n = .int .i64 t ∧ (t ≤ most → k ≤ t) ∧ t ≤ most + 7881299347898368 ∧ (t ≤ most → ∀ j (h : j < l.length), j < k → EntS t l[j]) ∧ Nw w wr
set_option maxRecDepth 100000 in
set_option maxHeartbeats 8000000 in
theorem entsof_any (w : World) (F : Nat → Prop) (A : Option Addr) (c : Nat) (l : List EntM) (most : Nat) (h : Sl w F A (entsC l)) (hz : ∀ e ∈ l, EntBd e) (hl : l.length ≤ 1125899906842624) (hm : most ≤ 100000) :
    Calls Try.prog 67 #[.slice A l.length c, I64 most] w fun e w' => e = .returned (I64 (entsT most l)) ∧ (entsT most l ≤ most + 7881299347898368 ∧ (entsT most l ≤ most → l.length ≤ entsT most l ∧ ∀ e ∈ l, EntS (entsT most l) e)) ∧ Nw w w' := by
  have HZ := Lib.hid hz
  clear hz
  go_enter Try.func67, Try.ntmps67
  go_wp2_with fail
  go_loopw [5, 6] (fun n i wr => EoRel w most l n i wr) (fun _ i _ => l.length - (intOf i).toNat)
  case atStart => exact ⟨0, 0, Nat.zero_le _, rfl, rfl, rfl, fun _ => Nat.le_refl _, Nat.zero_le _, fun _ j _ hj => absurd hj (Nat.not_lt_zero _), Fr.refl _ _⟩
  case round =>
    obtain ⟨k, t, hk, htt, rfl, rfl, hkt, htm, hall, hq⟩ := hrel
    have HTT := Lib.hid htt
    clear htt
    have HALL := Lib.hid hall
    clear hall
    by_cases hlt : k < l.length
    · have hi0 : (k : Int) < (l.length : Int) := by omega
      have hi1 : decide ((k : Int) < (l.length : Int)) = true := decide_eq_true hi0
      have hi2 : decide (k < l.length) = true := decide_eq_true hlt
      by_cases hle : t ≤ most
      · have hm1 : decide ((t : Int) ≤ (most : Int)) = true := decide_eq_true (by omega)
        have hm2 : decide (t ≤ most) = true := decide_eq_true hle
        obtain ⟨b, of, rfl, _, _, hc⟩ := (h.fr hq (fun _ _ h => h)).ent hlt
        have hbd := HZ.out _ (List.getElem_mem hlt)
        obtain ⟨e, hee⟩ : ∃ e, l[k] = e := ⟨_, rfl⟩
        rw [hee] at hc hbd
        have b1 := hbd.cmd
        have b2 : cfgN e.cfg ≤ 5629499534213121 := by
          have := hbd.cfg.v
          have := hbd.cfg.o
          have := hbd.cfg.l
          have := hbd.cfg.w
          unfold cfgN
          omega
        have hcf : ∀ m : Later wr, Calls Try.prog 66 #[.agg #[.slice e.cfg.v.a e.cfg.v.l.length e.cfg.v.c, .slice e.cfg.o.a e.cfg.o.l.length e.cfg.o.c, .slice e.cfg.l.a e.cfg.l.l.length e.cfg.l.c, .slice e.cfg.w.a e.cfg.w.l.length e.cfg.w.c]] m.at_ fun e9 w' => e9 = .returned (I64 (cfgN e.cfg)) ∧ Nw m.at_ w' := fun m => cfgof_any m.at_ e.cfg hbd.cfg
        obtain ⟨q, hqq⟩ : ∃ q : Nat, q = cfgN e.cfg := ⟨_, rfl⟩
        rw [← hqq] at hcf b2
        obtain ⟨cl, hcl⟩ : ∃ cl : Nat, cl = e.cmd.l.length := ⟨_, rfl⟩
        have hdiv : (cl : Int).tdiv 8 = ((cl / 8 : Nat) : Int) := by rw [Int.tdiv_eq_ediv_of_nonneg (by omega)]; rfl
        have k2 : ∀ n : Later wr, n.at_.cell? ⟨b, of + k * 7 + 2, none⟩ = some (.slice e.cmd.a cl e.cmd.c) := fun n => by rw [hcl]; exact Later.cells hc n.at_ ⟨n, rfl⟩ 2 _ rfl
        have k3 : ∀ w', (∃ n : Later wr, w' = n.at_) → ∀ p u, ([.slice e.cfg.v.a e.cfg.v.l.length e.cfg.v.c, .slice e.cfg.o.a e.cfg.o.l.length e.cfg.o.c, .slice e.cfg.l.a e.cfg.l.l.length e.cfg.l.c, .slice e.cfg.w.a e.cfg.w.l.length e.cfg.w.c] : List Value)[p]? = some u → w'.cell? ⟨b, of + k * 7 + 3 + p, none⟩ = some u := fun w' hw p u hu => by
          have hp : p < 4 := by
            rcases Nat.lt_or_ge p 4 with h | h
            · exact h
            · rw [List.getElem?_eq_none (by simpa using h)] at hu; cases hu
          have := Later.cells hc w' hw (3 + p) u (by
            match p, hp with
            | 0, _ => exact hu
            | 1, _ => exact hu
            | 2, _ => exact hu
            | 3, _ => exact hu)
          rw [← Nat.add_assoc] at this
          exact this
        rw [← hcl] at b1
        have hs1 : IntKind.i64.wrap ((t : Int) + 1) = (t : Int) + 1 := IntWalk.i64_in _ (by omega)
        have hs2 : IntKind.i64.wrap ((t : Int) + 1 + ((cl / 8 : Nat) : Int)) = (t : Int) + 1 + ((cl / 8 : Nat) : Int) := IntWalk.i64_in _ (by omega)
        have hs3 : IntKind.i64.wrap ((t : Int) + 1 + ((cl / 8 : Nat) : Int) + (q : Int)) = (t : Int) + 1 + ((cl / 8 : Nat) : Int) + (q : Int) := IntWalk.i64_in _ (by omega)
        have HE := Lib.hid (And.intro hee (And.intro hqq hcl))
        have K3 := Lib.hid k3
        have HCF := Lib.hid hcf
        clear hee hqq hcl k3 hcf hbd hc
        go_upto_region 5 with (fail)
        refine wp_region_later (by kernel_rfl) (by kernel_rfl) ?_
        iterate 14 (go_big_quiet_step (fail))
        refine quiet_load_cells (by kernel_rfl) 35 _ rfl b (of + k * 7 + 3) rfl _ _ K3.out Try.underlying35 rfl (by kernel_rfl) ?_
        simp only [Act.put, List.setIfInBounds_toArray, List.set_cons_succ, List.set_cons_zero]
        repeat (go_big_quiet_step ((go_at_call 66; exact Later.call (HCF.out _))))
        refine wpQuiet_later fun w5 q5 => ?_
        go_wp2_with fail
        go_roundw
        case rel =>
          obtain ⟨hee, hqq, hcl⟩ := HE.out
          have hnx : t + 1 + cl / 8 + q = entsT most (l.take (k + 1)) := by
            unfold entsT
            rw [foldl_take_succ _ l k hlt, hee]
            show _ = entF1 most (entsT most (l.take k)) e
            rw [← HTT.out]
            unfold entF1
            rw [if_pos hle, ← hcl, ← hqq]
          refine ⟨k + 1, t + 1 + cl / 8 + q, hlt, hnx, by go_num, by go_num, fun _ => by have := hkt hle; omega, by omega, fun _ j hj hjk => ?_, hq.tr q5⟩
          by_cases hjk2 : j < k
          · exact (HALL.out hle j hj hjk2).mono (by omega)
          · obtain rfl : j = k := by omega
            rw [hee]
            exact ⟨by rw [← hcl]; omega, by rw [← hqq]; omega⟩
        case measure => simp [intOf]; omega
      · have hm1 : decide ((t : Int) ≤ (most : Int)) = false := decide_eq_false (by omega)
        have hm2 : decide (t ≤ most) = false := decide_eq_false hle
        go_wp2_with fail
        go_ret
        have hfin : entsT most l = t := by
          unfold entsT
          conv => lhs; rw [← List.take_append_drop k l, List.foldl_append]
          show (l.drop k).foldl (entF1 most) (entsT most (l.take k)) = t
          rw [← HTT.out]
          exact entsT_stop most _ t hle
        rw [hfin]
        exact ⟨rfl, ⟨htm, fun h => absurd h hle⟩, hq⟩
    · have hi1 : decide ((k : Int) < (l.length : Int)) = false := decide_eq_false (by omega)
      have hi2 : decide (k < l.length) = false := decide_eq_false hlt
      go_wp2_with fail
      go_ret
      have hfin : entsT most l = t := by
        have := HTT.out
        rw [List.take_of_length_le (by omega)] at this
        exact this.symm
      rw [hfin]
      exact ⟨rfl, ⟨htm, fun h => ⟨by have := hkt h; omega, fun e he => by
        obtain ⟨j, hj, rfl⟩ := List.mem_iff_getElem.1 he
        exact HALL.out h j hj (by omega)⟩⟩, hq⟩
def letT (most : Nat) (x : LetM) : Nat := 1 + x.bytes.l.length / 8 + cfgN x.base.cfg + entsT most x.ents.l
set_option maxRecDepth 100000 in
set_option maxHeartbeats 8000000 in
theorem letof_any (w : World) (F : Nat → Prop) (x : LetM) (most : Nat) (hx : LetIn w F x) (hz : LetBd x) (hm : most ≤ 100000) :
    Calls Try.prog 32 #[.agg (letA x), I64 most] w fun e w' => e = .returned (I64 (letT most x)) ∧ (letT most x ≤ most + 16888498602639360 ∧ (letT most x ≤ most → LetS (letT most x) x)) ∧ Nw w w' := by
  have hE : ∀ w1, Nw w w1 → _ := fun w1 f => entsof_any w1 F x.ents.a x.ents.c x.ents.l most ((hx.ents.nw f).sl) hz.each hz.ents hm
  have hC : ∀ w1, _ := fun w1 => cfgof_any w1 x.base.cfg hz.cfg
  have hfa : entsT most x.ents.l ≤ most + 7881299347898368 ∧ (entsT most x.ents.l ≤ most → x.ents.l.length ≤ entsT most x.ents.l ∧ ∀ e ∈ x.ents.l, EntS (entsT most x.ents.l) e) := entsT_facts most x.ents.l hz.each hm
  have hcb : cfgN x.base.cfg ≤ 5629499534213121 := by
    have := hz.cfg.v
    have := hz.cfg.o
    have := hz.cfg.l
    have := hz.cfg.w
    unfold cfgN
    omega
  have hbb := hz.bytes
  obtain ⟨ne, hne⟩ : ∃ ne, ne = entsT most x.ents.l := ⟨_, rfl⟩
  obtain ⟨nc, hnc⟩ : ∃ nc, nc = cfgN x.base.cfg := ⟨_, rfl⟩
  obtain ⟨nb, hnb⟩ : ∃ nb, nb = x.bytes.l.length := ⟨_, rfl⟩
  have hT : letT most x = 1 + nb / 8 + nc + ne := by unfold letT; rw [hne, hnc, hnb]
  have hres : letT most x ≤ most + 16888498602639360 ∧ (letT most x ≤ most → LetS (letT most x) x) := by
    rw [hT]
    refine ⟨by omega, fun h => ?_⟩
    obtain ⟨h1, h2⟩ := hfa.2 (by omega)
    exact ⟨by omega, fun e he => (h2 e he).mono (by omega), by omega, by omega⟩
  rw [← hne] at hE
  rw [← hnc] at hC hcb
  rw [← hnb] at hbb
  rw [hT] at hres ⊢
  clear hfa hT hne
  obtain ⟨X, hX⟩ : ∃ X, X = w.heap.size := ⟨_, rfl⟩
  obtain ⟨W0, hW0⟩ : ∃ W, W = w.alloc (.cells #[U8V x.kind, I64 x.group, I64 x.src, I64 x.dst, I64 x.term, I64 x.index, I64 x.logt, I64 x.commit, .bool x.ok, .slice x.ents.a x.ents.l.length x.ents.c, I64 x.base.index, I64 x.base.term, .slice x.base.cfg.v.a x.base.cfg.v.l.length x.base.cfg.v.c, .slice x.base.cfg.o.a x.base.cfg.o.l.length x.base.cfg.o.c, .slice x.base.cfg.l.a x.base.cfg.l.l.length x.base.cfg.l.c, .slice x.base.cfg.w.a x.base.cfg.w.l.length x.base.cfg.w.c, I64 x.size, I64 x.at_, I64 x.tag, .slice x.bytes.a x.bytes.l.length x.bytes.c] 40) := ⟨_, rfl⟩
  have p0 : Nw w W0 := by rw [hW0]; exact (Fr.refl (fun _ => False) _).alloc _
  have x0 : Blk W0 X 40 #[U8V x.kind, I64 x.group, I64 x.src, I64 x.dst, I64 x.term, I64 x.index, I64 x.logt, I64 x.commit, .bool x.ok, .slice x.ents.a x.ents.l.length x.ents.c, I64 x.base.index, I64 x.base.term, .slice x.base.cfg.v.a x.base.cfg.v.l.length x.base.cfg.v.c, .slice x.base.cfg.o.a x.base.cfg.o.l.length x.base.cfg.o.c, .slice x.base.cfg.l.a x.base.cfg.l.l.length x.base.cfg.l.c, .slice x.base.cfg.w.a x.base.cfg.w.l.length x.base.cfg.w.c, I64 x.size, I64 x.at_, I64 x.tag, .slice x.bytes.a x.bytes.l.length x.bytes.c] := by rw [hW0, hX]; exact Blk.new _ _ _
  have k1 : ∀ n : Later W0, n.at_.cell? ⟨X, 19, none⟩ = some (.slice x.bytes.a nb x.bytes.c) := fun n => by rw [hnb]; simpa using (x0.fr n.nw (fun h => h)).cell 19
  have k2 : ∀ n : Later W0, n.at_.cell? ⟨X, 9, none⟩ = some (.slice x.ents.a x.ents.l.length x.ents.c) := fun n => by simpa using (x0.fr n.nw (fun h => h)).cell 9
  have k3 : ∀ w', (∃ n : Later W0, w' = n.at_) → ∀ p u, ([.slice x.base.cfg.v.a x.base.cfg.v.l.length x.base.cfg.v.c, .slice x.base.cfg.o.a x.base.cfg.o.l.length x.base.cfg.o.c, .slice x.base.cfg.l.a x.base.cfg.l.l.length x.base.cfg.l.c, .slice x.base.cfg.w.a x.base.cfg.w.l.length x.base.cfg.w.c] : List Value)[p]? = some u → w'.cell? ⟨X, 12 + p, none⟩ = some u := by
    rintro w' ⟨n, rfl⟩
    exact Blk.cells_in (l := [U8V x.kind, I64 x.group, I64 x.src, I64 x.dst, I64 x.term, I64 x.index, I64 x.logt, I64 x.commit, .bool x.ok, .slice x.ents.a x.ents.l.length x.ents.c, I64 x.base.index, I64 x.base.term, .slice x.base.cfg.v.a x.base.cfg.v.l.length x.base.cfg.v.c, .slice x.base.cfg.o.a x.base.cfg.o.l.length x.base.cfg.o.c, .slice x.base.cfg.l.a x.base.cfg.l.l.length x.base.cfg.l.c, .slice x.base.cfg.w.a x.base.cfg.w.l.length x.base.cfg.w.c, I64 x.size, I64 x.at_, I64 x.tag, .slice x.bytes.a x.bytes.l.length x.bytes.c]) (x0.fr n.nw (fun h => h)) 12 4
  have hdiv : (nb : Int).tdiv 8 = ((nb / 8 : Nat) : Int) := by rw [Int.tdiv_eq_ediv_of_nonneg (by omega)]; rfl
  have hs1 : IntKind.i64.wrap (1 + ((nb / 8 : Nat) : Int)) = 1 + ((nb / 8 : Nat) : Int) := IntWalk.i64_in _ (by omega)
  have hs2 : IntKind.i64.wrap (1 + ((nb / 8 : Nat) : Int) + (nc : Int)) = 1 + ((nb / 8 : Nat) : Int) + (nc : Int) := IntWalk.i64_in _ (by omega)
  have hs3 : IntKind.i64.wrap (1 + ((nb / 8 : Nat) : Int) + (nc : Int) + (ne : Int)) = 1 + ((nb / 8 : Nat) : Int) + (nc : Int) + (ne : Int) := IntWalk.i64_in _ (by omega)
  have hE2 : ∀ m : Later W0, Calls Try.prog 67 #[.slice x.ents.a x.ents.l.length x.ents.c, I64 most] m.at_ fun e9 w' => e9 = .returned (I64 ne) ∧ Nw m.at_ w' := fun m => (hE m.at_ (p0.tr m.nw)).mono fun e w' h => ⟨h.1, h.2.2⟩
  have hC2 : ∀ m : Later W0, Calls Try.prog 66 #[.agg #[.slice x.base.cfg.v.a x.base.cfg.v.l.length x.base.cfg.v.c, .slice x.base.cfg.o.a x.base.cfg.o.l.length x.base.cfg.o.c, .slice x.base.cfg.l.a x.base.cfg.l.l.length x.base.cfg.l.c, .slice x.base.cfg.w.a x.base.cfg.w.l.length x.base.cfg.w.c]] m.at_ fun e9 w' => e9 = .returned (I64 nc) ∧ Nw m.at_ w' := fun m => hC m.at_
  have HE := Lib.hid hE2
  have HC := Lib.hid hC2
  have K3 := Lib.hid k3
  have HW0 := Lib.hid hW0
  have HX := Lib.hid hX
  clear hE hC hE2 hC2 k3 hW0 hX x0 hnc hnb
  go_enter Try.func32, Try.ntmps32
  go_upto_region 1 with (fail)
  rw [← HX.out, ← HW0.out]
  refine wp_region_later (by kernel_rfl) (by kernel_rfl) ?_
  iterate 7 (go_big_quiet_step (fail))
  refine quiet_load_cells (by kernel_rfl) 35 _ rfl X 12 rfl _ _ K3.out Try.underlying35 rfl (by kernel_rfl) ?_
  simp only [Act.put, List.setIfInBounds_toArray, List.set_cons_succ, List.set_cons_zero]
  repeat (go_big_quiet_step ((first | (go_at_call 67; exact Later.call (HE.out _)) | (go_at_call 66; exact Later.call (HC.out _)))))
  refine wpQuiet_later fun w5 q5 => ?_
  go_wp2_with fail
  go_ret
  have e : ((1 + nb / 8 + nc + ne : Nat) : Int) = 1 + ((nb / 8 : Nat) : Int) + (nc : Int) + (ne : Int) := by omega
  rw [I64, e]
  exact ⟨rfl, hres, p0.tr q5⟩
end Go.Proofs.Ytippdjaakcgeoaa

namespace Go.Proofs.Ytippdjaakcgeoaa
open Go Go.RowKit
set_option linter.unusedVariables false

structure DeedN where
  kind : Int
  src : Int
  dst : Int
  l : Ls LetM
abbrev deedNL (d : DeedN) : List Value := [I64 d.kind, I64 d.src, I64 d.dst, d.l.v]
abbrev deedNA (d : DeedN) : Array Value := #[I64 d.kind, I64 d.src, I64 d.dst, d.l.v]
def deedNF (d : DeedN) : List Value := deedNL d
def deedsN (l : List DeedN) : List Value := (l.map deedNF).flatten
structure DeedNIn (w : World) (F : Nat → Prop) (d : DeedN) : Prop where
  kind : -9223372036854775808 ≤ d.kind ∧ d.kind ≤ 9223372036854775807
  way : NmWf (d.src, d.dst)
  lets : LetsIn w F d.l
  bd : ∀ x ∈ d.l.l, LetBd x
  len : d.l.l.length ≤ 1125899906842624
section
variable {w w' : World} {F F' S : Nat → Prop} {d : DeedN}
theorem DeedNIn.fr (h : DeedNIn w F d) (hf : Fr S w w') (hn : ∀ k, F k → ¬ S k) : DeedNIn w' F d := ⟨h.kind, h.way, h.lets.fr hf hn, h.bd, h.len⟩
theorem DeedNIn.nw (h : DeedNIn w F d) (hf : Nw w w') : DeedNIn w' F d := h.fr hf (fun _ _ h => h)
theorem DeedNIn.mono (h : DeedNIn w F d) (hF : ∀ k, F k → k < w.heap.size → F' k) : DeedNIn w F' d := ⟨h.kind, h.way, h.lets.mono hF, h.bd, h.len⟩
theorem DeedNIn.dst_ (h : DeedNIn w F d) : -9223372036854775808 ≤ d.dst ∧ d.dst ≤ 9223372036854775807 := by
  have := h.way.2
  simpa [Lit.wf, IntKind.min, IntKind.max, IntKind.signed, IntKind.bits] using this
theorem Sl.deedN {A : Option Addr} {l : List DeedN} (h : Sl w F A (deedsN l)) {k : Nat} (hk : k < l.length) :
    ∃ b o, A = some ⟨b, o, none⟩ ∧ F b ∧ b < w.heap.size ∧ ∀ j u, (deedNL l[k])[j]? = some u → w.cell? ⟨b, o + k * 4 + j, none⟩ = some u := Sl.struct (f := deedNF) (by omega) (fun _ _ => rfl) h hk
end
theorem deedNA_one (d : DeedN) : (deedNA d).all (·.oneCell') = true := by rw [List.all_toArray]; simp only [List.all_cons, List.all_nil]; rfl
end Go.Proofs.Ytippdjaakcgeoaa

namespace Go.Proofs.Ytippdjaakcgeoaa
open Go Go.RowKit
set_option linter.unusedVariables false
set_option linter.unusedSimpArgs false
def SameIR (w : World) (xs ys : List Int) (i : Value) (wr : World) : Prop := ∃ k : Nat, i = .int .i64 k ∧ k ≤ xs.length ∧ xs.take k = ys.take k ∧ Nw w wr
set_option maxRecDepth 100000 in
theorem same_ints (w : World) (F1 F2 : Nat → Prop) (A1 A2 : Option Addr) (c1 c2 : Nat) (xs ys : List Int) (h1 : Sl w F1 A1 (intsC xs)) (h2 : Sl w F2 A2 (intsC ys)) (hm1 : xs.length ≤ 1000000000000) :
    Calls Try.prog 102 #[.slice A1 xs.length c1, .slice A2 ys.length c2] w fun e w' => e = .returned (.bool (decide (xs = ys))) ∧ Nw w w' := by
  by_cases hl : xs.length = ys.length
  · have hlen : ((xs.length : Int) != (ys.length : Int)) = false := by simp [hl]
    have HL := Lib.hid hl
    clear hl
    go_enter Try.func102, Try.ntmps102
    go_wp2
    go_loopw [5] (fun i wr => SameIR w xs ys i wr) (fun i _ => xs.length - (intOf i).toNat)
    case atStart => exact ⟨0, rfl, Nat.zero_le _, rfl, Fr.refl _ _⟩
    case round =>
      obtain ⟨k, rfl, hk, ht, hq⟩ := hrel
      have HT := Lib.hid ht
      clear ht
      by_cases hlt : k < xs.length
      · have hlt2 : k < ys.length := by have := HL.out; omega
        obtain ⟨b1, o1, rfl, _, hc1⟩ := (h1.fr hq (fun _ _ h => h)).get hlt
        obtain ⟨b2, o2, rfl, _, hc2⟩ := (h2.fr hq (fun _ _ h => h)).get hlt2
        have hi1 : (k : Int) < (xs.length : Int) := by omega
        have hi2 : (k : Int) < (ys.length : Int) := by omega
        go_wp2
        go_quiet (fail)
        by_cases heq : (xs[k] != ys[k]) = false
        rotate_left
        · have hne : (xs[k] != ys[k]) = true := by simpa using heq
          clear heq
          go_wp2
          go_ret
          refine ⟨ret_eq (congrArg Value.bool (decide_eq_false ?_).symm), hq.drewN _⟩
          rintro rfl
          simp at hne
        · go_wp2
          go_roundw
          case rel =>
            refine ⟨k + 1, by go_num, by omega, ?_, hq.drewN _⟩
            rw [List.take_succ_eq_append_getElem hlt, List.take_succ_eq_append_getElem hlt2, HT.out]
            congr 2
            simpa using heq
          case measure => simp [intOf]; omega
      · go_wp2
        go_ret
        have hx : xs = ys := by
          have := HT.out
          rwa [List.take_of_length_le (by omega), List.take_of_length_le (by have := HL.out; omega)] at this
        exact ⟨ret_eq (congrArg Value.bool (decide_eq_true hx).symm), hq⟩
  · have hlen : ((xs.length : Int) != (ys.length : Int)) = true := by simp; omega
    go_enter Try.func102, Try.ntmps102
    go_wp2
    go_ret
    exact ⟨ret_eq (congrArg Value.bool (decide_eq_false fun h => hl (by rw [h])).symm), Fr.refl _ _⟩
theorem cfg_eq (x y : CfgM) : decide (x.x = y.x) = (decide (x.v.l = y.v.l) && (decide (x.o.l = y.o.l) && (decide (x.l.l = y.l.l) && decide (x.w.l = y.w.l)))) := by
  rw [Bool.eq_iff_iff]
  simp only [decide_eq_true_eq, Bool.and_eq_true, Cfg.mk.injEq]
theorem ent_eq (x y : EntM) : decide (x.x = y.x) = (decide (x.term = y.term) && (decide (x.kind = y.kind) && (decide (x.cmd.l = y.cmd.l) && decide (x.cfg.x = y.cfg.x)))) := by
  rw [Bool.eq_iff_iff]
  simp only [decide_eq_true_eq, Bool.and_eq_true, Ent.mk.injEq]
theorem bas_eq (x y : BasM) : decide (x.x = y.x) = (decide (x.index = y.index) && (decide (x.term = y.term) && decide (x.cfg.x = y.cfg.x))) := by
  rw [Bool.eq_iff_iff]
  simp only [decide_eq_true_eq, Bool.and_eq_true, Bas.mk.injEq]
set_option maxRecDepth 100000 in
set_option maxHeartbeats 4000000 in
theorem same_cfg (w : World) (F1 F2 : Nat → Prop) (x y : CfgM) (hx : CfgIn w F1 x) (hy : CfgIn w F2 y) (hz : CfgSz x) :
    Calls Try.prog 94 #[.agg (cfgA x), .agg (cfgA y)] w fun e w' => e = .returned (.bool (decide (x.x = y.x))) ∧ Nw w w' := by
  rw [cfg_eq]
  obtain ⟨W0, hW0⟩ : ∃ W, W = w.alloc (.cells #[.slice x.v.a x.v.l.length x.v.c, .slice x.o.a x.o.l.length x.o.c, .slice x.l.a x.l.l.length x.l.c, .slice x.w.a x.w.l.length x.w.c] 35) := ⟨_, rfl⟩
  have p0 : Nw w W0 := by rw [hW0]; exact (Fr.refl (fun _ => False) _).alloc _
  have b0 : Blk W0 w.heap.size 35 #[.slice x.v.a x.v.l.length x.v.c, .slice x.o.a x.o.l.length x.o.c, .slice x.l.a x.l.l.length x.l.c, .slice x.w.a x.w.l.length x.w.c] := by rw [hW0]; exact Blk.new _ _ _
  have hz1 : W0.heap.size = w.heap.size + 1 := by rw [hW0]; simp
  obtain ⟨W1, hW1⟩ : ∃ W, W = W0.alloc (.cells #[.slice y.v.a y.v.l.length y.v.c, .slice y.o.a y.o.l.length y.o.c, .slice y.l.a y.l.l.length y.l.c, .slice y.w.a y.w.l.length y.w.c] 35) := ⟨_, rfl⟩
  have p1 : Nw W0 W1 := by rw [hW1]; exact (Fr.refl (fun _ => False) _).alloc _
  have b1 : Blk W1 (w.heap.size + 1) 35 #[.slice y.v.a y.v.l.length y.v.c, .slice y.o.a y.o.l.length y.o.c, .slice y.l.a y.l.l.length y.l.c, .slice y.w.a y.w.l.length y.w.c] := by rw [hW1, ← hz1]; exact Blk.new _ _ _
  have Q0 : Nw w W1 := p0.tr p1
  have b0 := b0.fr p1 (fun h => h)
  have z1 : ∀ m : Later W1, Calls Try.prog 102 #[.slice x.v.a x.v.l.length x.v.c, .slice y.v.a y.v.l.length y.v.c] m.at_ fun e w' => e = .returned (.bool (decide (x.v.l = y.v.l))) ∧ Nw m.at_ w' := fun m => by
    have f := Q0.tr m.nw
    exact same_ints _ F1 F2 _ _ _ _ _ _ (hx.v.sl.fr f (fun _ _ h => h)) (hy.v.sl.fr f (fun _ _ h => h)) (by have := hz.v; omega)
  obtain ⟨d1, e1⟩ : ∃ d, (decide (x.v.l = y.v.l)) = d := ⟨_, rfl⟩
  simp only [e1] at z1 ⊢
  have z2 : ∀ m : Later W1, Calls Try.prog 102 #[.slice x.o.a x.o.l.length x.o.c, .slice y.o.a y.o.l.length y.o.c] m.at_ fun e w' => e = .returned (.bool (decide (x.o.l = y.o.l))) ∧ Nw m.at_ w' := fun m => by
    have f := Q0.tr m.nw
    exact same_ints _ F1 F2 _ _ _ _ _ _ (hx.o.sl.fr f (fun _ _ h => h)) (hy.o.sl.fr f (fun _ _ h => h)) (by have := hz.o; omega)
  obtain ⟨d2, e2⟩ : ∃ d, (decide (x.o.l = y.o.l)) = d := ⟨_, rfl⟩
  simp only [e2] at z2 ⊢
  have z3 : ∀ m : Later W1, Calls Try.prog 102 #[.slice x.l.a x.l.l.length x.l.c, .slice y.l.a y.l.l.length y.l.c] m.at_ fun e w' => e = .returned (.bool (decide (x.l.l = y.l.l))) ∧ Nw m.at_ w' := fun m => by
    have f := Q0.tr m.nw
    exact same_ints _ F1 F2 _ _ _ _ _ _ (hx.l.sl.fr f (fun _ _ h => h)) (hy.l.sl.fr f (fun _ _ h => h)) (by have := hz.l; omega)
  obtain ⟨d3, e3⟩ : ∃ d, (decide (x.l.l = y.l.l)) = d := ⟨_, rfl⟩
  simp only [e3] at z3 ⊢
  have z4 : ∀ m : Later W1, Calls Try.prog 102 #[.slice x.w.a x.w.l.length x.w.c, .slice y.w.a y.w.l.length y.w.c] m.at_ fun e w' => e = .returned (.bool (decide (x.w.l = y.w.l))) ∧ Nw m.at_ w' := fun m => by
    have f := Q0.tr m.nw
    exact same_ints _ F1 F2 _ _ _ _ _ _ (hx.w.sl.fr f (fun _ _ h => h)) (hy.w.sl.fr f (fun _ _ h => h)) (by have := hz.w; omega)
  obtain ⟨d4, e4⟩ : ∃ d, (decide (x.w.l = y.w.l)) = d := ⟨_, rfl⟩
  simp only [e4] at z4 ⊢
  have hS : ∀ w1, Nw W1 w1 → w1.cell? ⟨w.heap.size, 0, none⟩ = some (.slice x.v.a x.v.l.length x.v.c) ∧ w1.cell? ⟨w.heap.size, 1, none⟩ = some (.slice x.o.a x.o.l.length x.o.c) ∧ w1.cell? ⟨w.heap.size, 2, none⟩ = some (.slice x.l.a x.l.l.length x.l.c) ∧ w1.cell? ⟨w.heap.size, 3, none⟩ = some (.slice x.w.a x.w.l.length x.w.c) ∧ w1.cell? ⟨(w.heap.size + 1), 0, none⟩ = some (.slice y.v.a y.v.l.length y.v.c) ∧ w1.cell? ⟨(w.heap.size + 1), 1, none⟩ = some (.slice y.o.a y.o.l.length y.o.c) ∧ w1.cell? ⟨(w.heap.size + 1), 2, none⟩ = some (.slice y.l.a y.l.l.length y.l.c) ∧ w1.cell? ⟨(w.heap.size + 1), 3, none⟩ = some (.slice y.w.a y.w.l.length y.w.c) := fun w1 f => by
    have a0 := b0.fr f (fun h => h)
    have a1 := b1.fr f (fun h => h)
    exact ⟨by simpa using a0.cell 0, by simpa using a0.cell 1, by simpa using a0.cell 2, by simpa using a0.cell 3, by simpa using a1.cell 0, by simpa using a1.cell 1, by simpa using a1.cell 2, by simpa using a1.cell 3⟩
  have HW0 := Lib.hid hW0
  have HW1 := Lib.hid hW1
  clear hW0 b0 hW1 b1 e1 e2 e3 e4
  cases d1 with
  | false =>
    go_enter Try.func94, Try.ntmps94
    go_upto_region 1 with (fail)
    rw [← HW0.out, ← HW1.out]
    obtain ⟨k0_0_0, k0_0_1, k0_0_2, k0_0_3, k0_1_0, k0_1_1, k0_1_2, k0_1_3⟩ := hS W1 (Fr.refl _ _)
    go_wp2_with fail
    refine (z1 ⟨_, (Fr.refl (fun _ => False) W1)⟩).mono ?_
    rintro e v1 ⟨rfl, r1⟩
    have Q1 : Nw W1 v1 := (Fr.refl (fun _ => False) W1).tr r1
    obtain ⟨k1_0_0, k1_0_1, k1_0_2, k1_0_3, k1_1_0, k1_1_1, k1_1_2, k1_1_3⟩ := hS v1 Q1
    go_wp2_with fail
    go_ret
    exact ⟨rfl, Q0.tr Q1⟩
  | true =>
  cases d2 with
  | false =>
    go_enter Try.func94, Try.ntmps94
    go_upto_region 1 with (fail)
    rw [← HW0.out, ← HW1.out]
    obtain ⟨k0_0_0, k0_0_1, k0_0_2, k0_0_3, k0_1_0, k0_1_1, k0_1_2, k0_1_3⟩ := hS W1 (Fr.refl _ _)
    go_wp2_with fail
    refine (z1 ⟨_, (Fr.refl (fun _ => False) W1)⟩).mono ?_
    rintro e v1 ⟨rfl, r1⟩
    have Q1 : Nw W1 v1 := (Fr.refl (fun _ => False) W1).tr r1
    obtain ⟨k1_0_0, k1_0_1, k1_0_2, k1_0_3, k1_1_0, k1_1_1, k1_1_2, k1_1_3⟩ := hS v1 Q1
    go_wp2_with fail
    refine (z2 ⟨_, Q1⟩).mono ?_
    rintro e v2 ⟨rfl, r2⟩
    have Q2 : Nw W1 v2 := Q1.tr r2
    obtain ⟨k2_0_0, k2_0_1, k2_0_2, k2_0_3, k2_1_0, k2_1_1, k2_1_2, k2_1_3⟩ := hS v2 Q2
    go_wp2_with fail
    go_ret
    exact ⟨rfl, Q0.tr Q2⟩
  | true =>
  cases d3 with
  | false =>
    go_enter Try.func94, Try.ntmps94
    go_upto_region 1 with (fail)
    rw [← HW0.out, ← HW1.out]
    obtain ⟨k0_0_0, k0_0_1, k0_0_2, k0_0_3, k0_1_0, k0_1_1, k0_1_2, k0_1_3⟩ := hS W1 (Fr.refl _ _)
    go_wp2_with fail
    refine (z1 ⟨_, (Fr.refl (fun _ => False) W1)⟩).mono ?_
    rintro e v1 ⟨rfl, r1⟩
    have Q1 : Nw W1 v1 := (Fr.refl (fun _ => False) W1).tr r1
    obtain ⟨k1_0_0, k1_0_1, k1_0_2, k1_0_3, k1_1_0, k1_1_1, k1_1_2, k1_1_3⟩ := hS v1 Q1
    go_wp2_with fail
    refine (z2 ⟨_, Q1⟩).mono ?_
    rintro e v2 ⟨rfl, r2⟩
    have Q2 : Nw W1 v2 := Q1.tr r2
    obtain ⟨k2_0_0, k2_0_1, k2_0_2, k2_0_3, k2_1_0, k2_1_1, k2_1_2, k2_1_3⟩ := hS v2 Q2
    go_wp2_with fail
    refine (z3 ⟨_, Q2⟩).mono ?_
    rintro e v3 ⟨rfl, r3⟩
    have Q3 : Nw W1 v3 := Q2.tr r3
    obtain ⟨k3_0_0, k3_0_1, k3_0_2, k3_0_3, k3_1_0, k3_1_1, k3_1_2, k3_1_3⟩ := hS v3 Q3
    go_wp2_with fail
    go_ret
    exact ⟨rfl, Q0.tr Q3⟩
  | true =>
  cases d4 with
  | false =>
    go_enter Try.func94, Try.ntmps94
    go_upto_region 1 with (fail)
    rw [← HW0.out, ← HW1.out]
    obtain ⟨k0_0_0, k0_0_1, k0_0_2, k0_0_3, k0_1_0, k0_1_1, k0_1_2, k0_1_3⟩ := hS W1 (Fr.refl _ _)
    go_wp2_with fail
    refine (z1 ⟨_, (Fr.refl (fun _ => False) W1)⟩).mono ?_
    rintro e v1 ⟨rfl, r1⟩
    have Q1 : Nw W1 v1 := (Fr.refl (fun _ => False) W1).tr r1
    obtain ⟨k1_0_0, k1_0_1, k1_0_2, k1_0_3, k1_1_0, k1_1_1, k1_1_2, k1_1_3⟩ := hS v1 Q1
    go_wp2_with fail
    refine (z2 ⟨_, Q1⟩).mono ?_
    rintro e v2 ⟨rfl, r2⟩
    have Q2 : Nw W1 v2 := Q1.tr r2
    obtain ⟨k2_0_0, k2_0_1, k2_0_2, k2_0_3, k2_1_0, k2_1_1, k2_1_2, k2_1_3⟩ := hS v2 Q2
    go_wp2_with fail
    refine (z3 ⟨_, Q2⟩).mono ?_
    rintro e v3 ⟨rfl, r3⟩
    have Q3 : Nw W1 v3 := Q2.tr r3
    obtain ⟨k3_0_0, k3_0_1, k3_0_2, k3_0_3, k3_1_0, k3_1_1, k3_1_2, k3_1_3⟩ := hS v3 Q3
    go_wp2_with fail
    refine (z4 ⟨_, Q3⟩).mono ?_
    rintro e v4 ⟨rfl, r4⟩
    have Q4 : Nw W1 v4 := Q3.tr r4
    obtain ⟨k4_0_0, k4_0_1, k4_0_2, k4_0_3, k4_1_0, k4_1_1, k4_1_2, k4_1_3⟩ := hS v4 Q4
    go_wp2_with fail
    go_ret
    exact ⟨rfl, Q0.tr Q4⟩
  | true =>
  go_enter Try.func94, Try.ntmps94
  go_upto_region 1 with (fail)
  rw [← HW0.out, ← HW1.out]
  obtain ⟨k0_0_0, k0_0_1, k0_0_2, k0_0_3, k0_1_0, k0_1_1, k0_1_2, k0_1_3⟩ := hS W1 (Fr.refl _ _)
  go_wp2_with fail
  refine (z1 ⟨_, (Fr.refl (fun _ => False) W1)⟩).mono ?_
  rintro e v1 ⟨rfl, r1⟩
  have Q1 : Nw W1 v1 := (Fr.refl (fun _ => False) W1).tr r1
  obtain ⟨k1_0_0, k1_0_1, k1_0_2, k1_0_3, k1_1_0, k1_1_1, k1_1_2, k1_1_3⟩ := hS v1 Q1
  go_wp2_with fail
  refine (z2 ⟨_, Q1⟩).mono ?_
  rintro e v2 ⟨rfl, r2⟩
  have Q2 : Nw W1 v2 := Q1.tr r2
  obtain ⟨k2_0_0, k2_0_1, k2_0_2, k2_0_3, k2_1_0, k2_1_1, k2_1_2, k2_1_3⟩ := hS v2 Q2
  go_wp2_with fail
  refine (z3 ⟨_, Q2⟩).mono ?_
  rintro e v3 ⟨rfl, r3⟩
  have Q3 : Nw W1 v3 := Q2.tr r3
  obtain ⟨k3_0_0, k3_0_1, k3_0_2, k3_0_3, k3_1_0, k3_1_1, k3_1_2, k3_1_3⟩ := hS v3 Q3
  go_wp2_with fail
  refine (z4 ⟨_, Q3⟩).mono ?_
  rintro e v4 ⟨rfl, r4⟩
  have Q4 : Nw W1 v4 := Q3.tr r4
  obtain ⟨k4_0_0, k4_0_1, k4_0_2, k4_0_3, k4_1_0, k4_1_1, k4_1_2, k4_1_3⟩ := hS v4 Q4
  go_wp2_with fail
  go_ret
  exact ⟨rfl, Q0.tr Q4⟩
set_option maxRecDepth 100000 in
set_option maxHeartbeats 4000000 in
theorem same_ent (w : World) (F1 F2 : Nat → Prop) (x y : EntM) (hx : EntIn w F1 x) (hy : EntIn w F2 y) (hz : EntSz x) :
    Calls Try.prog 93 #[.agg (entA x), .agg (entA y)] w fun e w' => e = .returned (.bool (decide (x.x = y.x))) ∧ Nw w w' := by
  rw [ent_eq]
  obtain ⟨W0, hW0⟩ : ∃ W, W = w.alloc (.cells #[I64 x.term, U8V x.kind, .slice x.cmd.a x.cmd.l.length x.cmd.c, .slice x.cfg.v.a x.cfg.v.l.length x.cfg.v.c, .slice x.cfg.o.a x.cfg.o.l.length x.cfg.o.c, .slice x.cfg.l.a x.cfg.l.l.length x.cfg.l.c, .slice x.cfg.w.a x.cfg.w.l.length x.cfg.w.c] 60) := ⟨_, rfl⟩
  have p0 : Nw w W0 := by rw [hW0]; exact (Fr.refl (fun _ => False) _).alloc _
  have b0 : Blk W0 w.heap.size 60 #[I64 x.term, U8V x.kind, .slice x.cmd.a x.cmd.l.length x.cmd.c, .slice x.cfg.v.a x.cfg.v.l.length x.cfg.v.c, .slice x.cfg.o.a x.cfg.o.l.length x.cfg.o.c, .slice x.cfg.l.a x.cfg.l.l.length x.cfg.l.c, .slice x.cfg.w.a x.cfg.w.l.length x.cfg.w.c] := by rw [hW0]; exact Blk.new _ _ _
  have hz1 : W0.heap.size = w.heap.size + 1 := by rw [hW0]; simp
  obtain ⟨W1, hW1⟩ : ∃ W, W = W0.alloc (.cells #[I64 y.term, U8V y.kind, .slice y.cmd.a y.cmd.l.length y.cmd.c, .slice y.cfg.v.a y.cfg.v.l.length y.cfg.v.c, .slice y.cfg.o.a y.cfg.o.l.length y.cfg.o.c, .slice y.cfg.l.a y.cfg.l.l.length y.cfg.l.c, .slice y.cfg.w.a y.cfg.w.l.length y.cfg.w.c] 60) := ⟨_, rfl⟩
  have p1 : Nw W0 W1 := by rw [hW1]; exact (Fr.refl (fun _ => False) _).alloc _
  have b1 : Blk W1 (w.heap.size + 1) 60 #[I64 y.term, U8V y.kind, .slice y.cmd.a y.cmd.l.length y.cmd.c, .slice y.cfg.v.a y.cfg.v.l.length y.cfg.v.c, .slice y.cfg.o.a y.cfg.o.l.length y.cfg.o.c, .slice y.cfg.l.a y.cfg.l.l.length y.cfg.l.c, .slice y.cfg.w.a y.cfg.w.l.length y.cfg.w.c] := by rw [hW1, ← hz1]; exact Blk.new _ _ _
  have Q0 : Nw w W1 := p0.tr p1
  have b0 := b0.fr p1 (fun h => h)
  have z1 : (x.term == y.term) = (decide (x.term = y.term)) := rfl
  obtain ⟨d1, e1⟩ : ∃ d, (decide (x.term = y.term)) = d := ⟨_, rfl⟩
  simp only [e1] at z1 ⊢
  have z2 : (x.kind == y.kind) = (decide (x.kind = y.kind)) := rfl
  obtain ⟨d2, e2⟩ : ∃ d, (decide (x.kind = y.kind)) = d := ⟨_, rfl⟩
  simp only [e2] at z2 ⊢
  have z3 : ∀ m : Later W1, Calls Try.prog 26 #[.slice x.cmd.a x.cmd.l.length x.cmd.c, .slice y.cmd.a y.cmd.l.length y.cmd.c] m.at_ fun e w' => e = .returned (.bool (decide (x.cmd.l = y.cmd.l))) ∧ Nw m.at_ w' := fun m => by
    have f := Q0.tr m.nw
    exact (same_u8 _ F1 F2 _ _ _ _ _ _ (hx.cmd.sl.fr f (fun _ _ h => h)) (hy.cmd.sl.fr f (fun _ _ h => h)) (by have := hz.cmd; omega)).mono fun e w' h => ⟨h.1, h.2.fr _⟩
  obtain ⟨d3, e3⟩ : ∃ d, (decide (x.cmd.l = y.cmd.l)) = d := ⟨_, rfl⟩
  simp only [e3] at z3 ⊢
  have z4 : ∀ m : Later W1, Calls Try.prog 94 #[.agg #[.slice x.cfg.v.a x.cfg.v.l.length x.cfg.v.c, .slice x.cfg.o.a x.cfg.o.l.length x.cfg.o.c, .slice x.cfg.l.a x.cfg.l.l.length x.cfg.l.c, .slice x.cfg.w.a x.cfg.w.l.length x.cfg.w.c], .agg #[.slice y.cfg.v.a y.cfg.v.l.length y.cfg.v.c, .slice y.cfg.o.a y.cfg.o.l.length y.cfg.o.c, .slice y.cfg.l.a y.cfg.l.l.length y.cfg.l.c, .slice y.cfg.w.a y.cfg.w.l.length y.cfg.w.c]] m.at_ fun e w' => e = .returned (.bool (decide (x.cfg.x = y.cfg.x))) ∧ Nw m.at_ w' := fun m => by
    have f := Q0.tr m.nw
    exact same_cfg _ F1 F2 _ _ (hx.cfg.nw f) (hy.cfg.nw f) hz.cfg
  obtain ⟨d4, e4⟩ : ∃ d, (decide (x.cfg.x = y.cfg.x)) = d := ⟨_, rfl⟩
  simp only [e4] at z4 ⊢
  have hS : ∀ w1, Nw W1 w1 → w1.cell? ⟨w.heap.size, 0, none⟩ = some (I64 x.term) ∧ w1.cell? ⟨w.heap.size, 1, none⟩ = some (U8V x.kind) ∧ w1.cell? ⟨w.heap.size, 2, none⟩ = some (.slice x.cmd.a x.cmd.l.length x.cmd.c) ∧ w1.cell? ⟨w.heap.size, 3, none⟩ = some (.slice x.cfg.v.a x.cfg.v.l.length x.cfg.v.c) ∧ w1.cell? ⟨w.heap.size, 4, none⟩ = some (.slice x.cfg.o.a x.cfg.o.l.length x.cfg.o.c) ∧ w1.cell? ⟨w.heap.size, 5, none⟩ = some (.slice x.cfg.l.a x.cfg.l.l.length x.cfg.l.c) ∧ w1.cell? ⟨w.heap.size, 6, none⟩ = some (.slice x.cfg.w.a x.cfg.w.l.length x.cfg.w.c) ∧ w1.cell? ⟨(w.heap.size + 1), 0, none⟩ = some (I64 y.term) ∧ w1.cell? ⟨(w.heap.size + 1), 1, none⟩ = some (U8V y.kind) ∧ w1.cell? ⟨(w.heap.size + 1), 2, none⟩ = some (.slice y.cmd.a y.cmd.l.length y.cmd.c) ∧ w1.cell? ⟨(w.heap.size + 1), 3, none⟩ = some (.slice y.cfg.v.a y.cfg.v.l.length y.cfg.v.c) ∧ w1.cell? ⟨(w.heap.size + 1), 4, none⟩ = some (.slice y.cfg.o.a y.cfg.o.l.length y.cfg.o.c) ∧ w1.cell? ⟨(w.heap.size + 1), 5, none⟩ = some (.slice y.cfg.l.a y.cfg.l.l.length y.cfg.l.c) ∧ w1.cell? ⟨(w.heap.size + 1), 6, none⟩ = some (.slice y.cfg.w.a y.cfg.w.l.length y.cfg.w.c) := fun w1 f => by
    have a0 := b0.fr f (fun h => h)
    have a1 := b1.fr f (fun h => h)
    exact ⟨by simpa using a0.cell 0, by simpa using a0.cell 1, by simpa using a0.cell 2, by simpa using a0.cell 3, by simpa using a0.cell 4, by simpa using a0.cell 5, by simpa using a0.cell 6, by simpa using a1.cell 0, by simpa using a1.cell 1, by simpa using a1.cell 2, by simpa using a1.cell 3, by simpa using a1.cell 4, by simpa using a1.cell 5, by simpa using a1.cell 6⟩
  have HW0 := Lib.hid hW0
  have HW1 := Lib.hid hW1
  clear hW0 b0 hW1 b1 e1 e2 e3 e4
  cases d1 with
  | false =>
    go_enter Try.func93, Try.ntmps93
    go_upto_region 1 with (fail)
    rw [← HW0.out, ← HW1.out]
    obtain ⟨k0_0_0, k0_0_1, k0_0_2, k0_0_3, k0_0_4, k0_0_5, k0_0_6, k0_1_0, k0_1_1, k0_1_2, k0_1_3, k0_1_4, k0_1_5, k0_1_6⟩ := hS W1 (Fr.refl _ _)
    go_wp2_with fail
    go_ret
    exact ⟨rfl, Q0.tr (Fr.refl (fun _ => False) W1)⟩
  | true =>
  cases d2 with
  | false =>
    go_enter Try.func93, Try.ntmps93
    go_upto_region 1 with (fail)
    rw [← HW0.out, ← HW1.out]
    obtain ⟨k0_0_0, k0_0_1, k0_0_2, k0_0_3, k0_0_4, k0_0_5, k0_0_6, k0_1_0, k0_1_1, k0_1_2, k0_1_3, k0_1_4, k0_1_5, k0_1_6⟩ := hS W1 (Fr.refl _ _)
    go_wp2_with fail
    go_ret
    exact ⟨rfl, Q0.tr (Fr.refl (fun _ => False) W1)⟩
  | true =>
  cases d3 with
  | false =>
    go_enter Try.func93, Try.ntmps93
    go_upto_region 1 with (fail)
    rw [← HW0.out, ← HW1.out]
    obtain ⟨k0_0_0, k0_0_1, k0_0_2, k0_0_3, k0_0_4, k0_0_5, k0_0_6, k0_1_0, k0_1_1, k0_1_2, k0_1_3, k0_1_4, k0_1_5, k0_1_6⟩ := hS W1 (Fr.refl _ _)
    go_wp2_with fail
    refine (z3 ⟨_, (Fr.refl (fun _ => False) W1)⟩).mono ?_
    rintro e v1 ⟨rfl, r1⟩
    have Q1 : Nw W1 v1 := (Fr.refl (fun _ => False) W1).tr r1
    obtain ⟨k1_0_0, k1_0_1, k1_0_2, k1_0_3, k1_0_4, k1_0_5, k1_0_6, k1_1_0, k1_1_1, k1_1_2, k1_1_3, k1_1_4, k1_1_5, k1_1_6⟩ := hS v1 Q1
    go_wp2_with fail
    go_ret
    exact ⟨rfl, Q0.tr Q1⟩
  | true =>
  cases d4 with
  | false =>
    go_enter Try.func93, Try.ntmps93
    go_upto_region 1 with (fail)
    rw [← HW0.out, ← HW1.out]
    obtain ⟨k0_0_0, k0_0_1, k0_0_2, k0_0_3, k0_0_4, k0_0_5, k0_0_6, k0_1_0, k0_1_1, k0_1_2, k0_1_3, k0_1_4, k0_1_5, k0_1_6⟩ := hS W1 (Fr.refl _ _)
    go_wp2_with fail
    refine (z3 ⟨_, (Fr.refl (fun _ => False) W1)⟩).mono ?_
    rintro e v1 ⟨rfl, r1⟩
    have Q1 : Nw W1 v1 := (Fr.refl (fun _ => False) W1).tr r1
    obtain ⟨k1_0_0, k1_0_1, k1_0_2, k1_0_3, k1_0_4, k1_0_5, k1_0_6, k1_1_0, k1_1_1, k1_1_2, k1_1_3, k1_1_4, k1_1_5, k1_1_6⟩ := hS v1 Q1
    go_wp2_with fail
    refine (z4 ⟨_, Q1⟩).mono ?_
    rintro e v2 ⟨rfl, r2⟩
    have Q2 : Nw W1 v2 := Q1.tr r2
    obtain ⟨k2_0_0, k2_0_1, k2_0_2, k2_0_3, k2_0_4, k2_0_5, k2_0_6, k2_1_0, k2_1_1, k2_1_2, k2_1_3, k2_1_4, k2_1_5, k2_1_6⟩ := hS v2 Q2
    go_wp2_with fail
    go_ret
    exact ⟨rfl, Q0.tr Q2⟩
  | true =>
  go_enter Try.func93, Try.ntmps93
  go_upto_region 1 with (fail)
  rw [← HW0.out, ← HW1.out]
  obtain ⟨k0_0_0, k0_0_1, k0_0_2, k0_0_3, k0_0_4, k0_0_5, k0_0_6, k0_1_0, k0_1_1, k0_1_2, k0_1_3, k0_1_4, k0_1_5, k0_1_6⟩ := hS W1 (Fr.refl _ _)
  go_wp2_with fail
  refine (z3 ⟨_, (Fr.refl (fun _ => False) W1)⟩).mono ?_
  rintro e v1 ⟨rfl, r1⟩
  have Q1 : Nw W1 v1 := (Fr.refl (fun _ => False) W1).tr r1
  obtain ⟨k1_0_0, k1_0_1, k1_0_2, k1_0_3, k1_0_4, k1_0_5, k1_0_6, k1_1_0, k1_1_1, k1_1_2, k1_1_3, k1_1_4, k1_1_5, k1_1_6⟩ := hS v1 Q1
  go_wp2_with fail
  refine (z4 ⟨_, Q1⟩).mono ?_
  rintro e v2 ⟨rfl, r2⟩
  have Q2 : Nw W1 v2 := Q1.tr r2
  obtain ⟨k2_0_0, k2_0_1, k2_0_2, k2_0_3, k2_0_4, k2_0_5, k2_0_6, k2_1_0, k2_1_1, k2_1_2, k2_1_3, k2_1_4, k2_1_5, k2_1_6⟩ := hS v2 Q2
  go_wp2_with fail
  go_ret
  exact ⟨rfl, Q0.tr Q2⟩
set_option maxRecDepth 100000 in
set_option maxHeartbeats 4000000 in
theorem same_bas (w : World) (F1 F2 : Nat → Prop) (x y : BasM) (hx : CfgIn w F1 x.cfg) (hy : CfgIn w F2 y.cfg) (hz : CfgSz x.cfg) :
    Calls Try.prog 69 #[.agg (basA x), .agg (basA y)] w fun e w' => e = .returned (.bool (decide (x.x = y.x))) ∧ Nw w w' := by
  rw [bas_eq]
  obtain ⟨W0, hW0⟩ : ∃ W, W = w.alloc (.cells #[I64 x.index, I64 x.term, .slice x.cfg.v.a x.cfg.v.l.length x.cfg.v.c, .slice x.cfg.o.a x.cfg.o.l.length x.cfg.o.c, .slice x.cfg.l.a x.cfg.l.l.length x.cfg.l.c, .slice x.cfg.w.a x.cfg.w.l.length x.cfg.w.c] 37) := ⟨_, rfl⟩
  have p0 : Nw w W0 := by rw [hW0]; exact (Fr.refl (fun _ => False) _).alloc _
  have b0 : Blk W0 w.heap.size 37 #[I64 x.index, I64 x.term, .slice x.cfg.v.a x.cfg.v.l.length x.cfg.v.c, .slice x.cfg.o.a x.cfg.o.l.length x.cfg.o.c, .slice x.cfg.l.a x.cfg.l.l.length x.cfg.l.c, .slice x.cfg.w.a x.cfg.w.l.length x.cfg.w.c] := by rw [hW0]; exact Blk.new _ _ _
  have hz1 : W0.heap.size = w.heap.size + 1 := by rw [hW0]; simp
  obtain ⟨W1, hW1⟩ : ∃ W, W = W0.alloc (.cells #[I64 y.index, I64 y.term, .slice y.cfg.v.a y.cfg.v.l.length y.cfg.v.c, .slice y.cfg.o.a y.cfg.o.l.length y.cfg.o.c, .slice y.cfg.l.a y.cfg.l.l.length y.cfg.l.c, .slice y.cfg.w.a y.cfg.w.l.length y.cfg.w.c] 37) := ⟨_, rfl⟩
  have p1 : Nw W0 W1 := by rw [hW1]; exact (Fr.refl (fun _ => False) _).alloc _
  have b1 : Blk W1 (w.heap.size + 1) 37 #[I64 y.index, I64 y.term, .slice y.cfg.v.a y.cfg.v.l.length y.cfg.v.c, .slice y.cfg.o.a y.cfg.o.l.length y.cfg.o.c, .slice y.cfg.l.a y.cfg.l.l.length y.cfg.l.c, .slice y.cfg.w.a y.cfg.w.l.length y.cfg.w.c] := by rw [hW1, ← hz1]; exact Blk.new _ _ _
  have Q0 : Nw w W1 := p0.tr p1
  have b0 := b0.fr p1 (fun h => h)
  have z1 : (x.index == y.index) = (decide (x.index = y.index)) := rfl
  obtain ⟨d1, e1⟩ : ∃ d, (decide (x.index = y.index)) = d := ⟨_, rfl⟩
  simp only [e1] at z1 ⊢
  have z2 : (x.term == y.term) = (decide (x.term = y.term)) := rfl
  obtain ⟨d2, e2⟩ : ∃ d, (decide (x.term = y.term)) = d := ⟨_, rfl⟩
  simp only [e2] at z2 ⊢
  have z3 : ∀ m : Later W1, Calls Try.prog 94 #[.agg #[.slice x.cfg.v.a x.cfg.v.l.length x.cfg.v.c, .slice x.cfg.o.a x.cfg.o.l.length x.cfg.o.c, .slice x.cfg.l.a x.cfg.l.l.length x.cfg.l.c, .slice x.cfg.w.a x.cfg.w.l.length x.cfg.w.c], .agg #[.slice y.cfg.v.a y.cfg.v.l.length y.cfg.v.c, .slice y.cfg.o.a y.cfg.o.l.length y.cfg.o.c, .slice y.cfg.l.a y.cfg.l.l.length y.cfg.l.c, .slice y.cfg.w.a y.cfg.w.l.length y.cfg.w.c]] m.at_ fun e w' => e = .returned (.bool (decide (x.cfg.x = y.cfg.x))) ∧ Nw m.at_ w' := fun m => by
    have f := Q0.tr m.nw
    exact same_cfg _ F1 F2 _ _ (hx.nw f) (hy.nw f) hz
  obtain ⟨d3, e3⟩ : ∃ d, (decide (x.cfg.x = y.cfg.x)) = d := ⟨_, rfl⟩
  simp only [e3] at z3 ⊢
  have hS : ∀ w1, Nw W1 w1 → w1.cell? ⟨w.heap.size, 0, none⟩ = some (I64 x.index) ∧ w1.cell? ⟨w.heap.size, 1, none⟩ = some (I64 x.term) ∧ w1.cell? ⟨w.heap.size, 2, none⟩ = some (.slice x.cfg.v.a x.cfg.v.l.length x.cfg.v.c) ∧ w1.cell? ⟨w.heap.size, 3, none⟩ = some (.slice x.cfg.o.a x.cfg.o.l.length x.cfg.o.c) ∧ w1.cell? ⟨w.heap.size, 4, none⟩ = some (.slice x.cfg.l.a x.cfg.l.l.length x.cfg.l.c) ∧ w1.cell? ⟨w.heap.size, 5, none⟩ = some (.slice x.cfg.w.a x.cfg.w.l.length x.cfg.w.c) ∧ w1.cell? ⟨(w.heap.size + 1), 0, none⟩ = some (I64 y.index) ∧ w1.cell? ⟨(w.heap.size + 1), 1, none⟩ = some (I64 y.term) ∧ w1.cell? ⟨(w.heap.size + 1), 2, none⟩ = some (.slice y.cfg.v.a y.cfg.v.l.length y.cfg.v.c) ∧ w1.cell? ⟨(w.heap.size + 1), 3, none⟩ = some (.slice y.cfg.o.a y.cfg.o.l.length y.cfg.o.c) ∧ w1.cell? ⟨(w.heap.size + 1), 4, none⟩ = some (.slice y.cfg.l.a y.cfg.l.l.length y.cfg.l.c) ∧ w1.cell? ⟨(w.heap.size + 1), 5, none⟩ = some (.slice y.cfg.w.a y.cfg.w.l.length y.cfg.w.c) := fun w1 f => by
    have a0 := b0.fr f (fun h => h)
    have a1 := b1.fr f (fun h => h)
    exact ⟨by simpa using a0.cell 0, by simpa using a0.cell 1, by simpa using a0.cell 2, by simpa using a0.cell 3, by simpa using a0.cell 4, by simpa using a0.cell 5, by simpa using a1.cell 0, by simpa using a1.cell 1, by simpa using a1.cell 2, by simpa using a1.cell 3, by simpa using a1.cell 4, by simpa using a1.cell 5⟩
  have HW0 := Lib.hid hW0
  have HW1 := Lib.hid hW1
  clear hW0 b0 hW1 b1 e1 e2 e3
  cases d1 with
  | false =>
    go_enter Try.func69, Try.ntmps69
    go_upto_region 1 with (fail)
    rw [← HW0.out, ← HW1.out]
    obtain ⟨k0_0_0, k0_0_1, k0_0_2, k0_0_3, k0_0_4, k0_0_5, k0_1_0, k0_1_1, k0_1_2, k0_1_3, k0_1_4, k0_1_5⟩ := hS W1 (Fr.refl _ _)
    go_wp2_with fail
    go_ret
    exact ⟨rfl, Q0.tr (Fr.refl (fun _ => False) W1)⟩
  | true =>
  cases d2 with
  | false =>
    go_enter Try.func69, Try.ntmps69
    go_upto_region 1 with (fail)
    rw [← HW0.out, ← HW1.out]
    obtain ⟨k0_0_0, k0_0_1, k0_0_2, k0_0_3, k0_0_4, k0_0_5, k0_1_0, k0_1_1, k0_1_2, k0_1_3, k0_1_4, k0_1_5⟩ := hS W1 (Fr.refl _ _)
    go_wp2_with fail
    go_ret
    exact ⟨rfl, Q0.tr (Fr.refl (fun _ => False) W1)⟩
  | true =>
  cases d3 with
  | false =>
    go_enter Try.func69, Try.ntmps69
    go_upto_region 1 with (fail)
    rw [← HW0.out, ← HW1.out]
    obtain ⟨k0_0_0, k0_0_1, k0_0_2, k0_0_3, k0_0_4, k0_0_5, k0_1_0, k0_1_1, k0_1_2, k0_1_3, k0_1_4, k0_1_5⟩ := hS W1 (Fr.refl _ _)
    go_wp2_with fail
    refine (z3 ⟨_, (Fr.refl (fun _ => False) W1)⟩).mono ?_
    rintro e v1 ⟨rfl, r1⟩
    have Q1 : Nw W1 v1 := (Fr.refl (fun _ => False) W1).tr r1
    obtain ⟨k1_0_0, k1_0_1, k1_0_2, k1_0_3, k1_0_4, k1_0_5, k1_1_0, k1_1_1, k1_1_2, k1_1_3, k1_1_4, k1_1_5⟩ := hS v1 Q1
    go_wp2_with fail
    go_ret
    exact ⟨rfl, Q0.tr Q1⟩
  | true =>
  go_enter Try.func69, Try.ntmps69
  go_upto_region 1 with (fail)
  rw [← HW0.out, ← HW1.out]
  obtain ⟨k0_0_0, k0_0_1, k0_0_2, k0_0_3, k0_0_4, k0_0_5, k0_1_0, k0_1_1, k0_1_2, k0_1_3, k0_1_4, k0_1_5⟩ := hS W1 (Fr.refl _ _)
  go_wp2_with fail
  refine (z3 ⟨_, (Fr.refl (fun _ => False) W1)⟩).mono ?_
  rintro e v1 ⟨rfl, r1⟩
  have Q1 : Nw W1 v1 := (Fr.refl (fun _ => False) W1).tr r1
  obtain ⟨k1_0_0, k1_0_1, k1_0_2, k1_0_3, k1_0_4, k1_0_5, k1_1_0, k1_1_1, k1_1_2, k1_1_3, k1_1_4, k1_1_5⟩ := hS v1 Q1
  go_wp2_with fail
  go_ret
  exact ⟨rfl, Q0.tr Q1⟩
end Go.Proofs.Ytippdjaakcgeoaa

namespace Go.Proofs.Ytippdjaakcgeoaa
open Go Go.RowKit
set_option linter.unusedVariables false
set_option linter.unusedSimpArgs false
def same_entsR (w : World) (xs ys : List EntM) (i : Value) (wr : World) : Prop := ∃ k : Nat, i = .int .i64 k ∧ k ≤ xs.length ∧ (xs.take k).map EntM.x = (ys.take k).map EntM.x ∧ Nw w wr
set_option maxRecDepth 100000 in
set_option maxHeartbeats 4000000 in
theorem same_ents (w : World) (F1 F2 : Nat → Prop) (A1 A2 : Option Addr) (c1 c2 : Nat) (xs ys : List EntM) (h1 : Sl w F1 A1 (entsC xs)) (h2 : Sl w F2 A2 (entsC ys)) (e1 : ∀ e ∈ xs, EntIn w F1 e) (e2 : ∀ e ∈ ys, EntIn w F2 e) (hz : ∀ e ∈ xs, EntSz e) (hm1 : xs.length ≤ 1000000000000) :
    Calls Try.prog 68 #[.slice A1 xs.length c1, .slice A2 ys.length c2] w fun e w' => e = .returned (.bool (decide (xs.map EntM.x = ys.map EntM.x))) ∧ Nw w w' := by
  by_cases hl : xs.length = ys.length
  · have hlen : ((xs.length : Int) != (ys.length : Int)) = false := by simp [hl]
    have HL := Lib.hid hl
    have HZ := Lib.hid hz
    have E1 := Lib.hid e1
    have E2 := Lib.hid e2
    clear hl hz e1 e2
    go_enter Try.func68, Try.ntmps68
    go_wp2_with fail
    go_loopw [5] (fun i wr => same_entsR w xs ys i wr) (fun i _ => xs.length - (intOf i).toNat)
    case atStart => exact ⟨0, rfl, Nat.zero_le _, rfl, Fr.refl _ _⟩
    case round =>
      obtain ⟨k, rfl, hk, ht, hq⟩ := hrel
      have HT := Lib.hid ht
      clear ht
      by_cases hlt : k < xs.length
      · have hlt2 : k < ys.length := by have := HL.out; omega
        obtain ⟨b1, o1, rfl, _, _, hc1⟩ := (h1.fr hq (fun _ _ h => h)).ent hlt
        obtain ⟨b2, o2, rfl, _, _, hc2⟩ := (h2.fr hq (fun _ _ h => h)).ent hlt2
        have hi1 : (k : Int) < (xs.length : Int) := by omega
        have hi2 : (k : Int) < (ys.length : Int) := by omega
        have x1 := (E1.out _ (List.getElem_mem hlt)).nw hq
        have x2 := (E2.out _ (List.getElem_mem hlt2)).nw hq
        have z1 := HZ.out _ (List.getElem_mem hlt)
        obtain ⟨x, hx⟩ : ∃ x, xs[k] = x := ⟨_, rfl⟩
        obtain ⟨y, hy⟩ : ∃ y, ys[k] = y := ⟨_, rfl⟩
        rw [hx] at x1 z1 hc1
        rw [hy] at x2 hc2
        have hsm : ∀ m : Later wr, Calls Try.prog 93 #[.agg #[I64 x.term, U8V x.kind, .slice x.cmd.a x.cmd.l.length x.cmd.c, .slice x.cfg.v.a x.cfg.v.l.length x.cfg.v.c, .slice x.cfg.o.a x.cfg.o.l.length x.cfg.o.c, .slice x.cfg.l.a x.cfg.l.l.length x.cfg.l.c, .slice x.cfg.w.a x.cfg.w.l.length x.cfg.w.c], .agg #[I64 y.term, U8V y.kind, .slice y.cmd.a y.cmd.l.length y.cmd.c, .slice y.cfg.v.a y.cfg.v.l.length y.cfg.v.c, .slice y.cfg.o.a y.cfg.o.l.length y.cfg.o.c, .slice y.cfg.l.a y.cfg.l.l.length y.cfg.l.c, .slice y.cfg.w.a y.cfg.w.l.length y.cfg.w.c]] m.at_ fun e w' => e = .returned (.bool (decide (x.x = y.x))) ∧ Nw m.at_ w' := fun m => same_ent _ F1 F2 x y (x1.nw m.nw) (x2.nw m.nw) z1
        obtain ⟨d, hd⟩ : ∃ d, decide (x.x = y.x) = d := ⟨_, rfl⟩
        simp only [hd] at hsm
        have HD := Lib.hid hd
        have HX := Lib.hid hx
        have HY := Lib.hid hy
        have HSM := Lib.hid hsm
        have hC1 := Later.cells hc1
        have hC2 := Later.cells hc2
        have L1 := Lib.hid hC1
        have L2 := Lib.hid hC2
        clear hc1 hc2 hC1 hC2 hd hx hy hsm x1 x2 z1
        go_wp2_with fail
        refine wp_region_later (by kernel_rfl) (by kernel_rfl) ?_
        repeat (first | (refine quiet_load_cells (by rfl) 60 _ rfl b1 (o1 + k * 7) rfl _ _ L1.out Try.underlying60 rfl (by kernel_rfl) ?_; simp only [Act.put, List.setIfInBounds_toArray, List.set_cons_succ, List.set_cons_zero]) | (refine quiet_load_cells (by rfl) 60 _ rfl b2 (o2 + k * 7) rfl _ _ L2.out Try.underlying60 rfl (by kernel_rfl) ?_; simp only [Act.put, List.setIfInBounds_toArray, List.set_cons_succ, List.set_cons_zero]) | go_big_quiet_step ((go_at_call 93; exact Later.call (HSM.out _))))
        refine wpQuiet_later fun w5 q5 => ?_
        cases d with
        | false =>
          go_wp2_with fail
          go_ret
          refine ⟨ret_eq (congrArg Value.bool (decide_eq_false fun h => ?_).symm), hq.tr q5⟩
          have h3 := congrArg (fun l => l[k]?) h
          simp only [List.getElem?_map, List.getElem?_eq_getElem hlt, List.getElem?_eq_getElem hlt2, Option.map_some] at h3
          injection h3 with h3
          rw [HX.out, HY.out] at h3
          exact of_decide_eq_false HD.out h3
        | true =>
          go_wp2_with fail
          go_roundw
          case rel =>
            refine ⟨k + 1, by go_num, by omega, ?_, hq.tr q5⟩
            rw [List.take_succ_eq_append_getElem hlt, List.take_succ_eq_append_getElem hlt2, List.map_append, List.map_append, HT.out, HX.out, HY.out]
            congr 1
            rw [List.map_singleton, List.map_singleton, of_decide_eq_true HD.out]
          case measure => simp [intOf]; omega
      · go_wp2_with fail
        go_ret
        have hx : xs.map EntM.x = ys.map EntM.x := by
          have := HT.out
          rwa [List.take_of_length_le (by omega), List.take_of_length_le (by have := HL.out; omega)] at this
        exact ⟨ret_eq (congrArg Value.bool (decide_eq_true hx).symm), hq⟩
  · have hlen : ((xs.length : Int) != (ys.length : Int)) = true := by simp; omega
    go_enter Try.func68, Try.ntmps68
    go_wp2_with fail
    go_ret
    exact ⟨ret_eq (congrArg Value.bool (decide_eq_false fun h => hl (by have := congrArg List.length h; simpa using this)).symm), Fr.refl _ _⟩
end Go.Proofs.Ytippdjaakcgeoaa
