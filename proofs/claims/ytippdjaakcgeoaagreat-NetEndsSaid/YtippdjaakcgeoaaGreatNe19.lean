/- Lemmas of the walks: LgA, NdA, Pick. (Laid together by shake.py.) -/
import Derived.Test.YtippdjaakcgeoaaGreatProg
import Derived.WalkKit
import Derived.Test.YtippdjaakcgeoaaGreatNe02
import Derived.Test.YtippdjaakcgeoaaGreatNe03
import Derived.Test.YtippdjaakcgeoaaGreatNe04
import Derived.Test.YtippdjaakcgeoaaGreatNe05
set_option linter.unusedVariables false
set_option linter.unusedSimpArgs false
namespace Go.Proofs.YtippdjaakcgeoaaGreat
open Go Go.RowKit
set_option linter.unusedVariables false
set_option linter.unusedSimpArgs false
/-- Lists as long as memory may hold. -/
structure CfgBd (c : CfgM) : Prop where
  v : c.v.l.length ≤ 1125899906842624
  o : c.o.l.length ≤ 1125899906842624
  l : c.l.l.length ≤ 1125899906842624
  w : c.w.l.length ≤ 1125899906842624
structure EntBd (e : EntM) : Prop where
  cmd : e.cmd.l.length ≤ 1125899906842624
  cfg : CfgBd e.cfg
structure LetBd (x : LetM) : Prop where
  ents : x.ents.l.length ≤ 1125899906842624
  each : ∀ e ∈ x.ents.l, EntBd e
  cfg : CfgBd x.base.cfg
  bytes : x.bytes.l.length ≤ 1125899906842624
def cfgN (c : CfgM) : Nat := 1 + c.v.l.length + c.o.l.length + c.l.l.length + c.w.l.length
/-- Few parts: at most t. -/
structure EntS (t : Nat) (e : EntM) : Prop where
  cmd : e.cmd.l.length ≤ 8 * t + 7
  cfg : cfgN e.cfg ≤ t
structure LetS (t : Nat) (x : LetM) : Prop where
  ents : x.ents.l.length ≤ t
  each : ∀ e ∈ x.ents.l, EntS t e
  cfg : cfgN x.base.cfg ≤ t
  bytes : x.bytes.l.length ≤ 8 * t + 7
theorem EntS.mono {t u : Nat} {e : EntM} (h : EntS t e) (hu : t ≤ u) : EntS u e := ⟨by have := h.cmd; omega, Nat.le_trans h.cfg hu⟩
theorem LetS.mono {t u : Nat} {x : LetM} (h : LetS t x) (hu : t ≤ u) : LetS u x := ⟨Nat.le_trans h.ents hu, fun e he => (h.each e he).mono hu, Nat.le_trans h.cfg hu, by have := h.bytes; omega⟩
theorem cfgN_sz {t : Nat} {c : CfgM} (h : cfgN c ≤ t) (ht : t ≤ 100000) : CfgSz c := by unfold cfgN at h; exact ⟨by omega, by omega, by omega, by omega⟩
theorem EntS.sz {t : Nat} {e : EntM} (h : EntS t e) (ht : t ≤ 100000) : EntSz e := ⟨by have := h.cmd; omega, cfgN_sz h.cfg ht⟩
theorem LetS.sz {t : Nat} {x : LetM} (h : LetS t x) (ht : t ≤ 100000) : LetSz x := ⟨by have := h.ents; omega, fun e he => (h.each e he).sz ht, cfgN_sz h.cfg ht, by have := h.bytes; omega⟩
theorem CfgSz.bd {c : CfgM} (h : CfgSz c) : CfgBd c := ⟨by have := h.v; omega, by have := h.o; omega, by have := h.l; omega, by have := h.w; omega⟩
theorem EntSz.bd {e : EntM} (h : EntSz e) : EntBd e := ⟨by have := h.cmd; omega, h.cfg.bd⟩
theorem LetSz.bd {x : LetM} (h : LetSz x) : LetBd x := ⟨by have := h.ents; omega, fun e he => (h.each e he).bd, h.cfg.bd, by have := h.bytes; omega⟩
set_option maxRecDepth 100000 in
set_option maxHeartbeats 4000000 in
theorem cfgof_any (w : World) (x : CfgM) (hz : CfgBd x) : Calls Tryz.prog 104 #[.agg (cfgA x)] w fun e w' => e = .returned (I64 (cfgN x)) ∧ Nw w w' := by
  have h1 := hz.v
  have h2 := hz.o
  have h3 := hz.l
  have h4 := hz.w
  have hw1 : IntKind.i64.wrap (1 + (x.v.l.length : Int)) = 1 + (x.v.l.length : Int) := IntWalk.i64_in _ (by omega)
  have hw2 : IntKind.i64.wrap (1 + (x.v.l.length : Int) + (x.o.l.length : Int)) = 1 + (x.v.l.length : Int) + (x.o.l.length : Int) := IntWalk.i64_in _ (by omega)
  have hw3 : IntKind.i64.wrap (1 + (x.v.l.length : Int) + (x.o.l.length : Int) + (x.l.l.length : Int)) = 1 + (x.v.l.length : Int) + (x.o.l.length : Int) + (x.l.l.length : Int) := IntWalk.i64_in _ (by omega)
  have hw4 : IntKind.i64.wrap (1 + (x.v.l.length : Int) + (x.o.l.length : Int) + (x.l.l.length : Int) + (x.w.l.length : Int)) = 1 + (x.v.l.length : Int) + (x.o.l.length : Int) + (x.l.l.length : Int) + (x.w.l.length : Int) := IntWalk.i64_in _ (by omega)
  obtain ⟨W0, hW0⟩ : ∃ W, W = w.alloc (.cells #[.slice x.v.a x.v.l.length x.v.c, .slice x.o.a x.o.l.length x.o.c, .slice x.l.a x.l.l.length x.l.c, .slice x.w.a x.w.l.length x.w.c] 45) := ⟨_, rfl⟩
  have p0 : Nw w W0 := by rw [hW0]; exact (Fr.refl (fun _ => False) _).alloc _
  have x0 : Blk W0 w.heap.size 45 #[.slice x.v.a x.v.l.length x.v.c, .slice x.o.a x.o.l.length x.o.c, .slice x.l.a x.l.l.length x.l.c, .slice x.w.a x.w.l.length x.w.c] := by rw [hW0]; exact Blk.new _ _ _
  have c0 : W0.cell? ⟨w.heap.size, 0, none⟩ = some (.slice x.v.a x.v.l.length x.v.c) := by simpa using x0.cell 0
  have c1 : W0.cell? ⟨w.heap.size, 1, none⟩ = some (.slice x.o.a x.o.l.length x.o.c) := by simpa using x0.cell 1
  have c2 : W0.cell? ⟨w.heap.size, 2, none⟩ = some (.slice x.l.a x.l.l.length x.l.c) := by simpa using x0.cell 2
  have c3 : W0.cell? ⟨w.heap.size, 3, none⟩ = some (.slice x.w.a x.w.l.length x.w.c) := by simpa using x0.cell 3
  have HW0 := Lib.hid hW0
  clear hW0 x0 h1 h2 h3 h4
  go_enter Tryz.func104, Tryz.ntmps104
  go_upto_region 1 with (fail)
  rw [← HW0.out]
  go_wp2_with fail
  go_ret
  refine ⟨?_, p0⟩
  have e : ((cfgN x : Nat) : Int) = 1 + (x.v.l.length : Int) + (x.o.l.length : Int) + (x.l.l.length : Int) + (x.w.l.length : Int) := by unfold cfgN; omega
  rw [I64, e]
  rfl
def entF1 (most : Nat) (t : Nat) (e : EntM) : Nat := if t ≤ most then t + 1 + e.cmd.l.length / 8 + cfgN e.cfg else t
def entsT (most : Nat) (l : List EntM) : Nat := l.foldl (entF1 most) 0
theorem entsT_stop (most : Nat) (l : List EntM) (t : Nat) (h : ¬ t ≤ most) : l.foldl (entF1 most) t = t := by
  induction l with
  | nil => rfl
  | cons e l ih => rw [List.foldl_cons]; unfold entF1; rw [if_neg h]; exact ih
theorem entsT_facts (most : Nat) (l : List EntM) (hz : ∀ e ∈ l, EntBd e) (hm : most ≤ 100000) : entsT most l ≤ most + 7881299347898368 ∧ (entsT most l ≤ most → l.length ≤ entsT most l ∧ ∀ e ∈ l, EntS (entsT most l) e) := by
  have key : ∀ (k : Nat), k ≤ l.length → entsT most (l.take k) ≤ most + 7881299347898368 ∧ (entsT most (l.take k) ≤ most → k ≤ entsT most (l.take k) ∧ ∀ j (h : j < l.length), j < k → EntS (entsT most (l.take k)) l[j]) := by
    intro k
    induction k with
    | zero => intro _; exact ⟨Nat.zero_le _, fun _ => ⟨Nat.zero_le _, fun j _ hj => absurd hj (Nat.not_lt_zero _)⟩⟩
    | succ k ih =>
      intro hk
      obtain ⟨h1, h2⟩ := ih (by omega)
      have hlt : k < l.length := hk
      have e1 : entsT most (l.take (k + 1)) = entF1 most (entsT most (l.take k)) l[k] := foldl_take_succ _ l k hlt _
      have hb := hz _ (List.getElem_mem hlt)
      have b1 := hb.cmd
      have b2 : cfgN (l[k]).cfg ≤ 5629499534213121 := by
        have := hb.cfg.v
        have := hb.cfg.o
        have := hb.cfg.l
        have := hb.cfg.w
        unfold cfgN
        omega
      rw [e1]
      by_cases hle : entsT most (l.take k) ≤ most
      · obtain ⟨h3, h4⟩ := h2 hle
        unfold entF1
        rw [if_pos hle]
        refine ⟨by omega, fun _ => ⟨by omega, fun j hj hjk => ?_⟩⟩
        by_cases hjk2 : j < k
        · exact (h4 j hj hjk2).mono (by omega)
        · obtain rfl : j = k := by omega
          exact ⟨by omega, by omega⟩
      · unfold entF1
        rw [if_neg hle]
        exact ⟨h1, fun h => absurd h hle⟩
  have h := key l.length (Nat.le_refl _)
  rw [List.take_of_length_le (Nat.le_refl _)] at h
  exact ⟨h.1, fun hh => ⟨(h.2 hh).1, fun e he => by
    obtain ⟨j, hj, rfl⟩ := List.mem_iff_getElem.1 he
    exact (h.2 hh).2 j hj hj⟩⟩
def EoRel (w : World) (most : Nat) (l : List EntM) (n i : Value) (wr : World) : Prop :=
  ∃ k t : Nat, k ≤ l.length ∧ t = entsT most (l.take k) ∧ i = .int .i64 k ∧ n = .int .i64 t ∧ (t ≤ most → k ≤ t) ∧ t ≤ most + 7881299347898368 ∧ (t ≤ most → ∀ j (h : j < l.length), j < k → EntS t l[j]) ∧ Nw w wr
set_option maxRecDepth 100000 in
set_option maxHeartbeats 8000000 in
theorem entsof_any (w : World) (F : Nat → Prop) (A : Option Addr) (c : Nat) (l : List EntM) (most : Nat) (h : Sl w F A (entsC l)) (hz : ∀ e ∈ l, EntBd e) (hl : l.length ≤ 1125899906842624) (hm : most ≤ 100000) :
    Calls Tryz.prog 105 #[.slice A l.length c, I64 most] w fun e w' => e = .returned (I64 (entsT most l)) ∧ (entsT most l ≤ most + 7881299347898368 ∧ (entsT most l ≤ most → l.length ≤ entsT most l ∧ ∀ e ∈ l, EntS (entsT most l) e)) ∧ Nw w w' := by
  have HZ := Lib.hid hz
  clear hz
  go_enter Tryz.func105, Tryz.ntmps105
  go_wp2_with fail
  go_loopw [5, 6] (fun n i wr => EoRel w most l n i wr) (fun _ i _ => l.length - (intOf i).toNat)
  case atStart => exact ⟨0, 0, Nat.zero_le _, rfl, rfl, rfl, fun _ => Nat.le_refl _, Nat.zero_le _, fun _ j _ hj => absurd hj (Nat.not_lt_zero _), Fr.refl _ _⟩
  case round =>
    obtain ⟨k, t, hk, htt, rfl, rfl, hkt, htm, hall, hq⟩ := hrel
    have HTT := Lib.hid htt
    clear htt
    have HALL := Lib.hid hall
    clear hall
    by_cases hlt : k < l.length
    · have hi0 : (k : Int) < (l.length : Int) := by omega
      have hi1 : decide ((k : Int) < (l.length : Int)) = true := decide_eq_true hi0
      have hi2 : decide (k < l.length) = true := decide_eq_true hlt
      by_cases hle : t ≤ most
      · have hm1 : decide ((t : Int) ≤ (most : Int)) = true := decide_eq_true (by omega)
        have hm2 : decide (t ≤ most) = true := decide_eq_true hle
        obtain ⟨b, of, rfl, _, _, hc⟩ := (h.fr hq (fun _ _ h => h)).ent hlt
        have hbd := HZ.out _ (List.getElem_mem hlt)
        obtain ⟨e, hee⟩ : ∃ e, l[k] = e := ⟨_, rfl⟩
        rw [hee] at hc hbd
        have b1 := hbd.cmd
        have b2 : cfgN e.cfg ≤ 5629499534213121 := by
          have := hbd.cfg.v
          have := hbd.cfg.o
          have := hbd.cfg.l
          have := hbd.cfg.w
          unfold cfgN
          omega
        have hcf : ∀ m : Later wr, Calls Tryz.prog 104 #[.agg #[.slice e.cfg.v.a e.cfg.v.l.length e.cfg.v.c, .slice e.cfg.o.a e.cfg.o.l.length e.cfg.o.c, .slice e.cfg.l.a e.cfg.l.l.length e.cfg.l.c, .slice e.cfg.w.a e.cfg.w.l.length e.cfg.w.c]] m.at_ fun e9 w' => e9 = .returned (I64 (cfgN e.cfg)) ∧ Nw m.at_ w' := fun m => cfgof_any m.at_ e.cfg hbd.cfg
        obtain ⟨q, hqq⟩ : ∃ q : Nat, q = cfgN e.cfg := ⟨_, rfl⟩
        rw [← hqq] at hcf b2
        obtain ⟨cl, hcl⟩ : ∃ cl : Nat, cl = e.cmd.l.length := ⟨_, rfl⟩
        have hdiv : (cl : Int).tdiv 8 = ((cl / 8 : Nat) : Int) := by rw [Int.tdiv_eq_ediv_of_nonneg (by omega)]; rfl
        have k2 : ∀ n : Later wr, n.at_.cell? ⟨b, of + k * 7 + 2, none⟩ = some (.slice e.cmd.a cl e.cmd.c) := fun n => by rw [hcl]; exact Later.cells hc n.at_ ⟨n, rfl⟩ 2 _ rfl
        have k3 : ∀ w', (∃ n : Later wr, w' = n.at_) → ∀ p u, ([.slice e.cfg.v.a e.cfg.v.l.length e.cfg.v.c, .slice e.cfg.o.a e.cfg.o.l.length e.cfg.o.c, .slice e.cfg.l.a e.cfg.l.l.length e.cfg.l.c, .slice e.cfg.w.a e.cfg.w.l.length e.cfg.w.c] : List Value)[p]? = some u → w'.cell? ⟨b, of + k * 7 + 3 + p, none⟩ = some u := fun w' hw p u hu => by
          have hp : p < 4 := by
            rcases Nat.lt_or_ge p 4 with h | h
            · exact h
            · rw [List.getElem?_eq_none (by simpa using h)] at hu; cases hu
          have := Later.cells hc w' hw (3 + p) u (by
            match p, hp with
            | 0, _ => exact hu
            | 1, _ => exact hu
            | 2, _ => exact hu
            | 3, _ => exact hu)
          rw [← Nat.add_assoc] at this
          exact this
        rw [← hcl] at b1
        have hs1 : IntKind.i64.wrap ((t : Int) + 1) = (t : Int) + 1 := IntWalk.i64_in _ (by omega)
        have hs2 : IntKind.i64.wrap ((t : Int) + 1 + ((cl / 8 : Nat) : Int)) = (t : Int) + 1 + ((cl / 8 : Nat) : Int) := IntWalk.i64_in _ (by omega)
        have hs3 : IntKind.i64.wrap ((t : Int) + 1 + ((cl / 8 : Nat) : Int) + (q : Int)) = (t : Int) + 1 + ((cl / 8 : Nat) : Int) + (q : Int) := IntWalk.i64_in _ (by omega)
        have HE := Lib.hid (And.intro hee (And.intro hqq hcl))
        have K3 := Lib.hid k3
        have HCF := Lib.hid hcf
        clear hee hqq hcl k3 hcf hbd hc
        go_upto_region 5 with (fail)
        refine wp_region_later (by kernel_rfl) (by kernel_rfl) ?_
        iterate 14 (go_big_quiet_step (fail))
        refine quiet_load_cells (by kernel_rfl) 45 _ rfl b (of + k * 7 + 3) rfl _ _ K3.out Tryz.underlying45 rfl (by kernel_rfl) ?_
        simp only [Act.put, List.setIfInBounds_toArray, List.set_cons_succ, List.set_cons_zero]
        repeat (go_big_quiet_step ((go_at_call 104; exact Later.call (HCF.out _))))
        refine wpQuiet_later fun w5 q5 => ?_
        go_wp2_with fail
        go_roundw
        case rel =>
          obtain ⟨hee, hqq, hcl⟩ := HE.out
          have hnx : t + 1 + cl / 8 + q = entsT most (l.take (k + 1)) := by
            unfold entsT
            rw [foldl_take_succ _ l k hlt, hee]
            show _ = entF1 most (entsT most (l.take k)) e
            rw [← HTT.out]
            unfold entF1
            rw [if_pos hle, ← hcl, ← hqq]
          refine ⟨k + 1, t + 1 + cl / 8 + q, hlt, hnx, by go_num, by go_num, fun _ => by have := hkt hle; omega, by omega, fun _ j hj hjk => ?_, hq.tr q5⟩
          by_cases hjk2 : j < k
          · exact (HALL.out hle j hj hjk2).mono (by omega)
          · obtain rfl : j = k := by omega
            rw [hee]
            exact ⟨by rw [← hcl]; omega, by rw [← hqq]; omega⟩
        case measure => simp [intOf]; omega
      · have hm1 : decide ((t : Int) ≤ (most : Int)) = false := decide_eq_false (by omega)
        have hm2 : decide (t ≤ most) = false := decide_eq_false hle
        go_wp2_with fail
        go_ret
        have hfin : entsT most l = t := by
          unfold entsT
          conv => lhs; rw [← List.take_append_drop k l, List.foldl_append]
          show (l.drop k).foldl (entF1 most) (entsT most (l.take k)) = t
          rw [← HTT.out]
          exact entsT_stop most _ t hle
        rw [hfin]
        exact ⟨rfl, ⟨htm, fun h => absurd h hle⟩, hq⟩
    · have hi1 : decide ((k : Int) < (l.length : Int)) = false := decide_eq_false (by omega)
      have hi2 : decide (k < l.length) = false := decide_eq_false hlt
      go_wp2_with fail
      go_ret
      have hfin : entsT most l = t := by
        have := HTT.out
        rw [List.take_of_length_le (by omega)] at this
        exact this.symm
      rw [hfin]
      exact ⟨rfl, ⟨htm, fun h => ⟨by have := hkt h; omega, fun e he => by
        obtain ⟨j, hj, rfl⟩ := List.mem_iff_getElem.1 he
        exact HALL.out h j hj (by omega)⟩⟩, hq⟩
def letT (most : Nat) (x : LetM) : Nat := 1 + x.bytes.l.length / 8 + cfgN x.base.cfg + entsT most x.ents.l
set_option maxRecDepth 100000 in
set_option maxHeartbeats 8000000 in
theorem letof_any (w : World) (F : Nat → Prop) (x : LetM) (most : Nat) (hx : LetIn w F x) (hz : LetBd x) (hm : most ≤ 100000) :
    Calls Tryz.prog 48 #[.agg (letA x), I64 most] w fun e w' => e = .returned (I64 (letT most x)) ∧ (letT most x ≤ most + 16888498602639360 ∧ (letT most x ≤ most → LetS (letT most x) x)) ∧ Nw w w' := by
  have hE : ∀ w1, Nw w w1 → _ := fun w1 f => entsof_any w1 F x.ents.a x.ents.c x.ents.l most ((hx.ents.nw f).sl) hz.each hz.ents hm
  have hC : ∀ w1, _ := fun w1 => cfgof_any w1 x.base.cfg hz.cfg
  have hfa : entsT most x.ents.l ≤ most + 7881299347898368 ∧ (entsT most x.ents.l ≤ most → x.ents.l.length ≤ entsT most x.ents.l ∧ ∀ e ∈ x.ents.l, EntS (entsT most x.ents.l) e) := entsT_facts most x.ents.l hz.each hm
  have hcb : cfgN x.base.cfg ≤ 5629499534213121 := by
    have := hz.cfg.v
    have := hz.cfg.o
    have := hz.cfg.l
    have := hz.cfg.w
    unfold cfgN
    omega
  have hbb := hz.bytes
  obtain ⟨ne, hne⟩ : ∃ ne, ne = entsT most x.ents.l := ⟨_, rfl⟩
  obtain ⟨nc, hnc⟩ : ∃ nc, nc = cfgN x.base.cfg := ⟨_, rfl⟩
  obtain ⟨nb, hnb⟩ : ∃ nb, nb = x.bytes.l.length := ⟨_, rfl⟩
  have hT : letT most x = 1 + nb / 8 + nc + ne := by unfold letT; rw [hne, hnc, hnb]
  have hres : letT most x ≤ most + 16888498602639360 ∧ (letT most x ≤ most → LetS (letT most x) x) := by
    rw [hT]
    refine ⟨by omega, fun h => ?_⟩
    obtain ⟨h1, h2⟩ := hfa.2 (by omega)
    exact ⟨by omega, fun e he => (h2 e he).mono (by omega), by omega, by omega⟩
  rw [← hne] at hE
  rw [← hnc] at hC hcb
  rw [← hnb] at hbb
  rw [hT] at hres ⊢
  clear hfa hT hne
  obtain ⟨X, hX⟩ : ∃ X, X = w.heap.size := ⟨_, rfl⟩
  obtain ⟨W0, hW0⟩ : ∃ W, W = w.alloc (.cells #[U8V x.kind, I64 x.group, I64 x.src, I64 x.dst, I64 x.term, I64 x.index, I64 x.logt, I64 x.commit, .bool x.ok, .slice x.ents.a x.ents.l.length x.ents.c, I64 x.base.index, I64 x.base.term, .slice x.base.cfg.v.a x.base.cfg.v.l.length x.base.cfg.v.c, .slice x.base.cfg.o.a x.base.cfg.o.l.length x.base.cfg.o.c, .slice x.base.cfg.l.a x.base.cfg.l.l.length x.base.cfg.l.c, .slice x.base.cfg.w.a x.base.cfg.w.l.length x.base.cfg.w.c, I64 x.size, I64 x.at_, I64 x.tag, .slice x.bytes.a x.bytes.l.length x.bytes.c] 50) := ⟨_, rfl⟩
  have p0 : Nw w W0 := by rw [hW0]; exact (Fr.refl (fun _ => False) _).alloc _
  have x0 : Blk W0 X 50 #[U8V x.kind, I64 x.group, I64 x.src, I64 x.dst, I64 x.term, I64 x.index, I64 x.logt, I64 x.commit, .bool x.ok, .slice x.ents.a x.ents.l.length x.ents.c, I64 x.base.index, I64 x.base.term, .slice x.base.cfg.v.a x.base.cfg.v.l.length x.base.cfg.v.c, .slice x.base.cfg.o.a x.base.cfg.o.l.length x.base.cfg.o.c, .slice x.base.cfg.l.a x.base.cfg.l.l.length x.base.cfg.l.c, .slice x.base.cfg.w.a x.base.cfg.w.l.length x.base.cfg.w.c, I64 x.size, I64 x.at_, I64 x.tag, .slice x.bytes.a x.bytes.l.length x.bytes.c] := by rw [hW0, hX]; exact Blk.new _ _ _
  have k1 : ∀ n : Later W0, n.at_.cell? ⟨X, 19, none⟩ = some (.slice x.bytes.a nb x.bytes.c) := fun n => by rw [hnb]; simpa using (x0.fr n.nw (fun h => h)).cell 19
  have k2 : ∀ n : Later W0, n.at_.cell? ⟨X, 9, none⟩ = some (.slice x.ents.a x.ents.l.length x.ents.c) := fun n => by simpa using (x0.fr n.nw (fun h => h)).cell 9
  have k3 : ∀ w', (∃ n : Later W0, w' = n.at_) → ∀ p u, ([.slice x.base.cfg.v.a x.base.cfg.v.l.length x.base.cfg.v.c, .slice x.base.cfg.o.a x.base.cfg.o.l.length x.base.cfg.o.c, .slice x.base.cfg.l.a x.base.cfg.l.l.length x.base.cfg.l.c, .slice x.base.cfg.w.a x.base.cfg.w.l.length x.base.cfg.w.c] : List Value)[p]? = some u → w'.cell? ⟨X, 12 + p, none⟩ = some u := by
    rintro w' ⟨n, rfl⟩
    exact Blk.cells_in (l := [U8V x.kind, I64 x.group, I64 x.src, I64 x.dst, I64 x.term, I64 x.index, I64 x.logt, I64 x.commit, .bool x.ok, .slice x.ents.a x.ents.l.length x.ents.c, I64 x.base.index, I64 x.base.term, .slice x.base.cfg.v.a x.base.cfg.v.l.length x.base.cfg.v.c, .slice x.base.cfg.o.a x.base.cfg.o.l.length x.base.cfg.o.c, .slice x.base.cfg.l.a x.base.cfg.l.l.length x.base.cfg.l.c, .slice x.base.cfg.w.a x.base.cfg.w.l.length x.base.cfg.w.c, I64 x.size, I64 x.at_, I64 x.tag, .slice x.bytes.a x.bytes.l.length x.bytes.c]) (x0.fr n.nw (fun h => h)) 12 4
  have hdiv : (nb : Int).tdiv 8 = ((nb / 8 : Nat) : Int) := by rw [Int.tdiv_eq_ediv_of_nonneg (by omega)]; rfl
  have hs1 : IntKind.i64.wrap (1 + ((nb / 8 : Nat) : Int)) = 1 + ((nb / 8 : Nat) : Int) := IntWalk.i64_in _ (by omega)
  have hs2 : IntKind.i64.wrap (1 + ((nb / 8 : Nat) : Int) + (nc : Int)) = 1 + ((nb / 8 : Nat) : Int) + (nc : Int) := IntWalk.i64_in _ (by omega)
  have hs3 : IntKind.i64.wrap (1 + ((nb / 8 : Nat) : Int) + (nc : Int) + (ne : Int)) = 1 + ((nb / 8 : Nat) : Int) + (nc : Int) + (ne : Int) := IntWalk.i64_in _ (by omega)
  have hE2 : ∀ m : Later W0, Calls Tryz.prog 105 #[.slice x.ents.a x.ents.l.length x.ents.c, I64 most] m.at_ fun e9 w' => e9 = .returned (I64 ne) ∧ Nw m.at_ w' := fun m => (hE m.at_ (p0.tr m.nw)).mono fun e w' h => ⟨h.1, h.2.2⟩
  have hC2 : ∀ m : Later W0, Calls Tryz.prog 104 #[.agg #[.slice x.base.cfg.v.a x.base.cfg.v.l.length x.base.cfg.v.c, .slice x.base.cfg.o.a x.base.cfg.o.l.length x.base.cfg.o.c, .slice x.base.cfg.l.a x.base.cfg.l.l.length x.base.cfg.l.c, .slice x.base.cfg.w.a x.base.cfg.w.l.length x.base.cfg.w.c]] m.at_ fun e9 w' => e9 = .returned (I64 nc) ∧ Nw m.at_ w' := fun m => hC m.at_
  have HE := Lib.hid hE2
  have HC := Lib.hid hC2
  have K3 := Lib.hid k3
  have HW0 := Lib.hid hW0
  have HX := Lib.hid hX
  clear hE hC hE2 hC2 k3 hW0 hX x0 hnc hnb
  go_enter Tryz.func48, Tryz.ntmps48
  go_upto_region 1 with (fail)
  rw [← HX.out, ← HW0.out]
  refine wp_region_later (by kernel_rfl) (by kernel_rfl) ?_
  iterate 7 (go_big_quiet_step (fail))
  refine quiet_load_cells (by kernel_rfl) 45 _ rfl X 12 rfl _ _ K3.out Tryz.underlying45 rfl (by kernel_rfl) ?_
  simp only [Act.put, List.setIfInBounds_toArray, List.set_cons_succ, List.set_cons_zero]
  repeat (go_big_quiet_step ((first | (go_at_call 105; exact Later.call (HE.out _)) | (go_at_call 104; exact Later.call (HC.out _)))))
  refine wpQuiet_later fun w5 q5 => ?_
  go_wp2_with fail
  go_ret
  have e : ((1 + nb / 8 + nc + ne : Nat) : Int) = 1 + ((nb / 8 : Nat) : Int) + (nc : Int) + (ne : Int) := by omega
  rw [I64, e]
  exact ⟨rfl, hres, p0.tr q5⟩
end Go.Proofs.YtippdjaakcgeoaaGreat

namespace Go.Proofs.YtippdjaakcgeoaaGreat
open Go Go.RowKit
set_option linter.unusedVariables false

structure DeedN where
  kind : Int
  src : Int
  dst : Int
  l : Ls LetM
abbrev deedNL (d : DeedN) : List Value := [I64 d.kind, I64 d.src, I64 d.dst, d.l.v]
abbrev deedNA (d : DeedN) : Array Value := #[I64 d.kind, I64 d.src, I64 d.dst, d.l.v]
def deedNF (d : DeedN) : List Value := deedNL d
def deedsN (l : List DeedN) : List Value := (l.map deedNF).flatten
structure DeedNIn (w : World) (F : Nat → Prop) (d : DeedN) : Prop where
  kind : -9223372036854775808 ≤ d.kind ∧ d.kind ≤ 9223372036854775807
  way : NmWf (d.src, d.dst)
  lets : LetsIn w F d.l
  bd : ∀ x ∈ d.l.l, LetBd x
  len : d.l.l.length ≤ 1125899906842624
section
variable {w w' : World} {F F' S : Nat → Prop} {d : DeedN}
theorem DeedNIn.fr (h : DeedNIn w F d) (hf : Fr S w w') (hn : ∀ k, F k → ¬ S k) : DeedNIn w' F d := ⟨h.kind, h.way, h.lets.fr hf hn, h.bd, h.len⟩
theorem DeedNIn.nw (h : DeedNIn w F d) (hf : Nw w w') : DeedNIn w' F d := h.fr hf (fun _ _ h => h)
theorem Sl.deedN {A : Option Addr} {l : List DeedN} (h : Sl w F A (deedsN l)) {k : Nat} (hk : k < l.length) :
    ∃ b o, A = some ⟨b, o, none⟩ ∧ F b ∧ b < w.heap.size ∧ ∀ j u, (deedNL l[k])[j]? = some u → w.cell? ⟨b, o + k * 4 + j, none⟩ = some u := Sl.struct (f := deedNF) (by omega) (fun _ _ => rfl) h hk
end
end Go.Proofs.YtippdjaakcgeoaaGreat

namespace Go.Proofs.YtippdjaakcgeoaaGreat
open Go Go.RowKit

theorem pick_any (w : World) (x n : Int) (hn : 0 < n) (hn2 : n ≤ 1000000000000) (hx : -9223372036854775808 ≤ x ∧ x ≤ 9223372036854775807) :
    Calls Tryz.prog 11 #[.int .i64 x, .int .i64 n] w fun e w' => (∃ k : Nat, (k : Int) < n ∧ e = .returned (.int .i64 (k : Int))) ∧ w = w' := by
  obtain ⟨h1, h2⟩ := hx
  go_enter Tryz.func11, Tryz.ntmps11
  go_wp2_with fail
  · go_ret
    have h3 := Int.lt_tmod_of_pos x hn
    have e : wrap64 (x.tmod n + n) = x.tmod n + n := IntWalk.wrap64_in _ (by omega)
    rw [e]
    exact ⟨⟨(x.tmod n + n).toNat, by omega, by go_num⟩, rfl⟩
  · go_ret
    have h3 := Int.tmod_lt_of_pos x hn
    exact ⟨⟨(x.tmod n).toNat, by omega, by go_num⟩, rfl⟩
end Go.Proofs.YtippdjaakcgeoaaGreat
