/- Letters read, by the program: configs. (Printed by gengc.py.) -/
import Derived.Test.YtippdjaakcgeoaaClF
import Derived.Test.YtippdjaakcgeoaaRdD
import Derived.Test.YtippdjaakcgeoaaRgM
namespace Go.Proofs.Ytippdjaakcgeoaa
open Go Go.RowKit
set_option linter.unusedVariables false
set_option linter.unusedSimpArgs false
theorem rdNum_most (m : Int) (s : Rd) (hm : 0 ≤ m) : 0 ≤ (rdNum m s).1 ∧ (rdNum m s).1 ≤ m := by
  rcases rdNum_cases m s with h | ⟨bs, n, r, _, h, _, h2, _⟩
  · rw [h]; exact ⟨Int.le_refl _, hm⟩
  · rw [h]; exact ⟨by simp, h2⟩
/-- Rows of nodes, one behind the other. -/
def rdN4 : Nat → Rd → List (List Int) × Rd
  | 0, s => ([], s)
  | k + 1, s => ((rdN4 k s).1 ++ [(rdNodes (rdN4 k s).2).1], (rdNodes (rdN4 k s).2).2)
theorem rdN4_cfg (s : Rd) : rdN4 4 s = ([(rdCfg s).1.v, (rdCfg s).1.o, (rdCfg s).1.l, (rdCfg s).1.w], (rdCfg s).2) := rfl
/-- Four cells that hold the rows that are there, none behind. -/
structure Rows4 (cs : Array Value) (rows : List (Ls Int)) : Prop where
  size : cs.size = 4
  at_ : ∀ i (h : i < rows.length), cs[i]? = some rows[i].v
  none_ : ∀ i, rows.length ≤ i → i < 4 → cs[i]? = some (.slice none 0 0)
theorem Rows4.more {cs : Array Value} {rows : List (Ls Int)} (h : Rows4 cs rows) (hl : rows.length < 4) : Rows4 cs (rows ++ [lsZ]) := by
  refine ⟨h.size, fun i hi => ?_, fun i h1 h2 => h.none_ i (by simp at h1; omega) h2⟩
  by_cases hlt : i < rows.length
  · rw [List.getElem_append_left hlt]; exact h.at_ i hlt
  · have e : i = rows.length := by simp at hi; omega
    subst e
    rw [h.none_ _ (Nat.le_refl _) hl, List.getElem_append_right (Nat.le_refl _)]
    simp [Ls.v, lsZ]
theorem Rows4.last {cs : Array Value} {rows : List (Ls Int)} {r : Ls Int} (h : Rows4 cs (rows ++ [r])) : cs[rows.length]? = some r.v := by
  have := h.at_ rows.length (by simp)
  rw [this, List.getElem_append_right (Nat.le_refl _)]
  simp
theorem Rows4.set_ {cs : Array Value} {rows : List (Ls Int)} {r : Ls Int} (h : Rows4 cs (rows ++ [r])) (r2 : Ls Int) : Rows4 (cs.setIfInBounds rows.length r2.v) (rows ++ [r2]) := by
  have hl : rows.length < cs.size := by
    rcases Nat.lt_or_ge rows.length cs.size with h1 | h1
    · exact h1
    · have := h.last; rw [Array.getElem?_eq_none h1] at this; cases this
  refine ⟨by simpa using h.size, fun i hi => ?_, fun i h1 h2 => ?_⟩
  · by_cases hlt : i < rows.length
    · rw [List.getElem_append_left hlt, Array.getElem?_setIfInBounds_ne (by omega)]
      have := h.at_ i (by simp; omega)
      rw [List.getElem_append_left hlt] at this
      exact this
    · have e : i = rows.length := by simp at hi; omega
      subst e
      rw [Array.getElem?_setIfInBounds_self_of_lt hl, List.getElem_append_right (Nat.le_refl _)]
      simp
  · simp at h1
    rw [Array.getElem?_setIfInBounds_ne (by omega)]
    exact h.none_ i (by simp; omega) h2
def RowBefore (a b : Ls Int) : Prop := ∀ x y, inA a.a x → inA b.a y → x < y
/-- What stands: the reader, the four cells, the variable that is told, the rows that were read, the row at work. -/
structure RcSt (w W1 wo : World) (F : Nat → Prop) (g R L : Nat) (rows : List (Ls Int)) (sd : Rd) (cs : Array Value) (cur : Ls Int) (wz : World) : Prop where
  rd : IsRd wz F g sd
  b : Blk wz L 149 cs
  r : Blk wz R 35 #[.slice none 0 0, .slice none 0 0, .slice none 0 0, .slice none 0 0]
  own : ∀ r ∈ rows, LsOwn W1 wz 3 1 intsC r
  cur : LsOwn wo wz 3 1 intsC cur
  fr : Fr (· = g) w wz
  sz : wo.heap.size ≤ wz.heap.size
structure RcH (w W1 wo : World) (F : Nat → Prop) (g R L : Nat) : Prop where
  hg : g < w.heap.size
  hF : ∀ k, F k → k < w.heap.size
  wW : w.heap.size ≤ W1.heap.size
  Ww : W1.heap.size ≤ wo.heap.size
  hR : w.heap.size ≤ R ∧ R < W1.heap.size
  hL : w.heap.size ≤ L ∧ L < W1.heap.size
  RL : R ≠ L
section
variable {w W1 wo wz w' : World} {F : Nat → Prop} {g R L : Nat} {rows : List (Ls Int)} {sd s' : Rd} {cs : Array Value} {cur : Ls Int}
theorem RcSt.call (H : RcH w W1 wo F g R L) (h : RcSt w W1 wo F g R L rows sd cs cur wz) (q : RdTo wz F g s' w') : RcSt w W1 wo F g R L rows s' cs cur w' := by
  have h1 := H.hg
  have h2 := H.hR
  have h3 := H.hL
  have h4 := H.wW
  have h5 := H.Ww
  exact ⟨q.1, h.b.fr q.2 (by omega), h.r.fr q.2 (by omega), fun r hr => (h.own r hr).fr q.2 (fun k hk e => by have := (h.own r hr).base k hk; omega), h.cur.fr q.2 (fun k hk e => by have := h.cur.base k hk; omega), h.fr.tr q.2, Nat.le_trans h.sz q.2.size⟩
theorem RcSt.nw (h : RcSt w W1 wo F g R L rows sd cs cur wz) (q : Nw wz w') : RcSt w W1 wo F g R L rows sd cs cur w' :=
  ⟨h.rd.fr q (fun h => h) (fun _ _ h => h), h.b.fr q (fun h => h), h.r.fr q (fun h => h), fun r hr => (h.own r hr).nw q, h.cur.nw q, h.fr.tr (Nw.on q), Nat.le_trans h.sz q.size⟩
theorem RcSt.app (H : RcH w W1 wo F g R L) (hrows : ∀ r ∈ rows, ∀ k, inA r.a k → k < wo.heap.size) (h : RcSt w W1 wo F g R L rows sd cs cur wz) {A' : Option Addr} {c' : Nat} {z : Int} (hap : AppTo wz 3 1 cur.a cur.l.length cur.c 1 (intsC cur.l) [I64 z] A' c' w') : RcSt w W1 wo F g R L rows sd cs ⟨A', c', cur.l ++ [z]⟩ w' := by
  have h1 := H.hg
  have h2 := H.hR
  have h3 := H.hL
  have h4 := H.wW
  have h5 := H.Ww
  have f := hap.fr
  have hb := h.cur.base
  refine ⟨h.rd.fr f (fun e => by have := hb _ e; omega) (fun k hk e => by have := hb _ e; have := H.hF k hk; omega), h.b.fr f (fun e => by have := hb _ e; omega), h.r.fr f (fun e => by have := hb _ e; omega), fun r hr => (h.own r hr).fr f (fun k hk e => by have := hb _ e; have := hrows r hr k hk; omega), ⟨?_, fun k hk => ?_⟩, h.fr.trans f (fun k hk => .inr (by have := hb _ hk; omega)), Nat.le_trans h.sz f.size⟩
  · have o := hap.1
    show Own w' 3 1 A' (cur.l ++ [z]).length c' (intsC (cur.l ++ [z]))
    rw [List.length_append, intsC_append]
    exact o
  · rcases hap.inA_ k hk with e | e
    · exact hb k e
    · rw [e]
      exact h.sz
theorem RcSt.store (H : RcH w W1 wo F g R L) (h : RcSt w W1 wo F g R L rows sd cs cur wz) (k : Nat) (u : Value) : RcSt w W1 wo F g R L rows sd (cs.setIfInBounds k u) cur (wz.setCell ⟨L, k, none⟩ u) := by
  have h1 := H.hg
  have h2 := H.hR
  have h3 := H.hL
  have h4 := H.wW
  have h5 := H.Ww
  have h6 := H.RL
  have f : Fr (· = L) wz (wz.setCell ⟨L, k, none⟩ u) := (Fr.refl (· = L) wz).set1 k u
  exact ⟨h.rd.fr f (by omega) (fun k hk e => by have := H.hF k hk; omega), h.b.set_ k u, h.r.fr f h6, fun r hr => (h.own r hr).fr f (fun k hk e => by have := (h.own r hr).base k hk; omega), h.cur.fr f (fun k hk e => by have := h.cur.base k hk; omega), h.fr.trans f (fun k hk => .inr (by omega)), Nat.le_trans h.sz f.size⟩
end
def RcRel (w W1 : World) (F : Nat → Prop) (g R L : Nat) (s0 : Rd) (i : Value) (wr : World) : Prop :=
  ∃ (k : Nat) (rows : List (Ls Int)) (cs : Array Value), k ≤ 4 ∧ i = .int .i64 k ∧ rows.length = k ∧ rows.map (·.l) = (rdN4 k s0).1 ∧ RcSt w W1 W1 F g R L rows (rdN4 k s0).2 cs lsZ wr ∧ Rows4 cs rows ∧ rows.Pairwise RowBefore
def RiRel (w W1 wo : World) (F : Nat → Prop) (g R L : Nat) (s1 : Rd) (rows : List (Ls Int)) (n : Nat) (i : Value) (wx : World) : Prop :=
  ∃ (j : Nat) (cur : Ls Int) (cs : Array Value), j ≤ n ∧ i = .int .i64 j ∧ cur.l = (rdNs 5 j s1).1 ∧ RcSt w W1 wo F g R L rows (rdNs 5 j s1).2 cs cur wx ∧ Rows4 cs (rows ++ [cur])
theorem rdNs_succ (m : Int) (k : Nat) (s : Rd) : rdNs m (k + 1) s = ((rdNs m k s).1 ++ [(rdNum m (rdNs m k s).2).1], (rdNum m (rdNs m k s).2).2) := rfl
set_option maxRecDepth 100000 in
set_option maxHeartbeats 8000000 in
theorem jreadConfig_any (w : World) (F : Nat → Prop) (g : Nat) (s : Rd) (h : IsRd w F g s) :
    Calls Try.prog 99 #[.pointer (some ⟨g, 0, none⟩)] w fun e w' => ∃ y : CfgM, e = .returned (.agg (cfgA y)) ∧ y.x = (rdCfg s).1 ∧ CfgOwn w w' y ∧ RdTo w F g (rdCfg s).2 w' := by
  have hgl := h.lt
  have hFl := h.out.2
  obtain ⟨R, hR⟩ : ∃ X, X = w.heap.size := ⟨_, rfl⟩
  obtain ⟨L, hL⟩ : ∃ Y, Y = w.heap.size + 1 := ⟨_, rfl⟩
  obtain ⟨W0, hW0⟩ : ∃ W, W = w.alloc (.cells #[.slice none 0 0, .slice none 0 0, .slice none 0 0, .slice none 0 0] 35) := ⟨_, rfl⟩
  have p0 : Nw w W0 := by rw [hW0]; exact (Fr.refl (fun _ => False) _).alloc _
  have r0 : Blk W0 R 35 #[.slice none 0 0, .slice none 0 0, .slice none 0 0, .slice none 0 0] := by rw [hW0, hR]; exact Blk.new _ _ _
  have hz0 : W0.heap.size = L := by rw [hW0, hL]; simp
  obtain ⟨W1, hW1⟩ : ∃ W, W = W0.alloc (.cells #[.slice none 0 0, .slice none 0 0, .slice none 0 0, .slice none 0 0] 149) := ⟨_, rfl⟩
  have p1 : Nw W0 W1 := by rw [hW1]; exact (Fr.refl (fun _ => False) _).alloc _
  have l1 : Blk W1 L 149 #[.slice none 0 0, .slice none 0 0, .slice none 0 0, .slice none 0 0] := by rw [hW1, ← hz0]; exact Blk.new _ _ _
  have r1 := r0.fr p1 (fun h => h)
  have Q1 : Nw w W1 := p0.tr p1
  have h1 := h.fr Q1 (fun h => h) (fun _ _ h => h)
  have hRg : R ≠ g := by omega
  have hLg : L ≠ g := by omega
  have hRL : R ≠ L := by omega
  have hwR : w.heap.size ≤ R := by omega
  have hwL : w.heap.size ≤ L := by omega
  have hRl : R < W1.heap.size := r1.lt
  have hLl : L < W1.heap.size := l1.lt
  have hFL : ¬ F L := fun hF => by have := hFl _ hF; omega
  have hFR : ¬ F R := fun hF => by have := hFl _ hF; omega
  have hr0 : Rows4 #[.slice none 0 0, .slice none 0 0, .slice none 0 0, .slice none 0 0] [] := ⟨rfl, fun i h => absurd h (Nat.not_lt_zero _), fun i _ h => by
    match i, h with
    | 0, _ => rfl
    | 1, _ => rfl
    | 2, _ => rfl
    | 3, _ => rfl⟩
  have HR := Lib.hid hR
  have HL := Lib.hid hL
  have HZ0 := Lib.hid hz0
  have HW0 := Lib.hid hW0
  have HW1 := Lib.hid hW1
  clear hR hL hz0 hW0 hW1 r0
  go_enter Try.func99, Try.ntmps99
  go_upto_region 2 with (fail)
  rw [← HL.out, ← HR.out, ← HW0.out, ← HW1.out]
  go_wp2_with fail
  go_loopw [4, 5] (fun _ i wr => RcRel w W1 F g R L s i wr) (fun _ i _ => 4 - (intOf i).toNat)
  case atStart => exact ⟨0, [], _, by omega, rfl, rfl, rfl, ⟨h1, l1, r1, (by intro r hr; cases hr), ⟨Own.nil _ _ _, fun k hk => (inA_none k hk).elim⟩, Nw.on Q1, Nat.le_refl _⟩, hr0, List.Pairwise.nil⟩
  case round =>
    clear h1 l1 hr0 r1
    obtain ⟨k, rows, cs, hk, rfl, hrl, hrm, st, h4, hsort⟩ := hrel
    by_cases hlt : k < 4
    · have hi0 : (k : Int) < 4 := by omega
      have HRM := Lib.hid hrm
      have HSO := Lib.hid hsort
      clear hrm hsort
      have hm0 := rdNum_most 5 (rdN4 k s).2 (by omega)
      have hn0 := rdnumber_any wr F g (rdN4 k s).2 st.rd 5
      have hnd : rdNodes (rdN4 k s).2 = rdNs 5 (rdNum 5 (rdN4 k s).2).1.toNat (rdNum 5 (rdN4 k s).2).2 := rfl
      obtain ⟨⟨n, s1⟩, hq⟩ : ∃ q, rdNum 5 (rdN4 k s).2 = q := ⟨_, rfl⟩
      rw [hq] at hm0 hn0 hnd
      simp only at hm0 hn0 hnd
      obtain ⟨n, rfl⟩ : ∃ m : Nat, n = (m : Int) := ⟨n.toNat, by omega⟩
      rw [Int.toNat_natCast] at hnd
      have HND := Lib.hid hnd
      have H0 : RcH w W1 W1 F g R L := ⟨hgl, hFl, Q1.size, Nat.le_refl _, ⟨hwR, hRl⟩, ⟨hwL, hLl⟩, hRL⟩
      clear hq hnd
      go_wp2_with fail
      refine hn0.mono ?_
      rintro e w2 ⟨rfl, hrd2⟩
      have st2 := st.call H0 hrd2
      have H2 : RcH w W1 w2 F g R L := ⟨hgl, hFl, Q1.size, st2.sz, ⟨hwR, hRl⟩, ⟨hwL, hLl⟩, hRL⟩
      have hro2 : ∀ r ∈ rows, ∀ j, inA r.a j → j < w2.heap.size := fun r hr j hj => (st2.own r hr).lt j hj
      have st3 : RcSt w W1 w2 F g R L rows s1 cs lsZ w2 := { st2 with cur := ⟨Own.nil _ _ _, fun k hk => (inA_none k hk).elim⟩, sz := Nat.le_refl _ }
      clear st H0 hrd2
      go_wp2_with fail
      go_loopw [10] (fun i wx => RiRel w W1 w2 F g R L s1 rows n i wx) (fun i _ => n - (intOf i).toNat)
      case atStart => exact ⟨0, lsZ, cs, Nat.zero_le _, rfl, rfl, st3, h4.more (by omega)⟩
      case round =>
        clear st3 h4
        obtain ⟨j, cur, cs2, hjn, rfl, hcl, sj, h4j⟩ := hrel
        by_cases hj : j < n
        · have hj0 : (j : Int) < (n : Int) := by omega
          have hcj : cur.l.length = j := by rw [hcl, rdNs_len]
          have hck : cs2[k]? = some (.slice cur.a cur.l.length cur.c) := by rw [← hrl]; exact h4j.last
          have hrs := rdNs_succ 5 j s1
          have hnum := fun w1 h1 => rdnumber_any w1 F g (rdNs 5 j s1).2 h1 5
          obtain ⟨sd, hsd⟩ : ∃ sd, (rdNs 5 j s1).2 = sd := ⟨_, rfl⟩
          rw [hsd] at hnum sj hrs
          obtain ⟨⟨z, s2⟩, hz⟩ : ∃ q, rdNum 5 sd = q := ⟨_, rfl⟩
          rw [hz] at hnum hrs
          simp only at hnum hrs
          have HRS := Lib.hid hrs
          have HNU := Lib.hid hnum
          have HCL := Lib.hid hcl
          have hjl : cur.l.length ≤ 5 := by omega
          clear hsd hz hrs hnum hcl hcj
          have hki : decide ((k : Int) < 4) = true := decide_eq_true hi0
          have hkl : k < cs2.size := by rw [h4j.size]; exact hlt
          go_upto_region 7 with (fail)
          refine wp_region_app 5 6 7 9 (fun wz => RcSt w W1 w2 F g R L rows sd cs2 cur wz) (fun wz => RcSt w W1 w2 F g R L rows s2 cs2 cur wz) (fun v wz => RcSt w W1 w2 F g R L rows s2 cs2 cur wz ∧ Blk wz v 3 #[I64 z])
            (fun v wz => RcSt w W1 w2 F g R L rows s2 cs2 ⟨v.2, v.1, cur.l ++ [z]⟩ wz) (fun v wz => RcSt w W1 w2 F g R L rows s2 (cs2.setIfInBounds k (.slice v.2 (cur.l.length + 1) v.1)) ⟨v.2, v.1, cur.l ++ [z]⟩ wz) (by kernel_rfl) (by kernel_rfl) (sj.nw ((Fr.refl (fun _ => False) wr).drew)) ?_
          apply wpEffP_cons
          focus
            intro B L2 wz hL hD hC
            refine .inl ⟨by rfl, ?_⟩
            unfold effAt
            go_simp
            exact ⟨rfl, hC.keep (by kernel_rfl) hD (by rfl) (by rfl) (by rfl) (by rfl)⟩
          simp only [Act.put, List.setIfInBounds_toArray, List.set_cons_zero, List.set_cons_succ]
          apply wpEffP_cons
          focus
            intro B L2 wz hL hD hC
            refine .inl ⟨by rfl, ?_⟩
            unfold effAt
            go_simp
            exact ⟨rfl, hC.keep (by kernel_rfl) hD (by rfl) (by rfl) (by rfl) (by rfl)⟩
          simp only [Act.put, List.setIfInBounds_toArray, List.set_cons_zero, List.set_cons_succ]
          apply wpEffP_cons
          focus
            intro B L2 wz hL hD hC
            refine .inl ⟨by rfl, ?_⟩
            unfold effAt
            go_simp
            exact ⟨rfl, hC.keep (by kernel_rfl) hD (by rfl) (by rfl) (by rfl) (by rfl)⟩
          simp only [Act.put, List.setIfInBounds_toArray, List.set_cons_zero, List.set_cons_succ]
          apply wpEffP_cons
          focus
            intro B L2 wz hL hD hC
            have hx : wz.cell? ⟨L, k, none⟩ = some (.slice cur.a cur.l.length cur.c) := hC.early hL (by kernel_rfl) (by kernel_rfl) (fun h => (h.b.cell k).trans hck) (fun h => (h.b.cell k).trans hck) (fun _ h => (h.1.b.cell k).trans hck)
            refine .inl ⟨by rfl, ?_⟩
            unfold effAt
            go_simp
            exact ⟨rfl, hC.keep (by kernel_rfl) hD (by rfl) (by rfl) (by rfl) (by rfl)⟩
          simp only [Act.put, List.setIfInBounds_toArray, List.set_cons_zero, List.set_cons_succ]
          apply wpEffP_cons
          focus
            intro B L2 wz hL hD hC
            refine .inl ⟨by rfl, ?_⟩
            unfold effAt
            go_simp
            exact ⟨rfl, hC.keep (by kernel_rfl) hD (by rfl) (by rfl) (by rfl) (by rfl)⟩
          simp only [Act.put, List.setIfInBounds_toArray, List.set_cons_zero, List.set_cons_succ]
          apply wpEffP_cons
          focus
            intro B L2 wz hL hD hC
            obtain ⟨h1, h2⟩ := hC.call hL (by kernel_rfl) (by kernel_rfl) (by kernel_rfl) (by kernel_rfl) hD (by rfl) (by rfl) (by rfl)
            refine .inl ⟨by rfl, ?_⟩
            unfold effAt
            go_simp
            refine (HNU.out _ h1.rd).mono ?_
            rintro e w9 ⟨he, hr9⟩
            exact ⟨he, h2 _ (h1.call H2 hr9)⟩
          simp only [Act.put, List.setIfInBounds_toArray, List.set_cons_zero, List.set_cons_succ]
          refine wpEffP_free (fun b => .slice (some ⟨b.1, 0, none⟩) 1 1) ?_ ?_
          focus
            intro B L2 wz hL hD hC
            obtain ⟨h1, h2⟩ := hC.build hL (hD 5 (by kernel_rfl)) (by kernel_rfl) (by kernel_rfl) (by kernel_rfl) hD (by rfl) (by rfl)
            refine .inl ⟨by rfl, ?_⟩
            unfold effAtP
            go_simp
            exact ⟨(wz.heap.size, none), rfl, h2 _ _ ⟨h1.nw ((Fr.refl (fun _ => False) wz).alloc _), Blk.new wz _ _⟩⟩
          simp only [Act.put, List.setIfInBounds_toArray, List.set_cons_zero, List.set_cons_succ]
          refine wpEffP_free (fun b => .slice b.2 (cur.l.length + 1) b.1) ?_ ?_
          focus
            intro B L2 wz hL hD hC
            obtain ⟨h1, h2⟩ := hC.app hL (hD 6 (by kernel_rfl)) (by kernel_rfl) (by kernel_rfl) hD (by rfl)
            have hnl : Sl wz (· = (B 6).1) (some ⟨(B 6).1, 0, none⟩) [I64 z] := h1.2.sl 0 1
            refine .inl ⟨by rfl, ?_⟩
            refine effAtP_append _ _ 33 rfl 8 (.int .i64 0) Try.underlying33 info_i64 rfl (by decide) rfl h1.1.cur.own rfl hnl rfl (by intro u hu; rw [List.mem_singleton.1 hu]; rfl) (by omega) (by unfold maxLen; omega) fun A6 c6 w6 hap => ?_
            exact ⟨(c6, A6), rfl, h2 _ _ (h1.1.app H2 hro2 hap)⟩
          simp only [Act.put, List.setIfInBounds_toArray, List.set_cons_zero, List.set_cons_succ]
          apply wpEffP_cons
          focus
            intro B L2 wz hL hD hC
            refine .inl ⟨by rfl, ?_⟩
            unfold effAt
            go_simp
            exact ⟨rfl, hC.keep (by kernel_rfl) hD (by rfl) (by rfl) (by rfl) (by rfl)⟩
          simp only [Act.put, List.setIfInBounds_toArray, List.set_cons_zero, List.set_cons_succ]
          apply wpEffP_cons
          focus
            intro B L2 wz hL hD hC
            obtain ⟨h1, h2⟩ := hC.store hL (hD 7 (by kernel_rfl)) (by kernel_rfl) hD
            have hx : wz.cell? ⟨L, k, none⟩ = some (.slice cur.a cur.l.length cur.c) := (h1.b.cell k).trans hck
            have hf := h1.b.frozen k
            refine .inl ⟨by rfl, ?_⟩
            unfold effAt
            go_simp
            exact ⟨rfl, h2 _ (h1.store H2 k _)⟩
          simp only [Act.put, List.setIfInBounds_toArray, List.set_cons_zero, List.set_cons_succ]
          refine wpEffP_nil fun B wz hC => ?_
          have hfin := hC.fin (by rfl)
          generalize hv : B 7 = v7 at hfin
          have hset := h4j.set_ ⟨v7.2, v7.1, cur.l ++ [z]⟩
          rw [hrl] at hset
          have hfin2 : RcSt w W1 w2 F g R L rows s2 (cs2.setIfInBounds k (Ls.v ⟨v7.2, v7.1, cur.l ++ [z]⟩)) ⟨v7.2, v7.1, cur.l ++ [z]⟩ wz := by simpa [Ls.v] using hfin
          clear hfin hC hv
          go_wp2_with fail
          go_roundw
          case rel => exact ⟨j + 1, ⟨v7.2, v7.1, cur.l ++ [z]⟩, _, hj, by go_num, by rw [HRS.out, HCL.out], by rw [HRS.out]; exact hfin2, hset⟩
          case measure => simp [intOf]; omega
        · obtain rfl : j = n := by omega
          go_wp2_with fail
          go_roundw
          case rel =>
            refine ⟨k + 1, rows ++ [cur], cs2, by omega, by go_num, by simp [hrl], ?_, { sj with rd := ?_, own := fun r hr => ?_, cur := ⟨Own.nil _ _ _, fun k hk => (inA_none k hk).elim⟩, sz := Nat.le_trans st2.sz sj.sz }, h4j, ?_⟩
            · rw [List.map_append, HRM.out]
              show _ ++ [cur.l] = (rdN4 k s).1 ++ [(rdNodes (rdN4 k s).2).1]
              rw [HND.out, hcl]
            · show IsRd wr F g (rdNodes (rdN4 k s).2).2
              rw [HND.out]
              exact sj.rd
            · rcases List.mem_append.1 hr with hr | hr
              · exact sj.own r hr
              · rw [List.mem_singleton.1 hr]
                exact sj.cur.from_ st2.sz
            · refine List.pairwise_append.2 ⟨HSO.out, List.pairwise_singleton _ _, fun a ha b hb x y hx hy => ?_⟩
              rw [List.mem_singleton.1 hb] at hy
              have h1 := (st2.own a ha).lt x hx
              have h2 := sj.cur.base y hy
              omega
          case measure => simp [intOf]; omega
    · obtain rfl : k = 4 := by omega
      obtain ⟨r0, r1, r2, r3, rfl⟩ : ∃ a b c d, rows = [a, b, c, d] := by
        match rows, hrl with
        | [a, b, c, d], _ => exact ⟨a, b, c, d, rfl⟩
      have c0 : wr.cell? ⟨L, 0, none⟩ = some (.slice r0.a r0.l.length r0.c) := (st.b.cell 0).trans (h4.at_ 0 (by simp))
      have c1 : wr.cell? ⟨L, 1, none⟩ = some (.slice r1.a r1.l.length r1.c) := (st.b.cell 1).trans (h4.at_ 1 (by simp))
      have c2 : wr.cell? ⟨L, 2, none⟩ = some (.slice r2.a r2.l.length r2.c) := (st.b.cell 2).trans (h4.at_ 2 (by simp))
      have c3 : wr.cell? ⟨L, 3, none⟩ = some (.slice r3.a r3.l.length r3.c) := (st.b.cell 3).trans (h4.at_ 3 (by simp))
      have th := Blk.there (l := [.slice none 0 0, .slice none 0 0, .slice none 0 0, .slice none 0 0]) st.r 0 4 (by show 0 + 4 ≤ 4; omega)
      have one := cfgA_one ⟨r0, r1, r2, r3⟩
      obtain ⟨w5, hw5⟩ : ∃ W, W = wr.setCells R 0 [.slice r0.a r0.l.length r0.c, .slice r1.a r1.l.length r1.c, .slice r2.a r2.l.length r2.c, .slice r3.a r3.l.length r3.c] := ⟨_, rfl⟩
      have m5 : Fr (· = R) wr w5 := by rw [hw5]; exact (Fr.refl (· = R) _).setCells _ _
      have r5 : Blk w5 R 35 #[.slice r0.a r0.l.length r0.c, .slice r1.a r1.l.length r1.c, .slice r2.a r2.l.length r2.c, .slice r3.a r3.l.length r3.c] := by rw [hw5]; exact Blk.setCells (l := [.slice none 0 0, .slice none 0 0, .slice none 0 0, .slice none 0 0]) st.r 0 [.slice r0.a r0.l.length r0.c, .slice r1.a r1.l.length r1.c, .slice r2.a r2.l.length r2.c, .slice r3.a r3.l.length r3.c]
      have own5 : ∀ r ∈ [r0, r1, r2, r3], LsOwn w w5 3 1 intsC r := fun r hr => ((st.own r hr).fr m5 (fun j hj e => by have := (st.own r hr).base j hj; omega)).from_ Q1.size
      have res : (⟨r0, r1, r2, r3⟩ : CfgM).x = (rdCfg s).1 ∧ CfgOwn w w5 ⟨r0, r1, r2, r3⟩ ∧ RdTo w F g (rdCfg s).2 w5 := by
        rw [rdN4_cfg] at hrm st
        simp only [List.map_cons, List.map_nil, List.cons.injEq, and_true] at hrm
        obtain ⟨e0, e1, e2, e3⟩ := hrm
        simp only [List.pairwise_cons, List.mem_cons, List.not_mem_nil, or_false, forall_eq_or_imp, forall_eq] at hsort
        refine ⟨?_, ⟨own5 r0 (by simp), own5 r1 (by simp), own5 r2 (by simp), own5 r3 (by simp), hsort.1.1, hsort.2.1.1, hsort.2.2.1, hsort.1.2.1, hsort.1.2.2, hsort.2.1.2⟩, st.rd.fr m5 (fun e => hRg e.symm) (fun j hj e => hFR (e ▸ hj)), st.fr.trans m5 (fun j hj => .inr (by omega))⟩
        show (⟨r0.l, r1.l, r2.l, r3.l⟩ : Cfg) = _
        rw [e0, e1, e2, e3]
      have HW5 := Lib.hid hw5
      have HRES := Lib.hid res
      clear hw5 res own5 m5 hrm hsort st h4
      go_wp2_with (refine wpList_store_mid rfl 35 _ _ rfl R 0 #[.slice r0.a r0.l.length r0.c, .slice r1.a r1.l.length r1.c, .slice r2.a r2.l.length r2.c, .slice r3.a r3.l.length r3.c] rfl rfl th (by kernel_rfl) one ?_; rw [← HW5.out])
      refine bodyPost_ret (v := .agg #[.slice r0.a r0.l.length r0.c, .slice r1.a r1.l.length r1.c, .slice r2.a r2.l.length r2.c, .slice r3.a r3.l.length r3.c]) ?_ rfl ?_
      · exact results_cell_row rfl _ _ R 35 _ (0, 0) _ rfl r5 Try.underlying35 rfl (by kernel_rfl)
      obtain ⟨h1, h2, h3⟩ := HRES.out
      exact ⟨⟨r0, r1, r2, r3⟩, rfl, h1, h2, h3⟩
end Go.Proofs.Ytippdjaakcgeoaa
