/- Lemmas of the walks: GcA, GdA, RgA. (Laid together by shake.py.) -/
import Derived.Recover
import Derived.Defers
import Derived.Test.YtippdjaakcgeoaaGreatPa01
import Derived.Test.YtippdjaakcgeoaaGreatPa02
import Derived.Test.YtippdjaakcgeoaaGreatPa03
import Derived.Test.YtippdjaakcgeoaaGreatPa04
import Derived.Test.YtippdjaakcgeoaaGreatPa13
set_option linter.unusedVariables false
set_option linter.unusedSimpArgs false
namespace Go.Proofs.YtippdjaakcgeoaaGreat
open Go Go.RowKit
set_option linter.unusedVariables false
set_option linter.unusedSimpArgs false
/-- Four cells that hold the rows that are there, none behind. -/
structure Rows4 (cs : Array Value) (rows : List (Ls Int)) : Prop where
  size : cs.size = 4
  at_ : ∀ i (h : i < rows.length), cs[i]? = some rows[i].v
  none_ : ∀ i, rows.length ≤ i → i < 4 → cs[i]? = some (.slice none 0 0)
theorem Rows4.last {cs : Array Value} {rows : List (Ls Int)} {r : Ls Int} (h : Rows4 cs (rows ++ [r])) : cs[rows.length]? = some r.v := by
  have := h.at_ rows.length (by simp)
  rw [this, List.getElem_append_right (Nat.le_refl _)]
  simp
theorem Rows4.set_ {cs : Array Value} {rows : List (Ls Int)} {r : Ls Int} (h : Rows4 cs (rows ++ [r])) (r2 : Ls Int) : Rows4 (cs.setIfInBounds rows.length r2.v) (rows ++ [r2]) := by
  have hl : rows.length < cs.size := by
    rcases Nat.lt_or_ge rows.length cs.size with h1 | h1
    · exact h1
    · have := h.last; rw [Array.getElem?_eq_none h1] at this; cases this
  refine ⟨by simpa using h.size, fun i hi => ?_, fun i h1 h2 => ?_⟩
  · by_cases hlt : i < rows.length
    · rw [List.getElem_append_left hlt, Array.getElem?_setIfInBounds_ne (by omega)]
      have := h.at_ i (by simp; omega)
      rw [List.getElem_append_left hlt] at this
      exact this
    · have e : i = rows.length := by simp at hi; omega
      subst e
      rw [Array.getElem?_setIfInBounds_self_of_lt hl, List.getElem_append_right (Nat.le_refl _)]
      simp
  · simp at h1
    rw [Array.getElem?_setIfInBounds_ne (by omega)]
    exact h.none_ i (by simp; omega) h2
/-- What stands: the reader, the four cells, the variable that is told, the rows that were read, the row at work. -/
structure RcSt (w W1 wo : World) (F : Nat → Prop) (g R L : Nat) (rows : List (Ls Int)) (sd : Rd) (cs : Array Value) (cur : Ls Int) (wz : World) : Prop where
  rd : IsRd wz F g sd
  b : Blk wz L 297 cs
  r : Blk wz R 45 #[.slice none 0 0, .slice none 0 0, .slice none 0 0, .slice none 0 0]
  own : ∀ r ∈ rows, LsOwn W1 wz 3 1 intsC r
  cur : LsOwn wo wz 3 1 intsC cur
  fr : Fr (· = g) w wz
  sz : wo.heap.size ≤ wz.heap.size
structure RcH (w W1 wo : World) (F : Nat → Prop) (g R L : Nat) : Prop where
  hg : g < w.heap.size
  hF : ∀ k, F k → k < w.heap.size
  wW : w.heap.size ≤ W1.heap.size
  Ww : W1.heap.size ≤ wo.heap.size
  hR : w.heap.size ≤ R ∧ R < W1.heap.size
  hL : w.heap.size ≤ L ∧ L < W1.heap.size
  RL : R ≠ L
section
variable {w W1 wo wz w' : World} {F : Nat → Prop} {g R L : Nat} {rows : List (Ls Int)} {sd s' : Rd} {cs : Array Value} {cur : Ls Int}
theorem RcSt.call (H : RcH w W1 wo F g R L) (h : RcSt w W1 wo F g R L rows sd cs cur wz) (q : RdTo wz F g s' w') : RcSt w W1 wo F g R L rows s' cs cur w' := by
  have h1 := H.hg
  have h2 := H.hR
  have h3 := H.hL
  have h4 := H.wW
  have h5 := H.Ww
  exact ⟨q.1, h.b.fr q.2 (by omega), h.r.fr q.2 (by omega), fun r hr => (h.own r hr).fr q.2 (fun k hk e => by have := (h.own r hr).base k hk; omega), h.cur.fr q.2 (fun k hk e => by have := h.cur.base k hk; omega), h.fr.tr q.2, Nat.le_trans h.sz q.2.size⟩
theorem RcSt.nw (h : RcSt w W1 wo F g R L rows sd cs cur wz) (q : Nw wz w') : RcSt w W1 wo F g R L rows sd cs cur w' :=
  ⟨h.rd.fr q (fun h => h) (fun _ _ h => h), h.b.fr q (fun h => h), h.r.fr q (fun h => h), fun r hr => (h.own r hr).nw q, h.cur.nw q, h.fr.tr (Nw.on q), Nat.le_trans h.sz q.size⟩
theorem RcSt.app (H : RcH w W1 wo F g R L) (hrows : ∀ r ∈ rows, ∀ k, inA r.a k → k < wo.heap.size) (h : RcSt w W1 wo F g R L rows sd cs cur wz) {A' : Option Addr} {c' : Nat} {z : Int} (hap : AppTo wz 3 1 cur.a cur.l.length cur.c 1 (intsC cur.l) [I64 z] A' c' w') : RcSt w W1 wo F g R L rows sd cs ⟨A', c', cur.l ++ [z]⟩ w' := by
  have h1 := H.hg
  have h2 := H.hR
  have h3 := H.hL
  have h4 := H.wW
  have h5 := H.Ww
  have f := hap.fr
  have hb := h.cur.base
  refine ⟨h.rd.fr f (fun e => by have := hb _ e; omega) (fun k hk e => by have := hb _ e; have := H.hF k hk; omega), h.b.fr f (fun e => by have := hb _ e; omega), h.r.fr f (fun e => by have := hb _ e; omega), fun r hr => (h.own r hr).fr f (fun k hk e => by have := hb _ e; have := hrows r hr k hk; omega), ⟨?_, fun k hk => ?_⟩, h.fr.trans f (fun k hk => .inr (by have := hb _ hk; omega)), Nat.le_trans h.sz f.size⟩
  · have o := hap.1
    show Own w' 3 1 A' (cur.l ++ [z]).length c' (intsC (cur.l ++ [z]))
    rw [List.length_append, intsC_append]
    exact o
  · rcases hap.inA_ k hk with e | e
    · exact hb k e
    · rw [e]
      exact h.sz
theorem RcSt.store (H : RcH w W1 wo F g R L) (h : RcSt w W1 wo F g R L rows sd cs cur wz) (k : Nat) (u : Value) : RcSt w W1 wo F g R L rows sd (cs.setIfInBounds k u) cur (wz.setCell ⟨L, k, none⟩ u) := by
  have h1 := H.hg
  have h2 := H.hR
  have h3 := H.hL
  have h4 := H.wW
  have h5 := H.Ww
  have h6 := H.RL
  have f : Fr (· = L) wz (wz.setCell ⟨L, k, none⟩ u) := (Fr.refl (· = L) wz).set1 k u
  exact ⟨h.rd.fr f (by omega) (fun k hk e => by have := H.hF k hk; omega), h.b.set_ k u, h.r.fr f h6, fun r hr => (h.own r hr).fr f (fun k hk e => by have := (h.own r hr).base k hk; omega), h.cur.fr f (fun k hk e => by have := h.cur.base k hk; omega), h.fr.trans f (fun k hk => .inr (by omega)), Nat.le_trans h.sz f.size⟩
end
end Go.Proofs.YtippdjaakcgeoaaGreat

namespace Go.Proofs.YtippdjaakcgeoaaGreat
open Go Go.RowKit
set_option linter.unusedVariables false
set_option linter.unusedSimpArgs false
/-- Cells set, one behind the other. -/
def setNs (cs : Array Value) : List Nat → List Int → Array Value
  | o :: os, n :: ns => setNs (cs.setIfInBounds o (I64 n)) os ns
  | _, _ => cs
theorem setNs_snoc (os : List Nat) (ns : List Int) (h : os.length = ns.length) (o : Nat) (n : Int) (cs : Array Value) : setNs cs (os ++ [o]) (ns ++ [n]) = (setNs cs os ns).setIfInBounds o (I64 n) := by
  induction os generalizing ns cs with
  | nil => cases ns with
    | nil => rfl
    | cons _ _ => cases h
  | cons a os ih => cases ns with
    | nil => cases h
    | cons b ns =>
      show setNs _ (os ++ [o]) (ns ++ [n]) = _
      rw [ih _ (by simpa using h)]
      rfl
theorem setNs_size (os : List Nat) (ns : List Int) (cs : Array Value) : (setNs cs os ns).size = cs.size := by
  induction os generalizing ns cs with
  | nil => cases ns <;> rfl
  | cons a os ih => cases ns with
    | nil => rfl
    | cons b ns =>
      show (setNs _ os ns).size = _
      rw [ih]
      simp
/-- The reader (whatever the mark says: the texts of orders mark two kinds). -/
def IsQ (b : Bool) (w : World) (F : Nat → Prop) (g : Nat) (s : Rd) : Prop := IsRd w F g s
def QTo (b : Bool) (w : World) (F : Nat → Prop) (g : Nat) (s : Rd) (w' : World) : Prop := IsQ b w' F g s ∧ Fr (· = g) w w'
theorem IsQ.fr {b : Bool} {w w' : World} {F S : Nat → Prop} {g : Nat} {s : Rd} (h : IsQ b w F g s) (hf : Fr S w w') (hg : ¬ S g) (hd : ∀ k, F k → ¬ S k) : IsQ b w' F g s := IsRd.fr h hf hg hd
/-- What stands: the reader, the variable, and whatever else is to stay. -/
structure RSt (b : Bool) (w0 wr : World) (F : Nat → Prop) (g X : Nat) (t : TypeId) (K : World → Prop) (s : Rd) (cs : Array Value) : Prop where
  rd : IsQ b wr F g s
  x : Blk wr X t cs
  k : K wr
  fr : Fr (· = g) w0 wr
  gX : g ≠ X
  FX : ¬ F X
  new : w0.heap.size ≤ X
  st : ∀ a c, Fr (fun k => k = g ∨ k = X) a c → K a → K c
section
variable {b : Bool} {w0 wr w' : World} {F : Nat → Prop} {g X : Nat} {t : TypeId} {K K' : World → Prop} {s s' : Rd} {cs : Array Value}
theorem RSt.call (h : RSt b w0 wr F g X t K s cs) (q : QTo b wr F g s' w') : RSt b w0 w' F g X t K s' cs :=
  ⟨q.1, h.x.fr q.2 (fun e => h.gX e.symm), h.st _ _ (q.2.mono fun k hk => .inl (.inl hk)) h.k, h.fr.tr q.2, h.gX, h.FX, h.new, h.st⟩
theorem RSt.set_ (h : RSt b w0 wr F g X t K s cs) (j : Nat) (u : Value) : RSt b w0 (wr.setCell ⟨X, j, none⟩ u) F g X t K s (cs.setIfInBounds j u) :=
  have q : Fr (· = X) wr (wr.setCell ⟨X, j, none⟩ u) := (Fr.refl (· = X) wr).setCell (p := ⟨X, j, none⟩) (.inl rfl) u
  ⟨h.rd.fr q h.gX (fun k hk e => h.FX (e ▸ hk)), h.x.set_ j u, h.st _ _ (q.mono fun k hk => .inl (.inr hk)) h.k, h.fr.trans q (fun k hk => .inr (hk ▸ h.new)), h.gX, h.FX, h.new, h.st⟩
theorem RSt.nw (h : RSt b w0 wr F g X t K s cs) (q : Nw wr w') : RSt b w0 w' F g X t K s cs :=
  ⟨h.rd.fr q (fun h => h) (fun _ _ h => h), h.x.fr q (fun h => h), h.st _ _ (Nw.on q) h.k, h.fr.tr (Nw.on q), h.gX, h.FX, h.new, h.st⟩
/-- Another base. -/
theorem RSt.base {w1 : World} (h : RSt b w0 wr F g X t K s cs) (q : Fr (· = g) w1 w0) : RSt b w1 wr F g X t K s cs :=
  ⟨h.rd, h.x, h.k, q.tr h.fr, h.gX, h.FX, Nat.le_trans q.size h.new, h.st⟩
end
end Go.Proofs.YtippdjaakcgeoaaGreat

namespace Go.Proofs.YtippdjaakcgeoaaGreat
open Go Go.RowKit
set_option linter.unusedVariables false
set_option linter.unusedSimpArgs false
theorem ndAt_zero (l : List Int) (h : 0 < l.length) : ndAt l 0 = decide (1 ≤ l[0] ∧ l[0] ≤ 5) := by
  unfold ndAt
  rw [List.getD_eq_getElem?_getD, List.getElem?_eq_getElem h]
  simp
theorem ndAt_succ (l : List Int) (j : Nat) (h : j + 1 < l.length) : ndAt l (j + 1) = (decide (1 ≤ l[j + 1] ∧ l[j + 1] ≤ 5) && decide (l[j] < l[j + 1])) := by
  unfold ndAt
  have e : j + 1 - 1 = j := by omega
  rw [e, List.getD_eq_getElem?_getD, List.getElem?_eq_getElem h, List.getD_eq_getElem?_getD, List.getElem?_eq_getElem (by omega)]
  simp
theorem nodes_all {l : List Int} (h : ∀ j, j < l.length → ndAt l j = true) : nodesOk l = true := by
  unfold nodesOk
  exact List.all_eq_true.2 fun j hj => h j (List.mem_range.1 hj)
theorem nodes_no {l : List Int} {k : Nat} (hk : k < l.length) (h : ndAt l k = false) : nodesOk l = false := by
  unfold nodesOk
  rw [List.all_eq_false]
  exact ⟨k, List.mem_range.2 hk, by rw [h]; simp⟩
def NdR (w : World) (l : List Int) (i : Value) (wr : World) : Prop := ∃ k : Nat, k ≤ l.length ∧ i = .int .i64 k ∧ (∀ j, j < k → ndAt l j = true) ∧ Nw w wr
set_option maxRecDepth 100000 in
set_option maxHeartbeats 4000000 in
theorem jnodes (w : World) (F : Nat → Prop) (A : Option Addr) (c : Nat) (l : List Int) (h : Sl w F A (intsC l)) (hsz : l.length ≤ 1000000000000) :
    Calls Tryz.prog 154 #[.slice A l.length c] w fun e w' => e = .returned (.bool (nodesOk l)) ∧ Nw w w' := by
  go_enter Tryz.func154, Tryz.ntmps154
  go_wp2_with fail
  go_loopw [7] (fun i wr => NdR w l i wr) (fun i _ => l.length - (intOf i).toNat)
  case atStart => exact ⟨0, Nat.zero_le _, rfl, fun j hj => by omega, Fr.refl _ _⟩
  case round =>
    obtain ⟨k, hk, rfl, hb, hq⟩ := hrel
    have HB := Lib.hid hb
    clear hb
    by_cases hlt : k < l.length
    · cases k with
      | zero =>
        obtain ⟨b, o, rfl, _, p0⟩ := (h.fr hq (fun _ _ h => h)).get hlt
        have hA := ndAt_zero l hlt
        have hi0 : (0 : Int) < (l.length : Int) := by omega
        obtain ⟨x, hx⟩ : ∃ x, l[0] = x := ⟨_, rfl⟩
        rw [hx] at hA p0
        simp only [Nat.add_zero] at p0
        clear hx
        by_cases h1 : x < 1
        · have hA : ndAt l 0 = false := by rw [hA]; exact decide_eq_false (by omega)
          have HA := Lib.hid hA
          clear hA
          have g1 : decide (x < 1) = true := decide_eq_true h1
          go_wp2_with fail
          go_ret
          exact ⟨ret_eq (congrArg Value.bool (nodes_no hlt (HA.out)).symm), hq⟩
        · have h2 : 1 ≤ x := by omega
          have g1 : decide (x < 1) = false := decide_eq_false h1
          by_cases h3 : 5 < x
          · have hA : ndAt l 0 = false := by rw [hA]; exact decide_eq_false (by omega)
            have HA := Lib.hid hA
            clear hA
            have g2 : decide (5 < x) = true := decide_eq_true h3
            go_wp2_with fail
            go_ret
            exact ⟨ret_eq (congrArg Value.bool (nodes_no hlt (HA.out)).symm), hq⟩
          · have h4 : x ≤ 5 := by omega
            have hA : ndAt l 0 = true := by rw [hA]; exact decide_eq_true ⟨h2, h4⟩
            have HA := Lib.hid hA
            clear hA
            have g2 : decide (5 < x) = false := decide_eq_false h3
            go_wp2_with fail
            go_roundw
            case rel =>
              refine ⟨1, by omega, by go_num, fun i hi => ?_, hq⟩
              by_cases e : i = 0
              · subst e; exact HA.out
              · exact HB.out i (by omega)
            case measure => simp [intOf]; omega
      | succ j =>
        obtain ⟨b, o, rfl, _, p0⟩ := (h.fr hq (fun _ _ h => h)).get hlt
        obtain ⟨b', o', hbo, _, r0⟩ := (h.fr hq (fun _ _ h => h)).get (show j < l.length by omega)
        injection hbo with hbo
        injection hbo with e1 e2 _
        subst e1
        subst e2
        have hA := ndAt_succ l j hlt
        have hi0 : (j : Int) + 1 < (l.length : Int) := by omega
        obtain ⟨x, hx⟩ : ∃ x, l[j + 1] = x := ⟨_, rfl⟩
        obtain ⟨y, hy⟩ : ∃ y, l[j] = y := ⟨_, rfl⟩
        rw [hx, hy] at hA
        rw [hx] at p0
        rw [hy] at r0
        have hj0 : (0 : Int) < (j : Int) + 1 := by omega
        have g3 : decide ((0 : Int) < (j : Int) + 1) = true := decide_eq_true hj0
        have hsub : IntKind.i64.wrap ((j : Int) + 1 - 1) = (j : Int) := by rw [IntWalk.i64_in _ (by omega)]; omega
        clear hx hy
        by_cases h1 : x < 1
        · have hA : ndAt l (j + 1) = false := by rw [hA, decide_eq_false (show ¬ (1 ≤ x ∧ x ≤ 5) by omega)]; rfl
          have HA := Lib.hid hA
          clear hA
          have g1 : decide (x < 1) = true := decide_eq_true h1
          go_wp2_with fail
          go_ret
          exact ⟨ret_eq (congrArg Value.bool (nodes_no hlt (HA.out)).symm), hq⟩
        · have h2 : 1 ≤ x := by omega
          have g1 : decide (x < 1) = false := decide_eq_false h1
          by_cases h3 : 5 < x
          · have hA : ndAt l (j + 1) = false := by rw [hA, decide_eq_false (show ¬ (1 ≤ x ∧ x ≤ 5) by omega)]; rfl
            have HA := Lib.hid hA
            clear hA
            have g2 : decide (5 < x) = true := decide_eq_true h3
            go_wp2_with fail
            go_ret
            exact ⟨ret_eq (congrArg Value.bool (nodes_no hlt (HA.out)).symm), hq⟩
          · have h4 : x ≤ 5 := by omega
            have g2 : decide (5 < x) = false := decide_eq_false h3
            by_cases h5 : x ≤ y
            · have hA : ndAt l (j + 1) = false := by rw [hA, decide_eq_false (show ¬ (y < x) by omega)]; exact Bool.and_false _
              have HA := Lib.hid hA
              clear hA
              have g4 : decide (x ≤ y) = true := decide_eq_true h5
              go_wp2_with fail
              go_ret
              exact ⟨ret_eq (congrArg Value.bool (nodes_no hlt (HA.out)).symm), hq⟩
            · have h6 : y < x := by omega
              have hA : ndAt l (j + 1) = true := by rw [hA, decide_eq_true h6, decide_eq_true (show 1 ≤ x ∧ x ≤ 5 from ⟨h2, h4⟩)]; rfl
              have HA := Lib.hid hA
              clear hA
              have g4 : decide (x ≤ y) = false := decide_eq_false h5
              go_wp2_with fail
              go_roundw
              case rel =>
                refine ⟨j + 1 + 1, by omega, by go_num, fun i hi => ?_, hq⟩
                by_cases e : i = j + 1
                · subst e; exact HA.out
                · exact HB.out i (by omega)
              case measure => simp [intOf]; omega
    · obtain rfl : l.length = k := by omega
      go_wp2_with fail
      go_ret
      exact ⟨ret_eq (congrArg Value.bool (nodes_all (fun j hj => HB.out j hj)).symm), hq⟩
set_option maxRecDepth 100000 in
set_option maxHeartbeats 4000000 in
theorem rnodes (w : World) (F : Nat → Prop) (A : Option Addr) (c : Nat) (l : List Int) (h : Sl w F A (intsC l)) (hsz : l.length ≤ 1000000000000) :
    Calls Tryz.prog 222 #[.slice A l.length c] w fun e w' => e = .returned (.bool (nodesOk l)) ∧ Nw w w' := by
  go_enter Tryz.func222, Tryz.ntmps222
  go_wp2_with fail
  go_loopw [3] (fun i wr => NdR w l i wr) (fun i _ => l.length - (intOf i).toNat)
  case atStart => exact ⟨0, Nat.zero_le _, rfl, fun j hj => by omega, Fr.refl _ _⟩
  case round =>
    obtain ⟨k, hk, rfl, hb, hq⟩ := hrel
    have HB := Lib.hid hb
    clear hb
    by_cases hlt : k < l.length
    · cases k with
      | zero =>
        obtain ⟨b, o, rfl, _, p0⟩ := (h.fr hq (fun _ _ h => h)).get hlt
        have hA := ndAt_zero l hlt
        have hi0 : (0 : Int) < (l.length : Int) := by omega
        obtain ⟨x, hx⟩ : ∃ x, l[0] = x := ⟨_, rfl⟩
        rw [hx] at hA p0
        simp only [Nat.add_zero] at p0
        have P0 := fun (m : Later wr) => m.cell p0
        clear p0
        clear hx
        by_cases h1 : x < 1
        · have hA : ndAt l 0 = false := by rw [hA]; exact decide_eq_false (by omega)
          have HA := Lib.hid hA
          clear hA
          have g1 : decide (x < 1) = true := decide_eq_true h1
          go_wp2_with fail
          refine wp_region_later (by kernel_rfl) (by kernel_rfl) ?_
          repeat (go_big_quiet_step (fail))
          refine wpQuiet_later fun w5 q5 => ?_
          go_wp2_with fail
          go_ret
          exact ⟨ret_eq (congrArg Value.bool (nodes_no hlt (HA.out)).symm), hq.tr q5⟩
        · have h2 : 1 ≤ x := by omega
          have g1 : decide (x < 1) = false := decide_eq_false h1
          by_cases h3 : 5 < x
          · have hA : ndAt l 0 = false := by rw [hA]; exact decide_eq_false (by omega)
            have HA := Lib.hid hA
            clear hA
            have g2 : decide (5 < x) = true := decide_eq_true h3
            go_wp2_with fail
            refine wp_region_later (by kernel_rfl) (by kernel_rfl) ?_
            repeat (go_big_quiet_step (fail))
            refine wpQuiet_later fun w5 q5 => ?_
            go_wp2_with fail
            go_ret
            exact ⟨ret_eq (congrArg Value.bool (nodes_no hlt (HA.out)).symm), hq.tr q5⟩
          · have h4 : x ≤ 5 := by omega
            have hA : ndAt l 0 = true := by rw [hA]; exact decide_eq_true ⟨h2, h4⟩
            have HA := Lib.hid hA
            clear hA
            have g2 : decide (5 < x) = false := decide_eq_false h3
            go_wp2_with fail
            refine wp_region_later (by kernel_rfl) (by kernel_rfl) ?_
            repeat (go_big_quiet_step (fail))
            refine wpQuiet_later fun w5 q5 => ?_
            go_wp2_with fail
            go_roundw
            case rel =>
              refine ⟨1, by omega, by go_num, fun i hi => ?_, hq.tr q5⟩
              by_cases e : i = 0
              · subst e; exact HA.out
              · exact HB.out i (by omega)
            case measure => simp [intOf]; omega
      | succ j =>
        obtain ⟨b, o, rfl, _, p0⟩ := (h.fr hq (fun _ _ h => h)).get hlt
        obtain ⟨b', o', hbo, _, r0⟩ := (h.fr hq (fun _ _ h => h)).get (show j < l.length by omega)
        injection hbo with hbo
        injection hbo with e1 e2 _
        subst e1
        subst e2
        have hA := ndAt_succ l j hlt
        have hi0 : (j : Int) + 1 < (l.length : Int) := by omega
        obtain ⟨x, hx⟩ : ∃ x, l[j + 1] = x := ⟨_, rfl⟩
        obtain ⟨y, hy⟩ : ∃ y, l[j] = y := ⟨_, rfl⟩
        rw [hx, hy] at hA
        rw [hx] at p0
        rw [hy] at r0
        have hj0 : (0 : Int) < (j : Int) + 1 := by omega
        have g3 : decide ((0 : Int) < (j : Int) + 1) = true := decide_eq_true hj0
        have hsub : IntKind.i64.wrap ((j : Int) + 1 - 1) = (j : Int) := by rw [IntWalk.i64_in _ (by omega)]; omega
        have P0 := fun (m : Later wr) => m.cell p0
        have R0 := fun (m : Later wr) => m.cell r0
        clear p0 r0
        clear hx hy
        by_cases h1 : x < 1
        · have hA : ndAt l (j + 1) = false := by rw [hA, decide_eq_false (show ¬ (1 ≤ x ∧ x ≤ 5) by omega)]; rfl
          have HA := Lib.hid hA
          clear hA
          have g1 : decide (x < 1) = true := decide_eq_true h1
          go_wp2_with fail
          refine wp_region_later (by kernel_rfl) (by kernel_rfl) ?_
          repeat (go_big_quiet_step (fail))
          refine wpQuiet_later fun w5 q5 => ?_
          go_wp2_with fail
          go_ret
          exact ⟨ret_eq (congrArg Value.bool (nodes_no hlt (HA.out)).symm), hq.tr q5⟩
        · have h2 : 1 ≤ x := by omega
          have g1 : decide (x < 1) = false := decide_eq_false h1
          by_cases h3 : 5 < x
          · have hA : ndAt l (j + 1) = false := by rw [hA, decide_eq_false (show ¬ (1 ≤ x ∧ x ≤ 5) by omega)]; rfl
            have HA := Lib.hid hA
            clear hA
            have g2 : decide (5 < x) = true := decide_eq_true h3
            go_wp2_with fail
            refine wp_region_later (by kernel_rfl) (by kernel_rfl) ?_
            repeat (go_big_quiet_step (fail))
            refine wpQuiet_later fun w5 q5 => ?_
            go_wp2_with fail
            go_ret
            exact ⟨ret_eq (congrArg Value.bool (nodes_no hlt (HA.out)).symm), hq.tr q5⟩
          · have h4 : x ≤ 5 := by omega
            have g2 : decide (5 < x) = false := decide_eq_false h3
            by_cases h5 : x ≤ y
            · have hA : ndAt l (j + 1) = false := by rw [hA, decide_eq_false (show ¬ (y < x) by omega)]; exact Bool.and_false _
              have HA := Lib.hid hA
              clear hA
              have g4 : decide (x ≤ y) = true := decide_eq_true h5
              go_wp2_with fail
              refine wp_region_later (by kernel_rfl) (by kernel_rfl) ?_
              repeat (go_big_quiet_step (fail))
              refine wpQuiet_later fun w5 q5 => ?_
              go_wp2_with fail
              go_ret
              exact ⟨ret_eq (congrArg Value.bool (nodes_no hlt (HA.out)).symm), hq.tr q5⟩
            · have h6 : y < x := by omega
              have hA : ndAt l (j + 1) = true := by rw [hA, decide_eq_true h6, decide_eq_true (show 1 ≤ x ∧ x ≤ 5 from ⟨h2, h4⟩)]; rfl
              have HA := Lib.hid hA
              clear hA
              have g4 : decide (x ≤ y) = false := decide_eq_false h5
              go_wp2_with fail
              refine wp_region_later (by kernel_rfl) (by kernel_rfl) ?_
              repeat (go_big_quiet_step (fail))
              refine wpQuiet_later fun w5 q5 => ?_
              go_wp2_with fail
              go_roundw
              case rel =>
                refine ⟨j + 1 + 1, by omega, by go_num, fun i hi => ?_, hq.tr q5⟩
                by_cases e : i = j + 1
                · subst e; exact HA.out
                · exact HB.out i (by omega)
              case measure => simp [intOf]; omega
    · obtain rfl : l.length = k := by omega
      go_wp2_with fail
      go_ret
      exact ⟨ret_eq (congrArg Value.bool (nodes_all (fun j hj => HB.out j hj)).symm), hq⟩
set_option maxRecDepth 100000 in
set_option maxHeartbeats 4000000 in
theorem jcfg (w : World) (F : Nat → Prop) (x : CfgM) (hx : CfgIn w F x) (hz : CfgSz x) :
    Calls Tryz.prog 78 #[.agg (cfgA x)] w fun e w' => e = .returned (.bool (cfgOk x.x)) ∧ Nw w w' := by
  have hok : cfgOk x.x = (nodesOk x.v.l && (nodesOk x.o.l && (nodesOk x.l.l && nodesOk x.w.l))) := rfl
  rw [hok]
  clear hok
  obtain ⟨W0, hW0⟩ : ∃ W, W = w.alloc (.cells #[.slice x.v.a x.v.l.length x.v.c, .slice x.o.a x.o.l.length x.o.c, .slice x.l.a x.l.l.length x.l.c, .slice x.w.a x.w.l.length x.w.c] 45) := ⟨_, rfl⟩
  have p0 : Nw w W0 := by rw [hW0]; exact (Fr.refl (fun _ => False) _).alloc _
  have b0 : Blk W0 w.heap.size 45 #[.slice x.v.a x.v.l.length x.v.c, .slice x.o.a x.o.l.length x.o.c, .slice x.l.a x.l.l.length x.l.c, .slice x.w.a x.w.l.length x.w.c] := by rw [hW0]; exact Blk.new _ _ _
  have Q0 : Nw w W0 := p0
  have z1 : ∀ m : Later W0, Calls Tryz.prog 154 #[.slice x.v.a x.v.l.length x.v.c] m.at_ fun e w' => e = .returned (.bool (nodesOk x.v.l)) ∧ Nw m.at_ w' := fun m => by
    have f := Q0.tr m.nw
    exact jnodes _ F _ _ _ (hx.v.nw f).sl (by have := hz.v; omega)
  obtain ⟨d1, e1⟩ : ∃ d, (nodesOk x.v.l) = d := ⟨_, rfl⟩
  simp only [e1] at z1 ⊢
  have z2 : ∀ m : Later W0, Calls Tryz.prog 154 #[.slice x.o.a x.o.l.length x.o.c] m.at_ fun e w' => e = .returned (.bool (nodesOk x.o.l)) ∧ Nw m.at_ w' := fun m => by
    have f := Q0.tr m.nw
    exact jnodes _ F _ _ _ (hx.o.nw f).sl (by have := hz.o; omega)
  obtain ⟨d2, e2⟩ : ∃ d, (nodesOk x.o.l) = d := ⟨_, rfl⟩
  simp only [e2] at z2 ⊢
  have z3 : ∀ m : Later W0, Calls Tryz.prog 154 #[.slice x.l.a x.l.l.length x.l.c] m.at_ fun e w' => e = .returned (.bool (nodesOk x.l.l)) ∧ Nw m.at_ w' := fun m => by
    have f := Q0.tr m.nw
    exact jnodes _ F _ _ _ (hx.l.nw f).sl (by have := hz.l; omega)
  obtain ⟨d3, e3⟩ : ∃ d, (nodesOk x.l.l) = d := ⟨_, rfl⟩
  simp only [e3] at z3 ⊢
  have z4 : ∀ m : Later W0, Calls Tryz.prog 154 #[.slice x.w.a x.w.l.length x.w.c] m.at_ fun e w' => e = .returned (.bool (nodesOk x.w.l)) ∧ Nw m.at_ w' := fun m => by
    have f := Q0.tr m.nw
    exact jnodes _ F _ _ _ (hx.w.nw f).sl (by have := hz.w; omega)
  obtain ⟨d4, e4⟩ : ∃ d, (nodesOk x.w.l) = d := ⟨_, rfl⟩
  simp only [e4] at z4 ⊢
  have hS : ∀ w1, Nw W0 w1 → w1.cell? ⟨w.heap.size, 0, none⟩ = some (.slice x.v.a x.v.l.length x.v.c) ∧ w1.cell? ⟨w.heap.size, 1, none⟩ = some (.slice x.o.a x.o.l.length x.o.c) ∧ w1.cell? ⟨w.heap.size, 2, none⟩ = some (.slice x.l.a x.l.l.length x.l.c) ∧ w1.cell? ⟨w.heap.size, 3, none⟩ = some (.slice x.w.a x.w.l.length x.w.c) := fun w1 f => by
    have a0 := b0.fr f (fun h => h)
    exact ⟨by simpa using a0.cell 0, by simpa using a0.cell 1, by simpa using a0.cell 2, by simpa using a0.cell 3⟩
  have HW0 := Lib.hid hW0
  clear hW0 b0 e1 e2 e3 e4
  cases d1 with
  | false =>
    go_enter Tryz.func78, Tryz.ntmps78
    go_upto_region 1 with (fail)
    rw [← HW0.out]
    obtain ⟨k0_0_0, _, _, _⟩ := hS W0 (Fr.refl _ _)
    go_wp2_with fail
    refine (z1 ⟨_, (Fr.refl (fun _ => False) W0)⟩).mono ?_
    rintro e v1 ⟨rfl, r1⟩
    have Q1 : Nw W0 v1 := (Fr.refl (fun _ => False) W0).tr r1
    go_wp2_with fail
    go_ret
    exact ⟨rfl, Q0.tr Q1⟩
  | true =>
  cases d2 with
  | false =>
    go_enter Tryz.func78, Tryz.ntmps78
    go_upto_region 1 with (fail)
    rw [← HW0.out]
    obtain ⟨k0_0_0, _, _, _⟩ := hS W0 (Fr.refl _ _)
    go_wp2_with fail
    refine (z1 ⟨_, (Fr.refl (fun _ => False) W0)⟩).mono ?_
    rintro e v1 ⟨rfl, r1⟩
    have Q1 : Nw W0 v1 := (Fr.refl (fun _ => False) W0).tr r1
    obtain ⟨_, k1_0_1, _, _⟩ := hS v1 Q1
    go_wp2_with fail
    refine (z2 ⟨_, Q1⟩).mono ?_
    rintro e v2 ⟨rfl, r2⟩
    have Q2 : Nw W0 v2 := Q1.tr r2
    go_wp2_with fail
    go_ret
    exact ⟨rfl, Q0.tr Q2⟩
  | true =>
  cases d3 with
  | false =>
    go_enter Tryz.func78, Tryz.ntmps78
    go_upto_region 1 with (fail)
    rw [← HW0.out]
    obtain ⟨k0_0_0, _, _, _⟩ := hS W0 (Fr.refl _ _)
    go_wp2_with fail
    refine (z1 ⟨_, (Fr.refl (fun _ => False) W0)⟩).mono ?_
    rintro e v1 ⟨rfl, r1⟩
    have Q1 : Nw W0 v1 := (Fr.refl (fun _ => False) W0).tr r1
    obtain ⟨_, k1_0_1, _, _⟩ := hS v1 Q1
    go_wp2_with fail
    refine (z2 ⟨_, Q1⟩).mono ?_
    rintro e v2 ⟨rfl, r2⟩
    have Q2 : Nw W0 v2 := Q1.tr r2
    obtain ⟨_, _, k2_0_2, _⟩ := hS v2 Q2
    go_wp2_with fail
    refine (z3 ⟨_, Q2⟩).mono ?_
    rintro e v3 ⟨rfl, r3⟩
    have Q3 : Nw W0 v3 := Q2.tr r3
    go_wp2_with fail
    go_ret
    exact ⟨rfl, Q0.tr Q3⟩
  | true =>
  cases d4 with
  | false =>
    go_enter Tryz.func78, Tryz.ntmps78
    go_upto_region 1 with (fail)
    rw [← HW0.out]
    obtain ⟨k0_0_0, _, _, _⟩ := hS W0 (Fr.refl _ _)
    go_wp2_with fail
    refine (z1 ⟨_, (Fr.refl (fun _ => False) W0)⟩).mono ?_
    rintro e v1 ⟨rfl, r1⟩
    have Q1 : Nw W0 v1 := (Fr.refl (fun _ => False) W0).tr r1
    obtain ⟨_, k1_0_1, _, _⟩ := hS v1 Q1
    go_wp2_with fail
    refine (z2 ⟨_, Q1⟩).mono ?_
    rintro e v2 ⟨rfl, r2⟩
    have Q2 : Nw W0 v2 := Q1.tr r2
    obtain ⟨_, _, k2_0_2, _⟩ := hS v2 Q2
    go_wp2_with fail
    refine (z3 ⟨_, Q2⟩).mono ?_
    rintro e v3 ⟨rfl, r3⟩
    have Q3 : Nw W0 v3 := Q2.tr r3
    obtain ⟨_, _, _, k3_0_3⟩ := hS v3 Q3
    go_wp2_with fail
    refine (z4 ⟨_, Q3⟩).mono ?_
    rintro e v4 ⟨rfl, r4⟩
    have Q4 : Nw W0 v4 := Q3.tr r4
    go_wp2_with fail
    go_ret
    exact ⟨rfl, Q0.tr Q4⟩
  | true =>
  go_enter Tryz.func78, Tryz.ntmps78
  go_upto_region 1 with (fail)
  rw [← HW0.out]
  obtain ⟨k0_0_0, _, _, _⟩ := hS W0 (Fr.refl _ _)
  go_wp2_with fail
  refine (z1 ⟨_, (Fr.refl (fun _ => False) W0)⟩).mono ?_
  rintro e v1 ⟨rfl, r1⟩
  have Q1 : Nw W0 v1 := (Fr.refl (fun _ => False) W0).tr r1
  obtain ⟨_, k1_0_1, _, _⟩ := hS v1 Q1
  go_wp2_with fail
  refine (z2 ⟨_, Q1⟩).mono ?_
  rintro e v2 ⟨rfl, r2⟩
  have Q2 : Nw W0 v2 := Q1.tr r2
  obtain ⟨_, _, k2_0_2, _⟩ := hS v2 Q2
  go_wp2_with fail
  refine (z3 ⟨_, Q2⟩).mono ?_
  rintro e v3 ⟨rfl, r3⟩
  have Q3 : Nw W0 v3 := Q2.tr r3
  obtain ⟨_, _, _, k3_0_3⟩ := hS v3 Q3
  go_wp2_with fail
  refine (z4 ⟨_, Q3⟩).mono ?_
  rintro e v4 ⟨rfl, r4⟩
  have Q4 : Nw W0 v4 := Q3.tr r4
  go_wp2_with fail
  go_ret
  exact ⟨rfl, Q0.tr Q4⟩
set_option maxRecDepth 100000 in
set_option maxHeartbeats 4000000 in
theorem rcfg (w : World) (F : Nat → Prop) (x : CfgM) (hx : CfgIn w F x) (hz : CfgSz x) :
    Calls Tryz.prog 198 #[.agg (cfgA x)] w fun e w' => e = .returned (.bool (cfgOk x.x)) ∧ Nw w w' := by
  have hok : cfgOk x.x = (nodesOk x.v.l && (nodesOk x.o.l && (nodesOk x.l.l && nodesOk x.w.l))) := rfl
  rw [hok]
  clear hok
  obtain ⟨W0, hW0⟩ : ∃ W, W = w.alloc (.cells #[.slice x.v.a x.v.l.length x.v.c, .slice x.o.a x.o.l.length x.o.c, .slice x.l.a x.l.l.length x.l.c, .slice x.w.a x.w.l.length x.w.c] 45) := ⟨_, rfl⟩
  have p0 : Nw w W0 := by rw [hW0]; exact (Fr.refl (fun _ => False) _).alloc _
  have b0 : Blk W0 w.heap.size 45 #[.slice x.v.a x.v.l.length x.v.c, .slice x.o.a x.o.l.length x.o.c, .slice x.l.a x.l.l.length x.l.c, .slice x.w.a x.w.l.length x.w.c] := by rw [hW0]; exact Blk.new _ _ _
  have Q0 : Nw w W0 := p0
  have z1 : ∀ m : Later W0, Calls Tryz.prog 222 #[.slice x.v.a x.v.l.length x.v.c] m.at_ fun e w' => e = .returned (.bool (nodesOk x.v.l)) ∧ Nw m.at_ w' := fun m => by
    have f := Q0.tr m.nw
    exact rnodes _ F _ _ _ (hx.v.nw f).sl (by have := hz.v; omega)
  obtain ⟨d1, e1⟩ : ∃ d, (nodesOk x.v.l) = d := ⟨_, rfl⟩
  simp only [e1] at z1 ⊢
  have z2 : ∀ m : Later W0, Calls Tryz.prog 222 #[.slice x.o.a x.o.l.length x.o.c] m.at_ fun e w' => e = .returned (.bool (nodesOk x.o.l)) ∧ Nw m.at_ w' := fun m => by
    have f := Q0.tr m.nw
    exact rnodes _ F _ _ _ (hx.o.nw f).sl (by have := hz.o; omega)
  obtain ⟨d2, e2⟩ : ∃ d, (nodesOk x.o.l) = d := ⟨_, rfl⟩
  simp only [e2] at z2 ⊢
  have z3 : ∀ m : Later W0, Calls Tryz.prog 222 #[.slice x.l.a x.l.l.length x.l.c] m.at_ fun e w' => e = .returned (.bool (nodesOk x.l.l)) ∧ Nw m.at_ w' := fun m => by
    have f := Q0.tr m.nw
    exact rnodes _ F _ _ _ (hx.l.nw f).sl (by have := hz.l; omega)
  obtain ⟨d3, e3⟩ : ∃ d, (nodesOk x.l.l) = d := ⟨_, rfl⟩
  simp only [e3] at z3 ⊢
  have z4 : ∀ m : Later W0, Calls Tryz.prog 222 #[.slice x.w.a x.w.l.length x.w.c] m.at_ fun e w' => e = .returned (.bool (nodesOk x.w.l)) ∧ Nw m.at_ w' := fun m => by
    have f := Q0.tr m.nw
    exact rnodes _ F _ _ _ (hx.w.nw f).sl (by have := hz.w; omega)
  obtain ⟨d4, e4⟩ : ∃ d, (nodesOk x.w.l) = d := ⟨_, rfl⟩
  simp only [e4] at z4 ⊢
  have hS : ∀ w1, Nw W0 w1 → w1.cell? ⟨w.heap.size, 0, none⟩ = some (.slice x.v.a x.v.l.length x.v.c) ∧ w1.cell? ⟨w.heap.size, 1, none⟩ = some (.slice x.o.a x.o.l.length x.o.c) ∧ w1.cell? ⟨w.heap.size, 2, none⟩ = some (.slice x.l.a x.l.l.length x.l.c) ∧ w1.cell? ⟨w.heap.size, 3, none⟩ = some (.slice x.w.a x.w.l.length x.w.c) := fun w1 f => by
    have a0 := b0.fr f (fun h => h)
    exact ⟨by simpa using a0.cell 0, by simpa using a0.cell 1, by simpa using a0.cell 2, by simpa using a0.cell 3⟩
  have HW0 := Lib.hid hW0
  clear hW0 b0 e1 e2 e3 e4
  cases d1 with
  | false =>
    go_enter Tryz.func198, Tryz.ntmps198
    go_upto_region 1 with (fail)
    rw [← HW0.out]
    obtain ⟨k0_0_0, _, _, _⟩ := hS W0 (Fr.refl _ _)
    go_wp2_with fail
    refine (z1 ⟨_, (Fr.refl (fun _ => False) W0)⟩).mono ?_
    rintro e v1 ⟨rfl, r1⟩
    have Q1 : Nw W0 v1 := (Fr.refl (fun _ => False) W0).tr r1
    go_wp2_with fail
    go_ret
    exact ⟨rfl, Q0.tr Q1⟩
  | true =>
  cases d2 with
  | false =>
    go_enter Tryz.func198, Tryz.ntmps198
    go_upto_region 1 with (fail)
    rw [← HW0.out]
    obtain ⟨k0_0_0, _, _, _⟩ := hS W0 (Fr.refl _ _)
    go_wp2_with fail
    refine (z1 ⟨_, (Fr.refl (fun _ => False) W0)⟩).mono ?_
    rintro e v1 ⟨rfl, r1⟩
    have Q1 : Nw W0 v1 := (Fr.refl (fun _ => False) W0).tr r1
    obtain ⟨_, k1_0_1, _, _⟩ := hS v1 Q1
    go_wp2_with fail
    refine (z2 ⟨_, Q1⟩).mono ?_
    rintro e v2 ⟨rfl, r2⟩
    have Q2 : Nw W0 v2 := Q1.tr r2
    go_wp2_with fail
    go_ret
    exact ⟨rfl, Q0.tr Q2⟩
  | true =>
  cases d3 with
  | false =>
    go_enter Tryz.func198, Tryz.ntmps198
    go_upto_region 1 with (fail)
    rw [← HW0.out]
    obtain ⟨k0_0_0, _, _, _⟩ := hS W0 (Fr.refl _ _)
    go_wp2_with fail
    refine (z1 ⟨_, (Fr.refl (fun _ => False) W0)⟩).mono ?_
    rintro e v1 ⟨rfl, r1⟩
    have Q1 : Nw W0 v1 := (Fr.refl (fun _ => False) W0).tr r1
    obtain ⟨_, k1_0_1, _, _⟩ := hS v1 Q1
    go_wp2_with fail
    refine (z2 ⟨_, Q1⟩).mono ?_
    rintro e v2 ⟨rfl, r2⟩
    have Q2 : Nw W0 v2 := Q1.tr r2
    obtain ⟨_, _, k2_0_2, _⟩ := hS v2 Q2
    go_wp2_with fail
    refine (z3 ⟨_, Q2⟩).mono ?_
    rintro e v3 ⟨rfl, r3⟩
    have Q3 : Nw W0 v3 := Q2.tr r3
    go_wp2_with fail
    go_ret
    exact ⟨rfl, Q0.tr Q3⟩
  | true =>
  cases d4 with
  | false =>
    go_enter Tryz.func198, Tryz.ntmps198
    go_upto_region 1 with (fail)
    rw [← HW0.out]
    obtain ⟨k0_0_0, _, _, _⟩ := hS W0 (Fr.refl _ _)
    go_wp2_with fail
    refine (z1 ⟨_, (Fr.refl (fun _ => False) W0)⟩).mono ?_
    rintro e v1 ⟨rfl, r1⟩
    have Q1 : Nw W0 v1 := (Fr.refl (fun _ => False) W0).tr r1
    obtain ⟨_, k1_0_1, _, _⟩ := hS v1 Q1
    go_wp2_with fail
    refine (z2 ⟨_, Q1⟩).mono ?_
    rintro e v2 ⟨rfl, r2⟩
    have Q2 : Nw W0 v2 := Q1.tr r2
    obtain ⟨_, _, k2_0_2, _⟩ := hS v2 Q2
    go_wp2_with fail
    refine (z3 ⟨_, Q2⟩).mono ?_
    rintro e v3 ⟨rfl, r3⟩
    have Q3 : Nw W0 v3 := Q2.tr r3
    obtain ⟨_, _, _, k3_0_3⟩ := hS v3 Q3
    go_wp2_with fail
    refine (z4 ⟨_, Q3⟩).mono ?_
    rintro e v4 ⟨rfl, r4⟩
    have Q4 : Nw W0 v4 := Q3.tr r4
    go_wp2_with fail
    go_ret
    exact ⟨rfl, Q0.tr Q4⟩
  | true =>
  go_enter Tryz.func198, Tryz.ntmps198
  go_upto_region 1 with (fail)
  rw [← HW0.out]
  obtain ⟨k0_0_0, _, _, _⟩ := hS W0 (Fr.refl _ _)
  go_wp2_with fail
  refine (z1 ⟨_, (Fr.refl (fun _ => False) W0)⟩).mono ?_
  rintro e v1 ⟨rfl, r1⟩
  have Q1 : Nw W0 v1 := (Fr.refl (fun _ => False) W0).tr r1
  obtain ⟨_, k1_0_1, _, _⟩ := hS v1 Q1
  go_wp2_with fail
  refine (z2 ⟨_, Q1⟩).mono ?_
  rintro e v2 ⟨rfl, r2⟩
  have Q2 : Nw W0 v2 := Q1.tr r2
  obtain ⟨_, _, k2_0_2, _⟩ := hS v2 Q2
  go_wp2_with fail
  refine (z3 ⟨_, Q2⟩).mono ?_
  rintro e v3 ⟨rfl, r3⟩
  have Q3 : Nw W0 v3 := Q2.tr r3
  obtain ⟨_, _, _, k3_0_3⟩ := hS v3 Q3
  go_wp2_with fail
  refine (z4 ⟨_, Q3⟩).mono ?_
  rintro e v4 ⟨rfl, r4⟩
  have Q4 : Nw W0 v4 := Q3.tr r4
  go_wp2_with fail
  go_ret
  exact ⟨rfl, Q0.tr Q4⟩
set_option maxRecDepth 100000 in
theorem jempty (w : World) (F : Nat → Prop) (x : CfgM) (hz : CfgSz x) : Calls Tryz.prog 157 #[.agg (cfgA x)] w fun e w' => e = .returned (.bool (cfgNone x.x)) ∧ Nw w w' := by
  obtain ⟨W0, hW0⟩ : ∃ W, W = w.alloc (.cells (cfgA x) 45) := ⟨_, rfl⟩
  have p0 : Nw w W0 := by rw [hW0]; exact (Fr.refl (fun _ => False) _).alloc _
  have b0 : Blk W0 w.heap.size 45 (cfgA x) := by rw [hW0]; exact Blk.new _ _ _
  have k0 : W0.cell? ⟨w.heap.size, 0, none⟩ = some x.v.v := by simpa using b0.cell 0
  have k1 : W0.cell? ⟨w.heap.size, 1, none⟩ = some x.o.v := by simpa using b0.cell 1
  have k2 : W0.cell? ⟨w.heap.size, 2, none⟩ = some x.l.v := by simpa using b0.cell 2
  have k3 : W0.cell? ⟨w.heap.size, 3, none⟩ = some x.w.v := by simpa using b0.cell 3
  have HW0 := Lib.hid hW0
  obtain ⟨hv, ho, hl, hw⟩ := hz
  have hn : cfgNone x.x = decide (x.v.l.length + x.o.l.length + x.l.l.length + x.w.l.length = 0) := rfl
  rw [hn]
  clear hW0 b0 hn
  have he : ((((x.v.l.length : Nat) : Int) + ((x.o.l.length : Nat) : Int) + ((x.l.l.length : Nat) : Int) + ((x.w.l.length : Nat) : Int)) == 0) = decide (x.v.l.length + x.o.l.length + x.l.l.length + x.w.l.length = 0) := by
    rw [Bool.eq_iff_iff, beq_iff_eq, decide_eq_true_eq]; omega
  have HE := Lib.hid he
  clear he
  go_enter Tryz.func157, Tryz.ntmps157
  go_upto_region 1 with (fail)
  rw [← HW0.out]
  go_wp2_with fail
  go_ret
  exact ⟨ret_eq (congrArg Value.bool HE.out), p0⟩
set_option maxRecDepth 100000 in
theorem rnone (w : World) (F : Nat → Prop) (x : CfgM) (hz : CfgSz x) : Calls Tryz.prog 199 #[.agg (cfgA x)] w fun e w' => e = .returned (.bool (cfgNone x.x)) ∧ Nw w w' := by
  obtain ⟨W0, hW0⟩ : ∃ W, W = w.alloc (.cells (cfgA x) 45) := ⟨_, rfl⟩
  have p0 : Nw w W0 := by rw [hW0]; exact (Fr.refl (fun _ => False) _).alloc _
  have b0 : Blk W0 w.heap.size 45 (cfgA x) := by rw [hW0]; exact Blk.new _ _ _
  have k0 : W0.cell? ⟨w.heap.size, 0, none⟩ = some x.v.v := by simpa using b0.cell 0
  have k1 : W0.cell? ⟨w.heap.size, 1, none⟩ = some x.o.v := by simpa using b0.cell 1
  have k2 : W0.cell? ⟨w.heap.size, 2, none⟩ = some x.l.v := by simpa using b0.cell 2
  have k3 : W0.cell? ⟨w.heap.size, 3, none⟩ = some x.w.v := by simpa using b0.cell 3
  have HW0 := Lib.hid hW0
  obtain ⟨hv, ho, hl, hw⟩ := hz
  have hn : cfgNone x.x = decide (x.v.l.length + x.o.l.length + x.l.l.length + x.w.l.length = 0) := rfl
  rw [hn]
  clear hW0 b0 hn
  have he : ((((x.v.l.length : Nat) : Int) + ((x.o.l.length : Nat) : Int) + ((x.l.l.length : Nat) : Int) + ((x.w.l.length : Nat) : Int)) == 0) = decide (x.v.l.length + x.o.l.length + x.l.l.length + x.w.l.length = 0) := by
    rw [Bool.eq_iff_iff, beq_iff_eq, decide_eq_true_eq]; omega
  have HE := Lib.hid he
  clear he
  go_enter Tryz.func199, Tryz.ntmps199
  go_upto_region 1 with (fail)
  rw [← HW0.out]
  go_wp2_with fail
  go_ret
  exact ⟨ret_eq (congrArg Value.bool HE.out), p0⟩
end Go.Proofs.YtippdjaakcgeoaaGreat
