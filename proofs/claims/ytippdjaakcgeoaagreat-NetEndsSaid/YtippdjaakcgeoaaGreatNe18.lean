/- Lemmas of the walks: OvA, OvB, OvC. (Laid together by shake.py.) -/
import Derived.Test.YtippdjaakcgeoaaGreatNe02
import Derived.Test.YtippdjaakcgeoaaGreatNe05
import Derived.Test.YtippdjaakcgeoaaGreatNe16
import Derived.Test.YtippdjaakcgeoaaGreatNe17
set_option linter.unusedVariables false
set_option linter.unusedSimpArgs false
namespace Go.Proofs.YtippdjaakcgeoaaGreat
open Go Go.RowKit
set_option linter.unusedVariables false
set_option linter.unusedSimpArgs false

theorem putL_other (cs vs : List Value) (o k : Nat) (h : k < o ∨ o + vs.length ≤ k) : (putL cs o vs)[k]? = cs[k]? := by
  induction vs generalizing cs o with
  | nil => rw [putL_nil]
  | cons v vs ih =>
    rw [List.length_cons] at h
    rw [putL_cons, ih (cs.set o v) (o + 1) (by omega), List.getElem?_set_ne (by omega)]
/-- Block g is of kind E and has n cells. -/
abbrev TyT := Nat → TypeId → Nat → Prop
def InT (T : TyT) (k : Nat) : Prop := ∃ E n, T k E n
/-- A list with room for twelve more behind it, or none. -/
def RmV (T : TyT) (E : TypeId) (z : Nat) (A : Option Addr) (n c : Nat) : Prop :=
  (A = none ∧ n = 0 ∧ c = 0) ∨ ∃ g, A = some ⟨g, 0, none⟩ ∧ c = n + 12 ∧ n ≤ 1000000000 ∧ T g E (c * z)
abbrev RmL {α : Type} (T : TyT) (E : TypeId) (z : Nat) (s : Ls α) : Prop := RmV T E z s.a s.l.length s.c
structure CfgRm (T : TyT) (c : CfgM) : Prop where
  v : RmL T 3 1 c.v
  o : RmL T 3 1 c.o
  l : RmL T 3 1 c.l
  w : RmL T 3 1 c.w
structure EntRm (T : TyT) (e : EntM) : Prop where
  cmd : RmL T 5 1 e.cmd
  cfg : CfgRm T e.cfg
structure LetRm (T : TyT) (x : LetM) : Prop where
  ents : RmL T 87 7 x.ents
  cfg : CfgRm T x.base.cfg
  bytes : RmL T 5 1 x.bytes
theorem RmV.none_ (T : TyT) (E : TypeId) (z : Nat) : RmV T E z none 0 0 := .inl ⟨rfl, rfl, rfl⟩
theorem EntRm.mark (T : TyT) (k i : Nat) : EntRm T (mkEn k i) := ⟨RmV.none_ _ _ _, RmV.none_ _ _ _, RmV.none_ _ _ _, RmV.none_ _ _ _, RmV.none_ _ _ _⟩
/-- Each block is of its kind and size; what entries hold has room. -/
structure WH (w : World) (T : TyT) : Prop where
  blk : ∀ g E n, T g E n → ∃ cs, Blk w g E cs ∧ cs.size = n
  ent : ∀ g n, T g 87 n → ∀ j, (j + 1) * 7 ≤ n → ∃ e : EntM, EntRm T e ∧ ∀ i u, (entL e)[i]? = some u → w.cell? ⟨g, j * 7 + i, none⟩ = some u
section
variable {w w' : World} {T : TyT} {S : Nat → Prop} {g n c z : Nat} {E : TypeId} {A : Option Addr}
theorem WH.lt (h : WH w T) {k : Nat} (hk : InT T k) : k < w.heap.size := by
  obtain ⟨E, n, hk⟩ := hk
  obtain ⟨cs, hb, _⟩ := h.blk _ _ _ hk
  exact hb.lt
theorem WH.fr (h : WH w T) (hf : Fr S w w') (hn : ∀ k, InT T k → ¬ S k) : WH w' T := by
  refine ⟨fun g E n ht => ?_, fun g n ht j hj => ?_⟩
  · obtain ⟨cs, hb, h2⟩ := h.blk _ _ _ ht
    exact ⟨cs, hb.fr hf (hn _ ⟨_, _, ht⟩), h2⟩
  · obtain ⟨e, he, hc⟩ := h.ent g n ht j hj
    exact ⟨e, he, fun i u hu => (hf.cell (p := ⟨g, j * 7 + i, none⟩) (h.lt ⟨_, _, ht⟩) (hn _ ⟨_, _, ht⟩)).trans (hc i u hu)⟩
theorem WH.nw (h : WH w T) (hf : Nw w w') : WH w' T := h.fr hf (fun _ _ h => h)
/-- A list with room is the call's own, whatever is in it. -/
theorem WH.own (h : WH w T) (ht : T g E (c * z)) (hc : c ≤ maxLen) : ∃ cs, Own w E z (some ⟨g, 0, none⟩) c c cs := by
  obtain ⟨cs, hb, hs⟩ := h.blk _ _ _ ht
  refine ⟨cs.toList.take (c * z), ?_, .inr ⟨g, cs, rfl, hb, Nat.le_refl _, hc, hs, rfl⟩⟩
  rw [List.length_take, Array.length_toList, hs, Nat.min_self]
/-- Behind cells of a block of numbers, or bytes, turned. -/
theorem WH.turn (h : WH w T) (ht : T g E n) (hE : E ≠ 87) (hf : Fr (· = g) w w') {cs : Array Value} (hb : Blk w' g E cs) (hs : cs.size = n) : WH w' T := by
  refine ⟨fun g' E' n' ht' => ?_, fun g' n' ht' j hj => ?_⟩
  · obtain ⟨cs', hb', hs'⟩ := h.blk _ _ _ ht'
    by_cases e : g' = g
    · subst e
      obtain ⟨cs0, hb0, hs0⟩ := h.blk _ _ _ ht
      obtain ⟨e1, e2⟩ := hb0.inj hb'
      subst e1
      subst e2
      exact ⟨cs, hb, by rw [hs, ← hs0, hs']⟩
    · exact ⟨cs', hb'.fr hf e, hs'⟩
  · have hne : g' ≠ g := by
      rintro rfl
      obtain ⟨cs0, hb0, _⟩ := h.blk _ _ _ ht
      obtain ⟨cs1, hb1, _⟩ := h.blk _ _ _ ht'
      exact hE (hb0.inj hb1).1
    obtain ⟨e, he, hc⟩ := h.ent g' n' ht' j hj
    exact ⟨e, he, fun i u hu => (hf.cell (p := ⟨g', j * 7 + i, none⟩) (h.lt ⟨_, _, ht'⟩) hne).trans (hc i u hu)⟩
theorem Own.full {cs : List Value} (h : Own w E z (some ⟨g, 0, none⟩) c c cs) : ∃ cur, Blk w g E cur ∧ cur.size = c * z := by
  obtain ⟨cur, hb, _, _, hs, _⟩ := h.blk
  exact ⟨cur, hb, hs⟩
/-- Behind an entry put into a block of entries. -/
theorem WH.putEnt (h : WH w T) (ht : T g 87 n) (j : Nat) (hj : (j + 1) * 7 ≤ n) (e : EntM) (he : EntRm T e) : WH (w.setCells g (j * 7) (entL e)) T := by
  obtain ⟨cs, hb, hs⟩ := h.blk _ _ _ ht
  have hb2 := Blk.setCells (l := cs.toList) hb (j * 7) (entL e)
  have hf := (Fr.refl (· = g) w).setCells (j * 7) (entL e)
  have hl : cs.toList.length = n := by rw [Array.length_toList, hs]
  refine ⟨fun g' E' n' ht' => ?_, fun g' n' ht' i hi => ?_⟩
  · obtain ⟨cs', hb', hs'⟩ := h.blk _ _ _ ht'
    by_cases e' : g' = g
    · subst e'
      obtain ⟨e1, e2⟩ := hb.inj hb'
      subst e1
      subst e2
      exact ⟨_, hb2, by rw [List.size_toArray, putL_len, hl, ← hs, hs']⟩
    · exact ⟨cs', hb'.fr hf e', hs'⟩
  · by_cases e' : g' = g
    · subst e'
      by_cases hij : i = j
      · subst hij
        refine ⟨e, he, fun k u hu => ?_⟩
        have hk : k < 7 := by
          have := (List.getElem?_eq_some_iff.1 hu).1
          exact this
        have hsp : cs.toList = cs.toList.take (i * 7) ++ ((cs.toList.drop (i * 7)).take 7) ++ cs.toList.drop (i * 7 + 7) := by
          rw [List.append_assoc, ← List.drop_drop (i := 7) (j := i * 7), List.take_append_drop, List.take_append_drop]
        have e3 := putL_mid (cs.toList.take (i * 7)) ((cs.toList.drop (i * 7)).take 7) (entL e) (cs.toList.drop (i * 7 + 7)) (by rw [List.length_take, List.length_drop, hl]; show min 7 (n - i * 7) = 7; omega)
        rw [← hsp, List.length_take, hl, Nat.min_eq_left (by omega)] at e3
        rw [hb2.cell, e3, List.getElem?_toArray, List.append_assoc, List.getElem?_append_right (by rw [List.length_take]; omega), List.length_take, hl, Nat.min_eq_left (by omega), Nat.add_sub_cancel_left, List.getElem?_append_left hk]
        exact hu
      · obtain ⟨e0, he0, hc⟩ := h.ent g' n' ht' i hi
        refine ⟨e0, he0, fun k u hu => ?_⟩
        have hk : k < 7 := (List.getElem?_eq_some_iff.1 hu).1
        have h1 := hc k u hu
        rw [hb.cell] at h1
        rw [hb2.cell, List.getElem?_toArray, putL_other _ _ _ _ (by show i * 7 + k < j * 7 ∨ j * 7 + 7 ≤ i * 7 + k; omega), Array.getElem?_toList]
        exact h1
    · obtain ⟨e0, he0, hc⟩ := h.ent g' n' ht' i hi
      exact ⟨e0, he0, fun k u hu => (hf.cell (p := ⟨g', i * 7 + k, none⟩) (h.lt ⟨_, _, ht'⟩) e').trans (hc k u hu)⟩
end
end Go.Proofs.YtippdjaakcgeoaaGreat

namespace Go.Proofs.YtippdjaakcgeoaaGreat
open Go Go.RowKit
set_option linter.unusedVariables false
set_option linter.unusedSimpArgs false
theorem inT_eq {T : TyT} {g k n : Nat} {E : TypeId} (ht : T g E n) (e : k = g) : InT T k := by
  subst e
  exact ⟨E, n, ht⟩

def ovIntsR (w : World) (g n : Nat) (i : Value) (wr : World) : Prop := ∃ (k : Nat) (zs : List Value), k ≤ n + 12 ∧ i = .int .i64 k ∧ Own wr 3 1 (some ⟨g, 0, none⟩) (n + 12) (n + 12) zs ∧ Fr (· = g) w wr
set_option maxRecDepth 100000 in
theorem ovInts_own (w : World) (g n : Nat) (zs : List Value) (h1 : Own w 3 1 (some ⟨g, 0, none⟩) (n + 12) (n + 12) zs) (hsz : n ≤ 1000000000) :
    Calls Tryz.prog 227 #[.slice (some ⟨g, 0, none⟩) n (n + 12)] w fun e w' => e = .returned (.tuple #[]) ∧ (∃ cs, Own w' 3 1 (some ⟨g, 0, none⟩) (n + 12) (n + 12) cs) ∧ Fr (· = g) w w' := by
  have hs := slice_h (P := Tryz.prog) 41 under_ints 1 size_ints (some ⟨g, 0, none⟩) n (n + 12) (n + 12) (Nat.le_refl _)
  go_enter Tryz.func227, Tryz.ntmps227
  go_wp2_with fail
  go_wp2_with fail
  go_loopw [3] (fun i wr => ovIntsR w g n i wr) (fun i _ => n + 12 - (intOf i).toNat)
  case atStart => exact ⟨0, _, by omega, rfl, h1, Fr.refl _ _⟩
  case round =>
    obtain ⟨k, zs, hk, rfl, ho, hf⟩ := hrel
    by_cases hlt : k < n + 12
    · obtain ⟨u, hc1⟩ : ∃ u, wr.cell? ⟨g, k, none⟩ = some u := by
        have hzl := ho.1
        exact ⟨_, (ho.cellAt (k := k) (by omega)).trans (List.getElem?_eq_getElem (by omega))⟩
      have hf1 := ho.frozenAt k
      have hi0 : (k : Int) < (n : Int) + 12 := by omega
      go_wp2_with (go_at_call 136; refine (markI_any _ 2 k (by omega) (by omega)).mono ?_; rintro e w3 ⟨rfl, rfl⟩)
      go_roundw
      case rel => exact ⟨k + 1, _, by omega, by go_num, by simpa using ho.store k _, hf.setCell (p := ⟨g, k, none⟩) (.inl rfl) _⟩
      case measure => simp [intOf]; omega
    · go_wp2_with fail
      go_end0
      exact ⟨rfl, ⟨_, ho⟩, hf⟩
set_option maxRecDepth 100000 in
theorem ovInts_nil (w : World) : Calls Tryz.prog 227 #[.slice none 0 0] w fun e w' => e = .returned (.tuple #[]) ∧ Nw w w' := by
  have hs := slice_h (P := Tryz.prog) 41 under_ints 1 size_ints none 0 0 0 (Nat.le_refl _)
  go_enter Tryz.func227, Tryz.ntmps227
  go_wp2_with fail
  go_loopw [3] (fun i wr => i = .int .i64 0 ∧ Nw w wr) (fun i _ => 0)
  case atStart => exact ⟨rfl, Fr.refl _ _⟩
  case round =>
    obtain ⟨rfl, hq⟩ := hrel
    go_wp2_with fail
    go_end0
    exact ⟨rfl, hq⟩
theorem ovInts_any (w : World) (T : TyT) (A : Option Addr) (n c : Nat) (h : RmV T 3 1 A n c) (hw : WH w T) :
    Calls Tryz.prog 227 #[.slice A n c] w fun e w' => e = .returned (.tuple #[]) ∧ WH w' T ∧ Fr (InT T) w w' := by
  rcases h with ⟨rfl, rfl, rfl⟩ | ⟨g, rfl, rfl, hn, ht⟩
  · exact (ovInts_nil w).mono fun e w' h => ⟨h.1, hw.nw h.2, Nw.on h.2⟩
  · obtain ⟨cs, ho⟩ := hw.own ht (by unfold maxLen; omega)
    refine (ovInts_own w g n cs ho hn).mono fun e w' h => ?_
    obtain ⟨h1, ⟨cs2, h2⟩, h3⟩ := h
    obtain ⟨cur, hb, hs⟩ := h2.full
    exact ⟨h1, hw.turn ht (by decide) h3 hb hs, h3.mono fun k hk => .inl (inT_eq ht hk)⟩

def ovBytesR (w : World) (g n : Nat) (i : Value) (wr : World) : Prop := ∃ (k : Nat) (zs : List Value), k ≤ n + 12 ∧ i = .int .i64 k ∧ Own wr 5 1 (some ⟨g, 0, none⟩) (n + 12) (n + 12) zs ∧ Fr (· = g) w wr
set_option maxRecDepth 100000 in
theorem ovBytes_own (w : World) (g n : Nat) (zs : List Value) (h1 : Own w 5 1 (some ⟨g, 0, none⟩) (n + 12) (n + 12) zs) (hsz : n ≤ 1000000000) :
    Calls Tryz.prog 178 #[.slice (some ⟨g, 0, none⟩) n (n + 12)] w fun e w' => e = .returned (.tuple #[]) ∧ (∃ cs, Own w' 5 1 (some ⟨g, 0, none⟩) (n + 12) (n + 12) cs) ∧ Fr (· = g) w w' := by
  have hs := slice_h (P := Tryz.prog) 48 under_bytes 1 size_bytes (some ⟨g, 0, none⟩) n (n + 12) (n + 12) (Nat.le_refl _)
  go_enter Tryz.func178, Tryz.ntmps178
  go_wp2_with fail
  go_wp2_with fail
  go_loopw [3] (fun i wr => ovBytesR w g n i wr) (fun i _ => n + 12 - (intOf i).toNat)
  case atStart => exact ⟨0, _, by omega, rfl, h1, Fr.refl _ _⟩
  case round =>
    obtain ⟨k, zs, hk, rfl, ho, hf⟩ := hrel
    by_cases hlt : k < n + 12
    · obtain ⟨u, hc1⟩ : ∃ u, wr.cell? ⟨g, k, none⟩ = some u := by
        have hzl := ho.1
        exact ⟨_, (ho.cellAt (k := k) (by omega)).trans (List.getElem?_eq_getElem (by omega))⟩
      have hf1 := ho.frozenAt k
      have hi0 : (k : Int) < (n : Int) + 12 := by omega
      go_wp2_with (go_at_call 93; refine (markByte_any _ _ _ (by omega) (by omega) (by omega) (by omega)).mono ?_; rintro e w3 ⟨rfl, rfl⟩)
      go_roundw
      case rel => exact ⟨k + 1, _, by omega, by go_num, by simpa using ho.store k _, hf.setCell (p := ⟨g, k, none⟩) (.inl rfl) _⟩
      case measure => simp [intOf]; omega
    · go_wp2_with fail
      go_end0
      exact ⟨rfl, ⟨_, ho⟩, hf⟩
set_option maxRecDepth 100000 in
theorem ovBytes_nil (w : World) : Calls Tryz.prog 178 #[.slice none 0 0] w fun e w' => e = .returned (.tuple #[]) ∧ Nw w w' := by
  have hs := slice_h (P := Tryz.prog) 48 under_bytes 1 size_bytes none 0 0 0 (Nat.le_refl _)
  go_enter Tryz.func178, Tryz.ntmps178
  go_wp2_with fail
  go_loopw [3] (fun i wr => i = .int .i64 0 ∧ Nw w wr) (fun i _ => 0)
  case atStart => exact ⟨rfl, Fr.refl _ _⟩
  case round =>
    obtain ⟨rfl, hq⟩ := hrel
    go_wp2_with fail
    go_end0
    exact ⟨rfl, hq⟩
theorem ovBytes_any (w : World) (T : TyT) (A : Option Addr) (n c : Nat) (h : RmV T 5 1 A n c) (hw : WH w T) :
    Calls Tryz.prog 178 #[.slice A n c] w fun e w' => e = .returned (.tuple #[]) ∧ WH w' T ∧ Fr (InT T) w w' := by
  rcases h with ⟨rfl, rfl, rfl⟩ | ⟨g, rfl, rfl, hn, ht⟩
  · exact (ovBytes_nil w).mono fun e w' h => ⟨h.1, hw.nw h.2, Nw.on h.2⟩
  · obtain ⟨cs, ho⟩ := hw.own ht (by unfold maxLen; omega)
    refine (ovBytes_own w g n cs ho hn).mono fun e w' h => ?_
    obtain ⟨h1, ⟨cs2, h2⟩, h3⟩ := h
    obtain ⟨cur, hb, hs⟩ := h2.full
    exact ⟨h1, hw.turn ht (by decide) h3 hb hs, h3.mono fun k hk => .inl (inT_eq ht hk)⟩

set_option maxRecDepth 100000 in
set_option maxHeartbeats 4000000 in
theorem ovCfg_any (w : World) (T : TyT) (x : CfgM) (hx : CfgRm T x) (hw : WH w T) :
    Calls Tryz.prog 216 #[.agg (cfgA x)] w fun e w' => e = .returned (.tuple #[]) ∧ WH w' T ∧ Fr (InT T) w w' := by
  obtain ⟨D, hD⟩ : ∃ D, D = w.heap.size := ⟨_, rfl⟩
  obtain ⟨W0, hW0⟩ : ∃ W, W = w.alloc (.cells #[.slice x.v.a x.v.l.length x.v.c, .slice x.o.a x.o.l.length x.o.c, .slice x.l.a x.l.l.length x.l.c, .slice x.w.a x.w.l.length x.w.c] 45) := ⟨_, rfl⟩
  have p0 : Nw w W0 := by rw [hW0]; exact (Fr.refl (fun _ => False) _).alloc _
  have y0 : Blk W0 D 45 #[.slice x.v.a x.v.l.length x.v.c, .slice x.o.a x.o.l.length x.o.c, .slice x.l.a x.l.l.length x.l.c, .slice x.w.a x.w.l.length x.w.c] := by rw [hW0, hD]; exact Blk.new _ _ _
  have hDT : ¬ InT T D := fun hh => by have := hw.lt hh; omega
  have hw0 := hw.nw p0
  have hk : ∀ w1, Fr (InT T) W0 w1 → Blk w1 D 45 #[.slice x.v.a x.v.l.length x.v.c, .slice x.o.a x.o.l.length x.o.c, .slice x.l.a x.l.l.length x.l.c, .slice x.w.a x.w.l.length x.w.c] := fun w1 f => y0.fr f hDT
  have HK := Lib.hid hk
  have HD := Lib.hid hD
  have HW0 := Lib.hid hW0
  have f0 : Fr (InT T) W0 W0 := Fr.refl _ _
  clear hk hD hW0
  go_enter Tryz.func216, Tryz.ntmps216
  go_upto_region 1 with (fail)
  rw [← HD.out, ← HW0.out]
  have b0 := HK.out _ f0
  have c0 : W0.cell? ⟨D, 0, none⟩ = some (.slice x.v.a x.v.l.length x.v.c) := by simpa using b0.cell 0
  go_upto_region 2 with (go_at_call 227; refine (ovInts_any W0 T _ _ _ hx.v hw0).mono ?_; rintro e w1 ⟨rfl, hw1, g1⟩)
  have f1 := f0.tr g1
  clear b0
  have b1 := HK.out _ f1
  have c1 : w1.cell? ⟨D, 1, none⟩ = some (.slice x.o.a x.o.l.length x.o.c) := by simpa using b1.cell 1
  go_upto_region 3 with (go_at_call 227; refine (ovInts_any w1 T _ _ _ hx.o hw1).mono ?_; rintro e w2 ⟨rfl, hw2, g2⟩)
  have f2 := f1.tr g2
  clear b1
  have b2 := HK.out _ f2
  have c2 : w2.cell? ⟨D, 2, none⟩ = some (.slice x.l.a x.l.l.length x.l.c) := by simpa using b2.cell 2
  go_upto_region 4 with (go_at_call 227; refine (ovInts_any w2 T _ _ _ hx.l hw2).mono ?_; rintro e w3 ⟨rfl, hw3, g3⟩)
  have f3 := f2.tr g3
  clear b2
  have b3 := HK.out _ f3
  have c3 : w3.cell? ⟨D, 3, none⟩ = some (.slice x.w.a x.w.l.length x.w.c) := by simpa using b3.cell 3
  go_wp2_with (go_at_call 227; refine (ovInts_any w3 T _ _ _ hx.w hw3).mono ?_; rintro e w4 ⟨rfl, hw4, g4⟩)
  go_end0
  exact ⟨rfl, hw4, (Nw.on p0).tr (f3.tr g4)⟩

set_option maxRecDepth 100000 in
set_option maxHeartbeats 4000000 in
theorem ovEnt_any (w : World) (T : TyT) (x : EntM) (hx : EntRm T x) (hw : WH w T) :
    Calls Tryz.prog 215 #[.agg (entA x)] w fun e w' => e = .returned (.tuple #[]) ∧ WH w' T ∧ Fr (InT T) w w' := by
  obtain ⟨D, hD⟩ : ∃ D, D = w.heap.size := ⟨_, rfl⟩
  obtain ⟨W0, hW0⟩ : ∃ W, W = w.alloc (.cells #[I64 x.term, U8V x.kind, .slice x.cmd.a x.cmd.l.length x.cmd.c, .slice x.cfg.v.a x.cfg.v.l.length x.cfg.v.c, .slice x.cfg.o.a x.cfg.o.l.length x.cfg.o.c, .slice x.cfg.l.a x.cfg.l.l.length x.cfg.l.c, .slice x.cfg.w.a x.cfg.w.l.length x.cfg.w.c] 87) := ⟨_, rfl⟩
  have p0 : Nw w W0 := by rw [hW0]; exact (Fr.refl (fun _ => False) _).alloc _
  have y0 : Blk W0 D 87 #[I64 x.term, U8V x.kind, .slice x.cmd.a x.cmd.l.length x.cmd.c, .slice x.cfg.v.a x.cfg.v.l.length x.cfg.v.c, .slice x.cfg.o.a x.cfg.o.l.length x.cfg.o.c, .slice x.cfg.l.a x.cfg.l.l.length x.cfg.l.c, .slice x.cfg.w.a x.cfg.w.l.length x.cfg.w.c] := by rw [hW0, hD]; exact Blk.new _ _ _
  have hDT : ¬ InT T D := fun hh => by have := hw.lt hh; omega
  have hw0 := hw.nw p0
  have hk : ∀ w1, Fr (InT T) W0 w1 → Blk w1 D 87 #[I64 x.term, U8V x.kind, .slice x.cmd.a x.cmd.l.length x.cmd.c, .slice x.cfg.v.a x.cfg.v.l.length x.cfg.v.c, .slice x.cfg.o.a x.cfg.o.l.length x.cfg.o.c, .slice x.cfg.l.a x.cfg.l.l.length x.cfg.l.c, .slice x.cfg.w.a x.cfg.w.l.length x.cfg.w.c] := fun w1 f => y0.fr f hDT
  have HK := Lib.hid hk
  have HD := Lib.hid hD
  have HW0 := Lib.hid hW0
  have f0 : Fr (InT T) W0 W0 := Fr.refl _ _
  clear hk hD hW0
  go_enter Tryz.func215, Tryz.ntmps215
  go_upto_region 1 with (fail)
  rw [← HD.out, ← HW0.out]
  have b0 := HK.out _ f0
  have c2 : W0.cell? ⟨D, 2, none⟩ = some (.slice x.cmd.a x.cmd.l.length x.cmd.c) := by simpa using b0.cell 2
  go_upto_region 2 with (go_at_call 178; refine (ovBytes_any W0 T _ _ _ hx.cmd hw0).mono ?_; rintro e w1 ⟨rfl, hw1, g1⟩)
  have f1 := f0.tr g1
  clear b0
  have b1 := HK.out _ f1
  have k4 : ∀ p u, ([.slice x.cfg.v.a x.cfg.v.l.length x.cfg.v.c, .slice x.cfg.o.a x.cfg.o.l.length x.cfg.o.c, .slice x.cfg.l.a x.cfg.l.l.length x.cfg.l.c, .slice x.cfg.w.a x.cfg.w.l.length x.cfg.w.c] : List Value)[p]? = some u → w1.cell? ⟨D, 3 + p, none⟩ = some u := Blk.cells_in (l := [I64 x.term, U8V x.kind, .slice x.cmd.a x.cmd.l.length x.cmd.c, .slice x.cfg.v.a x.cfg.v.l.length x.cfg.v.c, .slice x.cfg.o.a x.cfg.o.l.length x.cfg.o.c, .slice x.cfg.l.a x.cfg.l.l.length x.cfg.l.c, .slice x.cfg.w.a x.cfg.w.l.length x.cfg.w.c]) b1 3 4
  go_wp2_with (first | (refine wl_load_cells rfl 45 _ rfl D 3 rfl _ _ k4 Tryz.underlying45 rfl (by kernel_rfl) ?_) | (go_at_call 216; refine (ovCfg_any w1 T x.cfg hx.cfg hw1).mono ?_; rintro e w2 ⟨rfl, hw2, g2⟩))
  go_end0
  exact ⟨rfl, hw2, (Nw.on p0).tr (f1.tr g2)⟩

set_option maxRecDepth 100000 in
set_option maxHeartbeats 4000000 in
theorem ovBas_any (w : World) (T : TyT) (x : BasM) (hx : CfgRm T x.cfg) (hw : WH w T) :
    Calls Tryz.prog 177 #[.agg (basA x)] w fun e w' => e = .returned (.tuple #[]) ∧ WH w' T ∧ Fr (InT T) w w' := by
  obtain ⟨D, hD⟩ : ∃ D, D = w.heap.size := ⟨_, rfl⟩
  obtain ⟨W0, hW0⟩ : ∃ W, W = w.alloc (.cells #[I64 x.index, I64 x.term, .slice x.cfg.v.a x.cfg.v.l.length x.cfg.v.c, .slice x.cfg.o.a x.cfg.o.l.length x.cfg.o.c, .slice x.cfg.l.a x.cfg.l.l.length x.cfg.l.c, .slice x.cfg.w.a x.cfg.w.l.length x.cfg.w.c] 47) := ⟨_, rfl⟩
  have p0 : Nw w W0 := by rw [hW0]; exact (Fr.refl (fun _ => False) _).alloc _
  have y0 : Blk W0 D 47 #[I64 x.index, I64 x.term, .slice x.cfg.v.a x.cfg.v.l.length x.cfg.v.c, .slice x.cfg.o.a x.cfg.o.l.length x.cfg.o.c, .slice x.cfg.l.a x.cfg.l.l.length x.cfg.l.c, .slice x.cfg.w.a x.cfg.w.l.length x.cfg.w.c] := by rw [hW0, hD]; exact Blk.new _ _ _
  have hDT : ¬ InT T D := fun hh => by have := hw.lt hh; omega
  have hw0 := hw.nw p0
  have hk : ∀ w1, Fr (InT T) W0 w1 → Blk w1 D 47 #[I64 x.index, I64 x.term, .slice x.cfg.v.a x.cfg.v.l.length x.cfg.v.c, .slice x.cfg.o.a x.cfg.o.l.length x.cfg.o.c, .slice x.cfg.l.a x.cfg.l.l.length x.cfg.l.c, .slice x.cfg.w.a x.cfg.w.l.length x.cfg.w.c] := fun w1 f => y0.fr f hDT
  have HK := Lib.hid hk
  have HD := Lib.hid hD
  have HW0 := Lib.hid hW0
  have f0 : Fr (InT T) W0 W0 := Fr.refl _ _
  clear hk hD hW0
  go_enter Tryz.func177, Tryz.ntmps177
  go_upto_region 1 with (fail)
  rw [← HD.out, ← HW0.out]
  have b0 := HK.out _ f0
  have k4 : ∀ p u, ([.slice x.cfg.v.a x.cfg.v.l.length x.cfg.v.c, .slice x.cfg.o.a x.cfg.o.l.length x.cfg.o.c, .slice x.cfg.l.a x.cfg.l.l.length x.cfg.l.c, .slice x.cfg.w.a x.cfg.w.l.length x.cfg.w.c] : List Value)[p]? = some u → W0.cell? ⟨D, 2 + p, none⟩ = some u := Blk.cells_in (l := [I64 x.index, I64 x.term, .slice x.cfg.v.a x.cfg.v.l.length x.cfg.v.c, .slice x.cfg.o.a x.cfg.o.l.length x.cfg.o.c, .slice x.cfg.l.a x.cfg.l.l.length x.cfg.l.c, .slice x.cfg.w.a x.cfg.w.l.length x.cfg.w.c]) b0 2 4
  go_wp2_with (first | (refine wl_load_cells rfl 45 _ rfl D 2 rfl _ _ k4 Tryz.underlying45 rfl (by kernel_rfl) ?_) | (go_at_call 216; refine (ovCfg_any W0 T x.cfg hx hw0).mono ?_; rintro e w1 ⟨rfl, hw1, g1⟩))
  go_end0
  exact ⟨rfl, hw1, (Nw.on p0).tr (f0.tr g1)⟩

set_option maxRecDepth 100000 in
set_option maxHeartbeats 4000000 in
theorem ovEnts_nil (w : World) : Calls Tryz.prog 176 #[.slice none 0 0] w fun e w' => e = .returned (.tuple #[]) ∧ Nw w w' := by
  have hs := slice_h (P := Tryz.prog) 43 under_ents 7 size_ents none 0 0 0 (Nat.le_refl _)
  go_enter Tryz.func176, Tryz.ntmps176
  go_wp2_with fail
  go_loopw [2] (fun i wr => i = .int .i64 0 ∧ Nw w wr) (fun i _ => 0)
  case atStart => exact ⟨rfl, Fr.refl _ _⟩
  case round =>
    obtain ⟨rfl, hq⟩ := hrel
    go_wp2_with fail
    go_loopw [4] (fun i wr => i = .int .i64 0 ∧ Nw w wr) (fun i _ => 0)
    case atStart => exact ⟨rfl, hq⟩
    case round =>
      obtain ⟨rfl, hq2⟩ := hrel
      go_wp2_with fail
      go_end0
      exact ⟨rfl, hq2⟩
set_option maxRecDepth 100000 in
set_option maxHeartbeats 8000000 in
theorem ovEnts_own (w : World) (T : TyT) (g n : Nat) (hn : n ≤ 1000000000) (ht : T g 87 ((n + 12) * 7)) (hw : WH w T) :
    Calls Tryz.prog 176 #[.slice (some ⟨g, 0, none⟩) n (n + 12)] w fun e w' => e = .returned (.tuple #[]) ∧ WH w' T ∧ Fr (InT T) w w' := by
  have hs := slice_h (P := Tryz.prog) 43 under_ents 7 size_ents (some ⟨g, 0, none⟩) n (n + 12) (n + 12) (Nat.le_refl _)
  go_enter Tryz.func176, Tryz.ntmps176
  go_wp2_with fail
  go_loopw [2] (fun i wr => ∃ k : Nat, k ≤ n ∧ i = .int .i64 (k : Nat) ∧ WH wr T ∧ Fr (InT T) w wr) (fun i _ => n - (intOf i).toNat)
  case atStart => exact ⟨0, Nat.zero_le _, rfl, hw, Fr.refl _ _⟩
  case round =>
    obtain ⟨k, hk, rfl, hh, hf⟩ := hrel
    by_cases hlt : k < n
    · have hi0 : (k : Int) < (n : Int) := by omega
      obtain ⟨e, he, hc⟩ := hh.ent g _ ht k (by omega)
      have hov := ovEnt_any wr T e he hh
      go_wp2_with (first | (refine wl_load_cells rfl 87 _ rfl g (k * 7) rfl (entL e) _ hc Tryz.underlying87 rfl (by kernel_rfl) ?_) | (go_at_call 215; refine hov.mono ?_; rintro e9 w1 ⟨rfl, hw1, f1⟩))
      go_roundw
      case rel => exact ⟨k + 1, hlt, by go_num, hw1, hf.tr f1⟩
      case measure => simp [intOf]; omega
    · obtain ⟨w0, hw0⟩ : ∃ w0, w0 = wr := ⟨_, rfl⟩
      rw [← hw0] at hh hf ⊢
      clear hw0
      obtain rfl : n = k := by omega
      go_wp2_with fail
      go_loopw [4] (fun i wr => ∃ k : Nat, k ≤ n + 12 ∧ i = .int .i64 (k : Nat) ∧ WH wr T ∧ Fr (InT T) w wr) (fun i _ => n + 12 - (intOf i).toNat)
      case atStart => exact ⟨0, Nat.zero_le _, rfl, hh, hf⟩
      case round =>
        clear hh hf
        obtain ⟨k, hk, rfl, hh, hf⟩ := hrel
        by_cases hlt2 : k < n + 12
        · have hi0 : (k : Int) < (n : Int) + 12 := by omega
          obtain ⟨cs, hb, hs2⟩ := hh.blk _ _ _ ht
          have hmk := markEntry_any wr 2 k (by omega) (by omega)
          have hone := entA_one (mkEn 2 k)
          have hth : ∀ w9, Nw wr w9 → w9.there g (k * 7) 7 := fun w9 q9 => Blk.there (l := cs.toList) (hb.fr q9 (fun h => h)) (k * 7) 7 (by rw [Array.length_toList, hs2]; omega)
          have hst : ∀ w9, Nw wr w9 → WH (w9.setCells g (k * 7) (entL (mkEn 2 k))) T ∧ Fr (InT T) w (w9.setCells g (k * 7) (entL (mkEn 2 k))) := fun w9 q9 =>
            ⟨(hh.nw q9).putEnt ht k (by omega) (mkEn 2 k) (EntRm.mark T 2 k), (hf.tr (Nw.on q9)).tr (((Fr.refl (· = g) w9).setCells _ _).mono fun j hj => .inl (inT_eq ht hj))⟩
          have HST := Lib.hid hst
          have HTH := Lib.hid hth
          clear hst hth hb
          obtain ⟨M, hM⟩ : ∃ M, M = mkI 2 k := ⟨_, rfl⟩
          have hme : entA (mkEn 2 k) = #[I64 M, U8V 0, .slice none 0 0, .slice none 0 0, .slice none 0 0, .slice none 0 0, .slice none 0 0] := by rw [hM]; rfl
          have hml : entL (mkEn 2 k) = [I64 M, U8V 0, .slice none 0 0, .slice none 0 0, .slice none 0 0, .slice none 0 0, .slice none 0 0] := by rw [hM]; rfl
          rw [hme] at hmk hone
          have HML := Lib.hid hml
          clear hM hme hml
          go_wp2_with (first | (go_at_call 138; refine hmk.mono ?_; rintro e9 w1 ⟨rfl, q1⟩; have hth1 := HTH.out w1 q1; obtain ⟨w2, hw2⟩ : ∃ w2, w2 = w1.setCells g (k * 7) [I64 M, U8V 0, .slice none 0 0, .slice none 0 0, .slice none 0 0, .slice none 0 0, .slice none 0 0] := ⟨_, rfl⟩; have HW2 := Lib.hid hw2; clear hw2) | (refine wpList_store_mid rfl 87 _ _ rfl g (k * 7) #[I64 M, U8V 0, .slice none 0 0, .slice none 0 0, .slice none 0 0, .slice none 0 0, .slice none 0 0] rfl rfl hth1 (by kernel_rfl) hone ?_; rw [← HW2.out]))
          go_roundw
          case rel =>
            have h8 := HST.out w1 q1
            rw [HML.out, ← HW2.out] at h8
            exact ⟨k + 1, hlt2, by go_num, h8.1, h8.2⟩
          case measure => simp [intOf]; omega
        · go_wp2_with fail
          go_end0
          exact ⟨rfl, hh, hf⟩
theorem ovEnts_any (w : World) (T : TyT) (A : Option Addr) (n c : Nat) (h : RmV T 87 7 A n c) (hw : WH w T) :
    Calls Tryz.prog 176 #[.slice A n c] w fun e w' => e = .returned (.tuple #[]) ∧ WH w' T ∧ Fr (InT T) w w' := by
  rcases h with ⟨rfl, rfl, rfl⟩ | ⟨g, rfl, rfl, hn, ht⟩
  · exact (ovEnts_nil w).mono fun e w' h => ⟨h.1, hw.nw h.2, Nw.on h.2⟩
  · exact ovEnts_own w T g n hn ht hw

set_option maxRecDepth 100000 in
set_option maxHeartbeats 4000000 in
theorem ovLet_any (w : World) (T : TyT) (x : LetM) (hx : LetRm T x) (hw : WH w T) :
    Calls Tryz.prog 107 #[.agg (letA x)] w fun e w' => e = .returned (.tuple #[]) ∧ WH w' T ∧ Fr (InT T) w w' := by
  obtain ⟨D, hD⟩ : ∃ D, D = w.heap.size := ⟨_, rfl⟩
  obtain ⟨W0, hW0⟩ : ∃ W, W = w.alloc (.cells #[U8V x.kind, I64 x.group, I64 x.src, I64 x.dst, I64 x.term, I64 x.index, I64 x.logt, I64 x.commit, .bool x.ok, .slice x.ents.a x.ents.l.length x.ents.c, I64 x.base.index, I64 x.base.term, .slice x.base.cfg.v.a x.base.cfg.v.l.length x.base.cfg.v.c, .slice x.base.cfg.o.a x.base.cfg.o.l.length x.base.cfg.o.c, .slice x.base.cfg.l.a x.base.cfg.l.l.length x.base.cfg.l.c, .slice x.base.cfg.w.a x.base.cfg.w.l.length x.base.cfg.w.c, I64 x.size, I64 x.at_, I64 x.tag, .slice x.bytes.a x.bytes.l.length x.bytes.c] 50) := ⟨_, rfl⟩
  have p0 : Nw w W0 := by rw [hW0]; exact (Fr.refl (fun _ => False) _).alloc _
  have y0 : Blk W0 D 50 #[U8V x.kind, I64 x.group, I64 x.src, I64 x.dst, I64 x.term, I64 x.index, I64 x.logt, I64 x.commit, .bool x.ok, .slice x.ents.a x.ents.l.length x.ents.c, I64 x.base.index, I64 x.base.term, .slice x.base.cfg.v.a x.base.cfg.v.l.length x.base.cfg.v.c, .slice x.base.cfg.o.a x.base.cfg.o.l.length x.base.cfg.o.c, .slice x.base.cfg.l.a x.base.cfg.l.l.length x.base.cfg.l.c, .slice x.base.cfg.w.a x.base.cfg.w.l.length x.base.cfg.w.c, I64 x.size, I64 x.at_, I64 x.tag, .slice x.bytes.a x.bytes.l.length x.bytes.c] := by rw [hW0, hD]; exact Blk.new _ _ _
  have hDT : ¬ InT T D := fun hh => by have := hw.lt hh; omega
  have hw0 := hw.nw p0
  have hk : ∀ w1, Fr (InT T) W0 w1 → Blk w1 D 50 #[U8V x.kind, I64 x.group, I64 x.src, I64 x.dst, I64 x.term, I64 x.index, I64 x.logt, I64 x.commit, .bool x.ok, .slice x.ents.a x.ents.l.length x.ents.c, I64 x.base.index, I64 x.base.term, .slice x.base.cfg.v.a x.base.cfg.v.l.length x.base.cfg.v.c, .slice x.base.cfg.o.a x.base.cfg.o.l.length x.base.cfg.o.c, .slice x.base.cfg.l.a x.base.cfg.l.l.length x.base.cfg.l.c, .slice x.base.cfg.w.a x.base.cfg.w.l.length x.base.cfg.w.c, I64 x.size, I64 x.at_, I64 x.tag, .slice x.bytes.a x.bytes.l.length x.bytes.c] := fun w1 f => y0.fr f hDT
  have HK := Lib.hid hk
  have HD := Lib.hid hD
  have HW0 := Lib.hid hW0
  have f0 : Fr (InT T) W0 W0 := Fr.refl _ _
  clear hk hD hW0
  go_enter Tryz.func107, Tryz.ntmps107
  go_upto_region 1 with (fail)
  rw [← HD.out, ← HW0.out]
  have b0 := HK.out _ f0
  have c9 : W0.cell? ⟨D, 9, none⟩ = some (.slice x.ents.a x.ents.l.length x.ents.c) := by simpa using b0.cell 9
  go_upto_region 2 with (go_at_call 176; refine (ovEnts_any W0 T _ _ _ hx.ents hw0).mono ?_; rintro e w1 ⟨rfl, hw1, g1⟩)
  have f1 := f0.tr g1
  clear b0
  have b1 := HK.out _ f1
  have k6 : ∀ p u, ([I64 x.base.index, I64 x.base.term, .slice x.base.cfg.v.a x.base.cfg.v.l.length x.base.cfg.v.c, .slice x.base.cfg.o.a x.base.cfg.o.l.length x.base.cfg.o.c, .slice x.base.cfg.l.a x.base.cfg.l.l.length x.base.cfg.l.c, .slice x.base.cfg.w.a x.base.cfg.w.l.length x.base.cfg.w.c] : List Value)[p]? = some u → w1.cell? ⟨D, 10 + p, none⟩ = some u := Blk.cells_in (l := [U8V x.kind, I64 x.group, I64 x.src, I64 x.dst, I64 x.term, I64 x.index, I64 x.logt, I64 x.commit, .bool x.ok, .slice x.ents.a x.ents.l.length x.ents.c, I64 x.base.index, I64 x.base.term, .slice x.base.cfg.v.a x.base.cfg.v.l.length x.base.cfg.v.c, .slice x.base.cfg.o.a x.base.cfg.o.l.length x.base.cfg.o.c, .slice x.base.cfg.l.a x.base.cfg.l.l.length x.base.cfg.l.c, .slice x.base.cfg.w.a x.base.cfg.w.l.length x.base.cfg.w.c, I64 x.size, I64 x.at_, I64 x.tag, .slice x.bytes.a x.bytes.l.length x.bytes.c]) b1 10 6
  go_upto_region 3 with (first | (refine wl_load_cells rfl 47 _ rfl D 10 rfl _ _ k6 Tryz.underlying47 rfl (by kernel_rfl) ?_) | (go_at_call 177; refine (ovBas_any w1 T x.base hx.cfg hw1).mono ?_; rintro e w2 ⟨rfl, hw2, g2⟩))
  have f2 := f1.tr g2
  clear b1
  have b2 := HK.out _ f2
  have c19 : w2.cell? ⟨D, 19, none⟩ = some (.slice x.bytes.a x.bytes.l.length x.bytes.c) := by simpa using b2.cell 19
  go_wp2_with (go_at_call 178; refine (ovBytes_any w2 T _ _ _ hx.bytes hw2).mono ?_; rintro e w3 ⟨rfl, hw3, g3⟩)
  go_end0
  exact ⟨rfl, hw3, (Nw.on p0).tr (f2.tr g3)⟩
end Go.Proofs.YtippdjaakcgeoaaGreat

namespace Go.Proofs.YtippdjaakcgeoaaGreat
open Go Go.RowKit
set_option linter.unusedVariables false
set_option linter.unusedSimpArgs false

/-- The blocks that letters that were lent lead to. -/
def LentT (w : World) (l : List LetM) : TyT := fun g E n =>
  (E = 3 ∧ ∃ s : Ls Int, (∃ x ∈ l, s ∈ letInts x) ∧ s.a = some ⟨g, 0, none⟩ ∧ n = (s.l.length + 12) * 1) ∨
  (E = 5 ∧ ∃ s : Ls UInt8, (∃ x ∈ l, s ∈ letByts x) ∧ s.a = some ⟨g, 0, none⟩ ∧ n = (s.l.length + 12) * 1) ∨
  (E = 87 ∧ ∃ x ∈ l, x.ents.a = some ⟨g, 0, none⟩ ∧ n = (x.ents.l.length + 12) * 7)
theorem LsLent.blk {α : Type} {w : World} {F : Nat → Prop} {E : TypeId} {z : Nat} {f : List α → List Value} {bh : List α} {s : Ls α} (h : LsLent w F E z f bh s) {g : Nat} (hg : s.a = some ⟨g, 0, none⟩) :
    s.c = s.l.length + 12 ∧ F g ∧ ∃ cs, Blk w g E cs ∧ cs.size = (s.l.length + 12) * z ∧ cs.toList = f (s.l ++ bh) := by
  obtain ⟨g2, h1, h2, h3, h4, h5⟩ := h
  rw [h1] at hg
  injection hg with hg
  injection hg with hg
  subst hg
  obtain ⟨cur, hb, _, _, hs, ht⟩ := h4.blk
  refine ⟨h2, h5, cur, hb, hs, ?_⟩
  rw [← hs, ← Array.length_toList, List.take_length] at ht
  exact ht
theorem LsLent.at_ {α : Type} {w : World} {F : Nat → Prop} {E : TypeId} {z : Nat} {f : List α → List Value} {bh : List α} {s : Ls α} (h : LsLent w F E z f bh s) : ∃ g, s.a = some ⟨g, 0, none⟩ := by
  obtain ⟨g, h1, _⟩ := h
  exact ⟨g, h1⟩
theorem cfg_ints {w : World} {F : Nat → Prop} {c : CfgM} (h : CfgLent w F c) : ∀ s ∈ cfgInts c, LsLent w F 3 1 intsC behI s := by
  intro s hs
  simp only [cfgInts, List.mem_cons, List.not_mem_nil, or_false] at hs
  rcases hs with rfl | rfl | rfl | rfl
  · exact h.v
  · exact h.o
  · exact h.l
  · exact h.w
theorem let_ints {w : World} {F : Nat → Prop} {x : LetM} (h : LetLent w F x) : ∀ s ∈ letInts x, LsLent w F 3 1 intsC behI s := by
  intro s hs
  rcases List.mem_append.1 hs with hs | hs
  · obtain ⟨e, he, hs⟩ := List.mem_flatMap.1 hs
    exact cfg_ints (h.ents.each e he).cfg s hs
  · exact cfg_ints h.cfg s hs
theorem let_byts {w : World} {F : Nat → Prop} {x : LetM} (h : LetLent w F x) : ∀ s ∈ letByts x, LsLent w F 5 1 bytesC behind s := by
  intro s hs
  rcases List.mem_append.1 hs with hs | hs
  · obtain ⟨e, he, rfl⟩ := List.mem_map.1 hs
    exact (h.ents.each e he).cmd
  · rw [List.mem_singleton.1 hs]
    exact h.bytes
theorem LentT.in_ {w : World} {F : Nat → Prop} {l : List LetM} (h : ∀ x ∈ l, LetLent w F x) {k : Nat} (hk : InT (LentT w l) k) : F k := by
  obtain ⟨E, n, ⟨_, s, ⟨x, hx, hs⟩, ha, _⟩ | ⟨_, s, ⟨x, hx, hs⟩, ha, _⟩ | ⟨_, x, hx, ha, _⟩⟩ := hk
  · exact ((let_ints (h x hx) s hs).blk ha).2.1
  · exact ((let_byts (h x hx) s hs).blk ha).2.1
  · exact ((h x hx).ents.ls.blk ha).2.1
theorem cfg_rm {w : World} {F : Nat → Prop} {l : List LetM} {x : LetM} (hx : x ∈ l) {c : CfgM} (h : CfgLent w F c) (hs : ∀ s ∈ cfgInts c, s ∈ letInts x) (hz : CfgSz c) : CfgRm (LentT w l) c := by
  have key : ∀ s ∈ cfgInts c, s.l.length ≤ 1000000 → RmL (LentT w l) 3 1 s := fun s hsc hsz => by
    have h1 := cfg_ints h s hsc
    obtain ⟨g, hg⟩ := h1.at_
    have h2 := (h1.blk hg).1
    exact .inr ⟨g, hg, h2, by omega, Or.inl ⟨rfl, s, ⟨x, hx, hs s hsc⟩, hg, by rw [h2]⟩⟩
  exact ⟨key _ (by simp [cfgInts]) hz.v, key _ (by simp [cfgInts]) hz.o, key _ (by simp [cfgInts]) hz.l, key _ (by simp [cfgInts]) hz.w⟩
theorem byt_rm {w : World} {F : Nat → Prop} {l : List LetM} {x : LetM} (hx : x ∈ l) {s : Ls UInt8} (h : LsLent w F 5 1 bytesC behind s) (hs : s ∈ letByts x) (hz : s.l.length ≤ 1000000) : RmL (LentT w l) 5 1 s := by
  obtain ⟨g, hg⟩ := h.at_
  have h2 := (h.blk hg).1
  exact .inr ⟨g, hg, h2, by omega, Or.inr (Or.inl ⟨rfl, s, ⟨x, hx, hs⟩, hg, by rw [h2]⟩)⟩
theorem ent_rm {w : World} {F : Nat → Prop} {l : List LetM} {x : LetM} (hx : x ∈ l) {e : EntM} (he : e ∈ x.ents.l) (h : EntLent w F e) (hz : EntSz e) : EntRm (LentT w l) e :=
  ⟨byt_rm hx h.cmd (List.mem_append_left _ (List.mem_map.2 ⟨e, he, rfl⟩)) hz.cmd, cfg_rm hx h.cfg (fun s hs => List.mem_append_left _ (List.mem_flatMap.2 ⟨e, he, hs⟩)) hz.cfg⟩
theorem let_rm {w : World} {F : Nat → Prop} {l : List LetM} {x : LetM} (hx : x ∈ l) (h : LetLent w F x) (hz : LetSz x) : LetRm (LentT w l) x := by
  obtain ⟨g, hg⟩ := h.ents.ls.at_
  have h2 := (h.ents.ls.blk hg).1
  exact ⟨.inr ⟨g, hg, h2, by have := hz.ents; omega, Or.inr (Or.inr ⟨rfl, x, hx, hg, by rw [h2]⟩)⟩, cfg_rm hx h.cfg (fun s hs => List.mem_append_right _ hs) hz.cfg, byt_rm hx h.bytes (List.mem_append_right _ (by simp)) hz.bytes⟩
theorem LentT.wh {w : World} {F : Nat → Prop} {l : List LetM} (h : ∀ x ∈ l, LetLent w F x) (hz : ∀ x ∈ l, LetSz x) : WH w (LentT w l) := by
  refine ⟨fun g E n ht => ?_, fun g n ht j hj => ?_⟩
  · rcases ht with ⟨rfl, s, ⟨x, hx, hs⟩, ha, rfl⟩ | ⟨rfl, s, ⟨x, hx, hs⟩, ha, rfl⟩ | ⟨rfl, x, hx, ha, rfl⟩
    · obtain ⟨_, _, cs, h1, h2, _⟩ := (let_ints (h x hx) s hs).blk ha
      exact ⟨cs, h1, h2⟩
    · obtain ⟨_, _, cs, h1, h2, _⟩ := (let_byts (h x hx) s hs).blk ha
      exact ⟨cs, h1, h2⟩
    · obtain ⟨_, _, cs, h1, h2, _⟩ := (h x hx).ents.ls.blk ha
      exact ⟨cs, h1, h2⟩
  · rcases ht with ⟨e, _⟩ | ⟨e, _⟩ | ⟨_, x, hx, ha, rfl⟩
    · exact absurd e (by decide)
    · exact absurd e (by decide)
    · obtain ⟨_, _, cs, h1, h2, h3⟩ := (h x hx).ents.ls.blk ha
      have hlen : (x.ents.l ++ behE).length = x.ents.l.length + 12 := by rw [List.length_append, behE_len]
      have hjl : j < (x.ents.l ++ behE).length := by omega
      have hsl : Sl w (fun _ => True) (some ⟨g, 0, none⟩) (entsC (x.ents.l ++ behE)) := by
        have h4 := (h1.sl 0 cs.toList.length).mono (F' := fun _ => True) (fun _ _ _ => trivial)
        rw [List.drop_zero, List.take_length, h3] at h4
        exact h4
      obtain ⟨b, o, hbo, _, _, hc⟩ := hsl.ent hjl
      injection hbo with hbo
      injection hbo with hb1 hb2
      subst hb1
      subst hb2
      refine ⟨(x.ents.l ++ behE)[j], ?_, fun i u hu => by have := hc i u hu; simpa using this⟩
      by_cases hjl2 : j < x.ents.l.length
      · rw [List.getElem_append_left hjl2]
        exact ent_rm hx (List.getElem_mem hjl2) ((h x hx).ents.each _ (List.getElem_mem hjl2)) ((hz x hx).each _ (List.getElem_mem hjl2))
      · rw [List.getElem_append_right (by omega)]
        simp only [behE, List.getElem_map]
        exact EntRm.mark _ _ _
set_option maxRecDepth 100000 in
set_option maxHeartbeats 8000000 in
/-- Letters that were lent are written over: only their blocks are turned. -/
theorem over_lets (w : World) (F : Nat → Prop) (s : Ls LetM) (h : LetsLent w F s) (hz : ∀ x ∈ s.l, LetSz x) (hsz : s.l.length ≤ 1000000000) :
    Calls Tryz.prog 58 #[.slice s.a s.l.length s.c] w fun e w' => e = .returned (.tuple #[]) ∧ Fr F w w' := by
  obtain ⟨A, c, l⟩ := s
  obtain ⟨hls, heach⟩ := h
  obtain ⟨g, hg, hc, hcm, ho, hFg⟩ := hls
  dsimp only at hg hc ho hz hsz heach ⊢
  subst hg
  subst hc
  have hT := LentT.wh heach hz
  have hrm : ∀ x ∈ l, LetRm (LentT w l) x := fun x hx => let_rm hx (heach x hx) (hz x hx)
  have hin : ∀ k, InT (LentT w l) k → F k := fun k hk => LentT.in_ heach hk
  obtain ⟨T, hTe⟩ : ∃ T, T = LentT w l := ⟨_, rfl⟩
  have hgT : ¬ InT T g := by
    rw [hTe]
    rintro ⟨E, n, ht⟩
    obtain ⟨cs, hb, _⟩ := hT.blk _ _ _ ht
    obtain ⟨cur, hb2, _⟩ := ho.blk
    have he := (hb.inj hb2).1
    rcases ht with ⟨e, _⟩ | ⟨e, _⟩ | ⟨e, _⟩
    · exact absurd (e.symm.trans he) (by decide)
    · exact absurd (e.symm.trans he) (by decide)
    · exact absurd (e.symm.trans he) (by decide)
  rw [← hTe] at hT hrm hin
  obtain ⟨n, hn⟩ : ∃ n, n = l.length := ⟨_, rfl⟩
  rw [← hn] at hsz ho ⊢
  have hRM := Lib.hid hrm
  have hN := Lib.hid hn
  have hlz := ho.1
  have hcells : ∀ w9, Fr (InT T) w w9 → ∀ k (hk : k < l.length), ∀ i u, (letL l[k])[i]? = some u → w9.cell? ⟨g, k * 20 + i, none⟩ = some u := fun w9 f9 k hk i u hu => by
    have h1 := ((ho.fr f9 (fun j hj hh => hgT (by have e9 : j = g := (inA_some _ _).1 hj; rw [← e9]; exact hh))).sl.pre (k := (letsC l).length))
    rw [letsC_append, List.take_left' rfl] at h1
    obtain ⟨b, o, hbo, _, _, hc⟩ := h1.let_ hk
    injection hbo with hbo
    injection hbo with hb1 hb2
    subst hb1
    subst hb2
    have := hc i u hu
    simpa using this
  have HCL := Lib.hid hcells
  clear hrm hn hTe hz heach hcm hcells
  have hs := slice_h (P := Tryz.prog) 28 under_lets 20 size_lets (some ⟨g, 0, none⟩) n (n + 12) (n + 12) (Nat.le_refl _)
  go_enter Tryz.func58, Tryz.ntmps58
  go_wp2_with fail
  go_loopw [2] (fun i wr => ∃ k : Nat, k ≤ n ∧ i = .int .i64 (k : Nat) ∧ WH wr T ∧ Fr (InT T) w wr) (fun i _ => n - (intOf i).toNat)
  case atStart => exact ⟨0, Nat.zero_le _, rfl, hT, Fr.refl _ _⟩
  case round =>
    obtain ⟨k, hk, rfl, hh, hf⟩ := hrel
    by_cases hlt : k < n
    · have hi0 : (k : Int) < (n : Int) := by omega
      have hkl : k < l.length := by have := hN.out; omega
      have hc := HCL.out wr hf k hkl
      have hx := hRM.out _ (List.getElem_mem hkl)
      obtain ⟨x, hxe⟩ : ∃ x, l[k] = x := ⟨_, rfl⟩
      rw [hxe] at hc hx
      have hov := ovLet_any wr T x hx hh
      clear hxe
      go_wp2_with (first | (refine wl_load_cells rfl 50 _ rfl g (k * 20) rfl (letL x) _ hc Tryz.underlying50 rfl (by kernel_rfl) ?_) | (go_at_call 107; refine hov.mono ?_; rintro e9 w1 ⟨rfl, hw1, f1⟩))
      go_roundw
      case rel => exact ⟨k + 1, hlt, by go_num, hw1, hf.tr f1⟩
      case measure => simp [intOf]; omega
    · obtain ⟨w0, hw0⟩ : ∃ w0, w0 = wr := ⟨_, rfl⟩
      rw [← hw0] at hh hf ⊢
      clear hw0
      obtain rfl : n = k := by omega
      have o0 := ho.fr hf (fun j hj hh => hgT (by have e9 : j = g := (inA_some _ _).1 hj; rw [← e9]; exact hh))
      have fF : Fr F w w0 := hf.mono fun j hj => .inl (hin j hj)
      go_wp2_with fail
      go_loopw [4] (fun i wr => ∃ (k : Nat) (zs : List Value), k ≤ n + 12 ∧ i = .int .i64 (k : Nat) ∧ Own wr 50 20 (some ⟨g, 0, none⟩) (n + 12) (n + 12) zs ∧ Fr F w wr) (fun i _ => n + 12 - (intOf i).toNat)
      case atStart => exact ⟨0, _, Nat.zero_le _, rfl, o0, fF⟩
      case round =>
        clear o0 fF hh hf
        obtain ⟨k, zs, hk, rfl, o1, hf⟩ := hrel
        by_cases hlt2 : k < n + 12
        · have hi0 : (k : Int) < (n : Int) + 12 := by omega
          obtain ⟨cs, hb, hs2⟩ := o1.full
          have hmk := markLetter_any wr 2 k (by omega) (by omega)
          have hone := letA_one (mkLe 2 k)
          have hth : ∀ w9, Nw wr w9 → w9.there g (k * 20) 20 := fun w9 q9 => Blk.there (l := cs.toList) (hb.fr q9 (fun h => h)) (k * 20) 20 (by rw [Array.length_toList, hs2]; omega)
          have hst : ∀ w9, Nw wr w9 → (∃ zs, Own (w9.setCells g (k * 20) (letL (mkLe 2 k))) 50 20 (some ⟨g, 0, none⟩) (n + 12) (n + 12) zs) ∧ Fr F w (w9.setCells g (k * 20) (letL (mkLe 2 k))) := fun w9 q9 => by
            have h8 := Blk.setCells (l := cs.toList) (hb.fr q9 (fun h => h)) (k * 20) (letL (mkLe 2 k))
            refine ⟨⟨(putL cs.toList (k * 20) (letL (mkLe 2 k))), ?_, .inr ⟨g, _, rfl, h8, Nat.le_refl _, o1.cap_le.2, ?_, ?_⟩⟩, (hf.tr (Nw.on q9)).tr (((Fr.refl (· = g) w9).setCells _ _).mono fun j hj => .inl (by rw [hj]; exact hFg))⟩
            · rw [putL_len, Array.length_toList, hs2]
            · rw [List.size_toArray, putL_len, Array.length_toList, hs2]
            · rw [List.take_of_length_le (by show (putL _ _ _).length ≤ _; rw [putL_len, Array.length_toList, hs2]; exact Nat.le_refl _)]
          have HST := Lib.hid hst
          have HTH := Lib.hid hth
          clear hst hth hb
          obtain ⟨M, hM⟩ : ∃ M, M = mkI 2 k := ⟨_, rfl⟩
          have hme : letA (mkLe 2 k) = #[U8V 0, I64 0, I64 0, I64 0, I64 0, I64 0, I64 0, I64 0, .bool false, .slice none 0 0, I64 0, I64 0, .slice none 0 0, .slice none 0 0, .slice none 0 0, .slice none 0 0, I64 0, I64 0, I64 M, .slice none 0 0] := by rw [hM]; rfl
          have hml : letL (mkLe 2 k) = [U8V 0, I64 0, I64 0, I64 0, I64 0, I64 0, I64 0, I64 0, .bool false, .slice none 0 0, I64 0, I64 0, .slice none 0 0, .slice none 0 0, .slice none 0 0, .slice none 0 0, I64 0, I64 0, I64 M, .slice none 0 0] := by rw [hM]; rfl
          rw [hme] at hmk hone
          have HML := Lib.hid hml
          clear hM hme hml
          go_wp2_with (first | (go_at_call 65; refine hmk.mono ?_; rintro e9 w1 ⟨rfl, q1⟩; have hth1 := HTH.out w1 q1; obtain ⟨w2, hw2⟩ : ∃ w2, w2 = w1.setCells g (k * 20) [U8V 0, I64 0, I64 0, I64 0, I64 0, I64 0, I64 0, I64 0, .bool false, .slice none 0 0, I64 0, I64 0, .slice none 0 0, .slice none 0 0, .slice none 0 0, .slice none 0 0, I64 0, I64 0, I64 M, .slice none 0 0] := ⟨_, rfl⟩; have HW2 := Lib.hid hw2; clear hw2) | (refine wpList_store_mid rfl 50 _ _ rfl g (k * 20) #[U8V 0, I64 0, I64 0, I64 0, I64 0, I64 0, I64 0, I64 0, .bool false, .slice none 0 0, I64 0, I64 0, .slice none 0 0, .slice none 0 0, .slice none 0 0, .slice none 0 0, I64 0, I64 0, I64 M, .slice none 0 0] rfl rfl hth1 (by kernel_rfl) hone ?_; rw [← HW2.out]))
          go_roundw
          case rel =>
            have h8 := HST.out w1 q1
            rw [HML.out, ← HW2.out] at h8
            obtain ⟨⟨zs2, h9⟩, h10⟩ := h8
            exact ⟨k + 1, zs2, hlt2, by go_num, h9, h10⟩
          case measure => simp [intOf]; omega
        · go_wp2_with fail
          go_end0
          exact ⟨rfl, hf⟩
end Go.Proofs.YtippdjaakcgeoaaGreat
