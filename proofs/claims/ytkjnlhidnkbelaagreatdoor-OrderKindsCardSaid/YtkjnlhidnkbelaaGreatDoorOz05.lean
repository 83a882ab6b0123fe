/- Lemmas of the walks: Gr5. (Laid together by shake.py.) -/
import Derived.Maps.OwnSet
import Derived.Maps.Views
import Derived.Still
import Derived.Deep.Quiet
import Derived.Test.YtkjnlhidnkbelaaGreatDoorOz01
import Derived.Test.YtkjnlhidnkbelaaGreatDoorOz03
import Derived.Test.YtkjnlhidnkbelaaGreatDoorOz04
set_option linter.unusedVariables false
set_option linter.unusedSimpArgs false
/- A map of the call's own whose keys are bytes, as a table. -/
namespace Go.Proofs.YtkjnlhidnkbelaaGreatDoor
open Go Go.RowKit

/-- How a value of a table is kept: as it is. -/
def heldU (v : Value) : Option (DataW Value × List MemPlace) := some (.held v, [])
/-- A byte as a key. -/
abbrev u8Key (n : Int) : Value := .int .u8 n
def U8Wf (n : Int) : Prop := (Lit.int .u8 n).wf = true
structure U8MapKey (P : Program) (k : TypeId) : Prop where
  law : Maps.Keyed P k
  key : ∀ n, U8Wf n → ∃ kl, keyOf P k (u8Key n) = some kl
theorem U8MapKey.of {P : Program} {k : TypeId} (hk : P.underlying k = some (.int .u8)) : U8MapKey P k := ⟨Maps.int_keyed hk, fun _ h => ⟨_, Maps.keyOf_int_mk hk h⟩⟩
theorem u8Wf {n : Int} (h : 0 ≤ n ∧ n ≤ 255) : U8Wf n := WalkArith.wf_u8 h
/-- Block b is a map of s names: what it has under a name is f's. -/
def MapU (P : Program) (k : TypeId) (w : World) (b s : Nat) (f : Int → Option Value) : Prop :=
  ∃ D : DataW Value, w.ownsMap P k heldU b s D ∧ Maps.size D = s ∧ ∀ n kl, keyOf P k (u8Key n) = some kl → Maps.has D kl = (f n).isSome ∧ ∀ v, f n = some v → ∀ z, D.atKey kl z = .held v
section
variable {P : Program} {k e t : TypeId} {w w' : World} {b s : Nat} {f : Int → Option Value} {S : Nat → Prop}
theorem MapU.lt (h : MapU P k w b s f) : b < w.heap.size := by
  obtain ⟨D, h1, _⟩ := h
  exact h1.lt
theorem MapU.fr (h : MapU P k w b s f) (hf : Fr S w w') (hn : ¬ S b) : MapU P k w' b s f := by
  have hb := h.lt
  obtain ⟨D, ⟨es, clock, h1, h2⟩, h3⟩ := h
  exact ⟨D, ⟨es, clock, (hf.block b hb hn).trans h1, h2⟩, h3⟩
theorem MapU.made (w : World) (hz : Maps.size (.map [] : DataW Value) = 0) : MapU P k (w.alloc (.map #[] 0)) w.heap.size 0 (fun _ => none) := by
  refine ⟨.map [], World.ownsMap_made w P k heldU, hz, fun n kl _ => ⟨by rw [Maps.has_eq]; rfl, fun v hv => by cases hv⟩⟩
theorem MapU.look (h : MapU P k w b s f) (K : U8MapKey P k) (ht : P.underlying t = some (.map k e)) {z : Value} (hz : (zeroValue e).run P w = .ok z w) (n : Int) (hn : U8Wf n) :
    (Instr.lookup t (.map (some b)) (u8Key n) true).run P w = .ok (.tuple #[(f n).getD z, .bool (f n).isSome]) w := by
  obtain ⟨D, h1, _, h3⟩ := h
  obtain ⟨kl, hk⟩ := K.key n hn
  obtain ⟨v, ps, hrun, hv⟩ := h1.look_ok K.law ht hz (zd := .held z) (zp := []) rfl hk
  rw [hrun]
  obtain ⟨h4, h5⟩ := h3 n kl hk
  rw [h4]
  have e : v = (f n).getD z := by
    unfold heldU at hv
    injection hv with hv
    injection hv with hv _
    cases hf : f n with
    | some u =>
      rw [h5 u hf] at hv
      injection hv with hv
    | none =>
      rw [Maps.atKey_of_not_has (by rw [h4, hf]; rfl)] at hv
      injection hv with hv
  rw [e]
theorem MapU.look1 (h : MapU P k w b s f) (K : U8MapKey P k) (ht : P.underlying t = some (.map k e)) {z : Value} (hz : (zeroValue e).run P w = .ok z w) (n : Int) (hn : U8Wf n) :
    (Instr.lookup t (.map (some b)) (u8Key n) false).run P w = .ok ((f n).getD z) w := by
  obtain ⟨D, h1, _, h3⟩ := h
  obtain ⟨kl, hk⟩ := K.key n hn
  obtain ⟨v, ps, hrun, hv⟩ := h1.lookup K.law ht hz (zd := .held z) (zp := []) rfl hk
  rw [hrun]
  obtain ⟨h4, h5⟩ := h3 n kl hk
  have e : v = (f n).getD z := by
    unfold heldU at hv
    injection hv with hv
    injection hv with hv _
    cases hf : f n with
    | some u =>
      rw [h5 u hf] at hv
      injection hv with hv
    | none =>
      rw [Maps.atKey_of_not_has (by rw [h4, hf]; rfl)] at hv
      injection hv with hv
  rw [e]
/-- A new name put. -/
theorem MapU.put (h : MapU P k w b s f) (K : U8MapKey P k) (ht : P.underlying t = some (.map k e)) (hs : s < maxLen) (n : Int) (hn : U8Wf n) (hf : f n = none) (v : Value) :
    ∃ w', (Instr.mapUpdate t (.map (some b)) (u8Key n) v).run P w = .ok () w' ∧ MapU P k w' b (s + 1) (fun x => if x = n then some v else f x) ∧ Fr (· = b) w w' := by
  obtain ⟨D, h1, h2, h3⟩ := h
  obtain ⟨kl, hk⟩ := K.key n hn
  obtain ⟨w', hrun, h4, h5⟩ := h1.update K.law ht hs hk (val := v) (d := .held v) (ps := []) rfl
  have hno : Maps.has D kl = false := by rw [(h3 n kl hk).1, hf]; rfl
  refine ⟨w', hrun, ⟨_, h4, ?_, ?_⟩, ⟨h5.os, h5.tape, h5.output, h5.size, fun i hi hne => h5.block i hi (fun e => hne (Option.some.inj e))⟩⟩
  · rw [Maps.size_put (h1.tidy K.law), hno, h2]
    rfl
  · intro m ml hm
    dsimp only
    by_cases he : m = n
    · subst he
      rw [hk] at hm
      injection hm with hm
      subst hm
      refine ⟨by rw [if_pos rfl, Maps.has_put_same h1.isMap (K.law.key hk)]; rfl, fun u hu z => ?_⟩
      rw [if_pos rfl] at hu
      injection hu with hu
      subst hu
      exact Maps.atKey_put_same h1.isMap (K.law.key hk) _ _
    · have hne : ml ≠ kl := by
        rintro rfl
        have := K.law.inj hm hk
        apply he
        injection this
      rw [if_neg he, Maps.has_put_other hne]
      refine ⟨(h3 m ml hm).1, fun u hu z => ?_⟩
      rw [Maps.atKey_put_other hne]
      exact (h3 m ml hm).2 u hu z
end
end Go.Proofs.YtkjnlhidnkbelaaGreatDoor
/- Spans, on either side. -/
namespace Go.Proofs.YtkjnlhidnkbelaaGreatDoor
open Go Go.RowKit

theorem less_total (a b : List UInt8) : (!(Go.Op.bytesLess a b || a == b)) = Go.Op.bytesLess b a := by
  induction a generalizing b with
  | nil => cases b <;> simp [Go.Op.bytesLess]
  | cons x a ih =>
    cases b with
    | nil => simp [Go.Op.bytesLess]
    | cons y b =>
      have h := ih b
      by_cases h1 : x < y
      · have h2 : ¬ y < x := by rw [UInt8.lt_iff_toNat_lt] at *; omega
        have h3 : (y == x) = false := by simp; rintro rfl; exact h2 h1
        simp [Go.Op.bytesLess, h1, h2, h3]
      · by_cases h4 : x = y
        · subst h4
          simp [Go.Op.bytesLess, h1, ← h]
        · have h2 : y < x := by rw [UInt8.lt_iff_toNat_lt] at *; have : x.toNat ≠ y.toNat := fun e => h4 (UInt8.toNat_inj.1 e); omega
          have h3 : (x == y) = false := by simpa using h4
          simp [Go.Op.bytesLess, h1, h2, h3]
theorem less_asym {a b : List UInt8} (h : Go.Op.bytesLess a b = true) : Go.Op.bytesLess b a = false := by
  rw [← less_total, h]; rfl
set_option maxRecDepth 100000 in
theorem isNaN_any (w : World) (a : List UInt8) : Calls Tryz.prog 209 #[StrV a] w fun e w' => e = .returned (.bool false) ∧ w = w' := by
  go_enter Tryz.func209, Tryz.ntmps209
  go_wp2_with fail
  go_ret
  exact ⟨by simp, rfl⟩
def cmpS (a b : List UInt8) : Int := if Go.Op.bytesLess a b = true then -1 else if Go.Op.bytesLess b a = true then 1 else 0
set_option maxRecDepth 100000 in
theorem compare_any (w : World) (a b : List UInt8) : Calls Tryz.prog 204 #[StrV a, StrV b] w fun e w' => e = .returned (.int .i64 (cmpS a b)) ∧ w = w' := by
  have h1 := isNaN_any w a
  have h2 := isNaN_any w b
  have htot := less_total a b
  go_enter Tryz.func204, Tryz.ntmps204
  go_wp2_with (go_at_call 209; first | (refine h1.mono ?_; rintro e w' ⟨rfl, rfl⟩) | (refine h2.mono ?_; rintro e w' ⟨rfl, rfl⟩))
  all_goals
    clear h1 h2
    go_ret
    refine ⟨?_, rfl⟩
    unfold cmpS
    rw [← htot]
    simp [*]
set_option maxRecDepth 100000 in
theorem none_any (w : World) (a : List UInt8) : Calls Tryz.prog 191 #[.agg #[StrV a]] w fun e w' => e = .returned (.bool (decide (a = []))) ∧ Nw w w' := by
  go_enter Tryz.func191, Tryz.ntmps191
  go_wp2_with fail
  go_ret
  exact ⟨by cases a <;> rfl, (Fr.refl (fun _ => False) w).alloc _⟩
set_option maxRecDepth 100000 in
theorem tcompare_any (w : World) (a b : List UInt8) : Calls Tryz.prog 196 #[.agg #[StrV a], .agg #[StrV b]] w fun e w' => e = .returned (.int .i64 (cmpS a b)) ∧ Nw w w' := by
  have h1 := fun w1 => compare_any w1 a b
  go_enter Tryz.func196, Tryz.ntmps196
  go_wp2_with (go_at_call 204; refine (h1 _).mono ?_; rintro e w' ⟨rfl, rfl⟩)
  go_ret
  exact ⟨rfl, ((Fr.refl (fun _ => False) w).alloc _).alloc _⟩
theorem results_two_rows {P : Program} {fn : Func} {p q : Tmp} {t1 t2 : TypeId} (h : fn.results = #[.cell p t1, .cell q t2]) (tmps : Array Value) (w : World) (g1 g2 : Nat) (c1 c2 : Array Value) (d1 d2 : TypeDesc)
    (hp : tmps.getD p undef = .pointer (some ⟨g1, 0, none⟩)) (hq : tmps.getD q undef = .pointer (some ⟨g2, 0, none⟩)) (h1 : Blk w g1 t1 c1) (h2 : Blk w g2 t2 c2)
    (hu1 : P.underlying t1 = some d1) (hd1 : (match d1 with | .struct _ | .array _ _ => true | _ => false) = true) (hi1 : (P.info? t1).map (·.size) = some c1.size)
    (hu2 : P.underlying t2 = some d2) (hd2 : (match d2 with | .struct _ | .array _ _ => true | _ => false) = true) (hi2 : (P.info? t2).map (·.size) = some c2.size) :
    (results fn tmps).run P w = .ok (.tuple #[.agg c1, .agg c2]) w := by
  have hp' : tmps[p]?.getD undef = .pointer (some ⟨g1, 0, none⟩) := by simpa using hp
  have hq' : tmps[q]?.getD undef = .pointer (some ⟨g2, 0, none⟩) := by simpa using hq
  simp [results, h, hp', hq', asAddr, run_loadVar_row w g1 t1 t1 c1 (0, 0) d1 h1 hu1 hd1 hi1, run_loadVar_row w g2 t2 t2 c2 (0, 0) d2 h2 hu2 hd2 hi2]
set_option maxRecDepth 100000 in
theorem ends_any (w : World) (a b : List UInt8) : Calls Tryz.prog 190 #[.agg #[StrV a, StrV b]] w fun e w' => e = .returned (.tuple #[.agg #[StrV a], .agg #[StrV b]]) ∧ Nw w w' := by
  obtain ⟨W, hW⟩ : ∃ W, W = (((w.alloc (.cells #[StrV a, StrV b] 29)).alloc (.cells #[.string ⟨a.toArray⟩] 300)).alloc (.cells #[.string ⟨b.toArray⟩] 301)).drew := ⟨_, rfl⟩
  have q : Nw w W := by rw [hW]; exact ((((Fr.refl (fun _ => False) w).alloc _).alloc _).alloc _).drew
  have b1 : Blk W (w.heap.size + 1) 300 #[StrV a] := by
    rw [hW]
    have h := Blk.new (w.alloc (.cells #[StrV a, StrV b] 29)) 300 #[.string ⟨a.toArray⟩]
    have h := (h.fr ((Fr.refl (fun _ => False) _).alloc (.cells #[.string ⟨b.toArray⟩] 301)) (fun h => h)).drew
    simpa using h
  have b2 : Blk W (w.heap.size + 1 + 1) 301 #[StrV b] := by
    rw [hW]
    have h := (Blk.new ((w.alloc (.cells #[StrV a, StrV b] 29)).alloc (.cells #[.string ⟨a.toArray⟩] 300)) 301 #[.string ⟨b.toArray⟩]).drew
    simpa using h
  have HW := Lib.hid hW
  clear hW
  go_enter Tryz.func190, Tryz.ntmps190
  go_wp2_with fail
  go_region
  rw [← HW.out]
  go_wp2_with fail
  refine bodyPost_ret (v := .tuple #[.agg #[StrV a], .agg #[StrV b]]) ?_ rfl ⟨rfl, q⟩
  exact results_two_rows rfl _ _ (w.heap.size + 1) (w.heap.size + 1 + 1) _ _ _ _ rfl rfl b1 b2 Tryz.underlying300 rfl (by kernel_rfl) Tryz.underlying301 rfl (by kernel_rfl)
/-- Is the end above? -/
def aboveB (hi lo : List UInt8) : Bool := decide (hi = []) || decide (0 < cmpS hi lo)
theorem above_less (hi lo : List UInt8) : aboveB hi lo = (decide (hi = []) || Go.Op.bytesLess lo hi) := by
  unfold aboveB cmpS
  cases h1 : Go.Op.bytesLess hi lo with
  | true => rw [less_asym h1]; simp
  | false => cases h2 : Go.Op.bytesLess lo hi <;> simp
set_option maxRecDepth 100000 in
theorem above_any (w : World) (hi lo : List UInt8) : Calls Tryz.prog 192 #[.agg #[StrV hi], .agg #[StrV lo]] w fun e w' => e = .returned (.bool (aboveB hi lo)) ∧ Nw w w' := by
  obtain ⟨W, hW⟩ : ∃ W, W = (w.alloc (.cells #[StrV hi] 301)).alloc (.cells #[StrV lo] 298) := ⟨_, rfl⟩
  have q : Nw w W := by rw [hW]; exact ((Fr.refl (fun _ => False) w).alloc _).alloc _
  have b1 : Blk W w.heap.size 301 #[StrV hi] := by
    rw [hW]
    exact (Blk.new w 301 #[StrV hi]).fr ((Fr.refl (fun _ => False) _).alloc (.cells #[StrV lo] 298)) (fun h => h)
  have b2 : Blk W (w.heap.size + 1) 298 #[StrV lo] := by
    rw [hW]
    have h := Blk.new (w.alloc (.cells #[StrV hi] 301)) 298 #[StrV lo]
    simpa using h
  have h1 := none_any W hi
  have h2 := fun w1 => tcompare_any w1 hi lo
  obtain ⟨n, hn⟩ : ∃ n, cmpS hi lo = n := ⟨_, rfl⟩
  obtain ⟨z, hz⟩ : ∃ z, decide (hi = []) = z := ⟨_, rfl⟩
  have hab : aboveB hi lo = (z || decide (0 < n)) := by unfold aboveB; rw [hn, hz]
  rw [hab]
  rw [hz] at h1
  simp only [hn] at h2
  have HW := Lib.hid hW
  clear hW hn hz hab
  go_enter Tryz.func192, Tryz.ntmps192
  go_upto_region 1 with (fail)
  rw [← HW.out]
  have c0 : W.cell? ⟨w.heap.size, 0, none⟩ = some (StrV hi) := by simpa using b1.cell 0
  go_wp2_with fail
  refine h1.mono ?_
  rintro e w1 ⟨rfl, q1⟩
  have d0 : w1.cell? ⟨w.heap.size, 0, none⟩ = some (StrV hi) := by simpa using (b1.fr q1 (fun h => h)).cell 0
  have d1 : w1.cell? ⟨w.heap.size + 1, 0, none⟩ = some (StrV lo) := by simpa using (b2.fr q1 (fun h => h)).cell 0
  cases z with
  | true =>
    go_wp2_with fail
    go_ret
    exact ⟨rfl, q.tr q1⟩
  | false =>
    go_wp2_with fail
    refine (h2 w1).mono ?_
    rintro e w2 ⟨rfl, q2⟩
    go_wp2_with fail
    go_ret
    exact ⟨by simp, (q.tr q1).tr q2⟩
end Go.Proofs.YtkjnlhidnkbelaaGreatDoor
/- Spans are right, on either side. -/
namespace Go.Proofs.YtkjnlhidnkbelaaGreatDoor
open Go Go.RowKit

theorem spanOk_eq (lo hi : List UInt8) : spanOk lo hi = ((decide (lo = []) || keyOk lo) && ((decide (hi = []) || keyOk hi) && aboveB hi lo)) := by
  rw [above_less]; rfl
set_option maxRecDepth 100000 in
set_option maxHeartbeats 4000000 in
theorem spanRight_any (w : World) (lo hi : List UInt8) (hl : lo.length ≤ 1000000000000) (hh : hi.length ≤ 1000000000000) :
    Calls Tryz.prog 179 #[.agg #[StrV lo, StrV hi]] w fun e w' => e = .returned (.bool (spanOk lo hi)) ∧ Nw w w' := by
  have hsp := spanOk_eq lo hi
  obtain ⟨zl, hzl⟩ : ∃ z, decide (lo = []) = z := ⟨_, rfl⟩
  obtain ⟨zh, hzh⟩ : ∃ z, decide (hi = []) = z := ⟨_, rfl⟩
  obtain ⟨kl, hkl⟩ : ∃ z, keyOk lo = z := ⟨_, rfl⟩
  obtain ⟨kh, hkh⟩ : ∃ z, keyOk hi = z := ⟨_, rfl⟩
  obtain ⟨ab, hab⟩ : ∃ z, aboveB hi lo = z := ⟨_, rfl⟩
  rw [hzl, hzh, hkl, hkh, hab] at hsp
  rw [hsp]
  obtain ⟨W0, hW0⟩ : ∃ W0, W0 = w.alloc (.cells #[StrV lo, StrV hi] 29) := ⟨_, rfl⟩
  have q0 : Nw w W0 := by rw [hW0]; exact (Fr.refl (fun _ => False) w).alloc _
  have b0 : Blk W0 w.heap.size 29 #[StrV lo, StrV hi] := by rw [hW0]; exact Blk.new w _ _
  have HW0 := Lib.hid hW0
  clear hW0
  have h1 := ends_any W0 lo hi
  have c0 : W0.cell? ⟨w.heap.size, 0, none⟩ = some (StrV lo) := by simpa using b0.cell 0
  have c1 : W0.cell? ⟨w.heap.size, 1, none⟩ = some (StrV hi) := by simpa using b0.cell 1
  go_enter Tryz.func179, Tryz.ntmps179
  go_upto_region 1 with (fail)
  rw [← HW0.out]
  go_wp2_with fail
  refine h1.mono ?_
  rintro e w1 ⟨rfl, q1⟩
  go_upto_region 2 with (fail)
  obtain ⟨W, hW⟩ : ∃ W, W = (w1.alloc (.cells #[.string ⟨lo.toArray⟩] 300)).alloc (.cells #[.string ⟨hi.toArray⟩] 301) := ⟨_, rfl⟩
  have q : Nw w W := by rw [hW]; exact ((q0.tr q1).alloc _).alloc _
  have q01 : Nw W0 W := by rw [hW]; exact (q1.alloc _).alloc _
  have b1 : Blk W w1.heap.size 300 #[StrV lo] := by
    rw [hW]
    exact (Blk.new w1 300 #[StrV lo]).fr ((Fr.refl (fun _ => False) _).alloc (.cells #[.string ⟨hi.toArray⟩] 301)) (fun h => h)
  have b2 : Blk W (w1.heap.size + 1) 301 #[StrV hi] := by
    rw [hW]
    have h := Blk.new (w1.alloc (.cells #[.string ⟨lo.toArray⟩] 300)) 301 #[StrV hi]
    simpa using h
  rw [← hW]
  have HW := Lib.hid hW
  clear hW
  have hS : ∀ w', Nw W w' → w'.cell? ⟨w.heap.size, 0, none⟩ = some (StrV lo) ∧ w'.cell? ⟨w.heap.size, 1, none⟩ = some (StrV hi) ∧ w'.cell? ⟨w1.heap.size, 0, none⟩ = some (StrV lo) ∧ w'.cell? ⟨w1.heap.size + 1, 0, none⟩ = some (StrV hi) := fun w' f => by
    have k0 := b0.fr (q01.tr f) (fun h => h)
    exact ⟨by simpa using k0.cell 0, by simpa using k0.cell 1, by simpa using (b1.fr f (fun h => h)).cell 0, by simpa using (b2.fr f (fun h => h)).cell 0⟩
  have n1 : ∀ w1, Nw W w1 → Calls Tryz.prog 191 #[.agg #[StrV lo]] w1 fun e w' => e = .returned (.bool zl) ∧ Nw W w' := fun w1 f => (none_any w1 lo).mono fun e w' h => by rw [hzl] at h; exact ⟨h.1, f.tr h.2⟩
  have n2 : ∀ w1, Nw W w1 → Calls Tryz.prog 191 #[.agg #[StrV hi]] w1 fun e w' => e = .returned (.bool zh) ∧ Nw W w' := fun w1 f => (none_any w1 hi).mono fun e w' h => by rw [hzh] at h; exact ⟨h.1, f.tr h.2⟩
  have k1 : ∀ w1, Nw W w1 → Calls Tryz.prog 182 #[StrV lo] w1 fun e w' => e = .returned (.bool kl) ∧ Nw W w' := fun w1 f => (spanKey_any w1 lo (by omega)).mono fun e w' h => by rw [hkl] at h; exact ⟨h.1, h.2 ▸ f⟩
  have k2 : ∀ w1, Nw W w1 → Calls Tryz.prog 182 #[StrV hi] w1 fun e w' => e = .returned (.bool kh) ∧ Nw W w' := fun w1 f => (spanKey_any w1 hi (by omega)).mono fun e w' h => by rw [hkh] at h; exact ⟨h.1, h.2 ▸ f⟩
  have a1 : ∀ w1, Nw W w1 → Calls Tryz.prog 192 #[.agg #[StrV hi], .agg #[StrV lo]] w1 fun e w' => e = .returned (.bool ab) ∧ Nw W w' := fun w1 f => (above_any w1 hi lo).mono fun e w' h => by rw [hab] at h; exact ⟨h.1, f.tr h.2⟩
  have Q : Nw W W := Fr.refl _ _
  obtain ⟨e0, e1, e2, e3⟩ := hS W Q
  clear hzl hzh hkl hkh hab hsp c0 c1 b0 b1 b2 q01
  go_wp2_with fail
  refine (n1 _ (by assumption)).mono ?_
  rintro e w3 ⟨rfl, Q⟩
  obtain ⟨e0, e1, e2, e3⟩ := hS _ Q
  cases zl with
  | true =>
    go_wp2_with fail
    refine (n2 _ (by assumption)).mono ?_
    rintro e w3 ⟨rfl, Q⟩
    obtain ⟨e0, e1, e2, e3⟩ := hS _ Q
    cases zh with
    | true =>
      go_wp2_with fail
      refine (a1 _ (by assumption)).mono ?_
      rintro e w3 ⟨rfl, Q⟩
      go_wp2_with fail
      go_ret
      exact ⟨by simp, q.tr (by assumption)⟩
    | false =>
      go_wp2_with fail
      refine (k2 _ (by assumption)).mono ?_
      rintro e w3 ⟨rfl, Q⟩
      obtain ⟨e0, e1, e2, e3⟩ := hS _ Q
      cases kh with
      | false =>
        go_wp2_with fail
        go_ret
        exact ⟨by simp, q.tr (by assumption)⟩
      | true =>
        go_wp2_with fail
        refine (a1 _ (by assumption)).mono ?_
        rintro e w3 ⟨rfl, Q⟩
        go_wp2_with fail
        go_ret
        exact ⟨by simp, q.tr (by assumption)⟩
  | false =>
    go_wp2_with fail
    refine (k1 _ (by assumption)).mono ?_
    rintro e w3 ⟨rfl, Q⟩
    obtain ⟨e0, e1, e2, e3⟩ := hS _ Q
    cases kl with
    | false =>
      go_wp2_with fail
      go_ret
      exact ⟨by simp, q.tr (by assumption)⟩
    | true =>
      go_wp2_with fail
      refine (n2 _ (by assumption)).mono ?_
      rintro e w3 ⟨rfl, Q⟩
      obtain ⟨e0, e1, e2, e3⟩ := hS _ Q
      cases zh with
      | true =>
        go_wp2_with fail
        refine (a1 _ (by assumption)).mono ?_
        rintro e w3 ⟨rfl, Q⟩
        go_wp2_with fail
        go_ret
        exact ⟨by simp, q.tr (by assumption)⟩
      | false =>
        go_wp2_with fail
        refine (k2 _ (by assumption)).mono ?_
        rintro e w3 ⟨rfl, Q⟩
        obtain ⟨e0, e1, e2, e3⟩ := hS _ Q
        cases kh with
        | false =>
          go_wp2_with fail
          go_ret
          exact ⟨by simp, q.tr (by assumption)⟩
        | true =>
          go_wp2_with fail
          refine (a1 _ (by assumption)).mono ?_
          rintro e w3 ⟨rfl, Q⟩
          go_wp2_with fail
          go_ret
          exact ⟨by simp, q.tr (by assumption)⟩
theorem spanOk_ref (lo hi : List UInt8) : spanOk lo hi = ((decide (lo = []) || keyOk lo) && (decide (hi = []) || (keyOk hi && Go.Op.bytesLess lo hi))) := by
  unfold spanOk
  cases decide (lo = []) <;> cases keyOk lo <;> cases decide (hi = []) <;> cases keyOk hi <;> cases Go.Op.bytesLess lo hi <;> rfl
set_option maxRecDepth 100000 in
set_option maxHeartbeats 4000000 in
theorem refRight_any (w : World) (lo hi : List UInt8) (hl : lo.length ≤ 1000000000000) (hh : hi.length ≤ 1000000000000) :
    Calls Tryz.prog 113 #[.agg #[StrV lo, StrV hi]] w fun e w' => e = .returned (.bool (spanOk lo hi)) ∧ Nw w w' := by
  have hsp := spanOk_ref lo hi
  obtain ⟨zl, hzl⟩ : ∃ z, decide (lo = []) = z := ⟨_, rfl⟩
  obtain ⟨zh, hzh⟩ : ∃ z, decide (hi = []) = z := ⟨_, rfl⟩
  obtain ⟨kl, hkl⟩ : ∃ z, keyOk lo = z := ⟨_, rfl⟩
  obtain ⟨kh, hkh⟩ : ∃ z, keyOk hi = z := ⟨_, rfl⟩
  obtain ⟨ab, hab⟩ : ∃ z, Go.Op.bytesLess lo hi = z := ⟨_, rfl⟩
  have el : lo.isEmpty = zl := by rw [← hzl]; cases lo <;> rfl
  have eh : hi.isEmpty = zh := by rw [← hzh]; cases hi <;> rfl
  rw [hzl, hzh, hkl, hkh, hab] at hsp
  rw [hsp]
  obtain ⟨W, hW⟩ : ∃ W, W = w.alloc (.cells #[StrV lo, StrV hi] 29) := ⟨_, rfl⟩
  have q : Nw w W := by rw [hW]; exact (Fr.refl (fun _ => False) w).alloc _
  have b0 : Blk W w.heap.size 29 #[StrV lo, StrV hi] := by rw [hW]; exact Blk.new w _ _
  have HW := Lib.hid hW
  clear hW
  have e0 : W.cell? ⟨w.heap.size, 0, none⟩ = some (StrV lo) := by simpa using b0.cell 0
  have e1 : W.cell? ⟨w.heap.size, 1, none⟩ = some (StrV hi) := by simpa using b0.cell 1
  have k1 : Calls Tryz.prog 157 #[StrV lo] W fun e w' => e = .returned (.bool kl) ∧ W = w' := (refKey_any W lo (by omega)).mono fun e w' h => by rw [hkl] at h; exact h
  have k2 : Calls Tryz.prog 157 #[StrV hi] W fun e w' => e = .returned (.bool kh) ∧ W = w' := (refKey_any W hi (by omega)).mono fun e w' h => by rw [hkh] at h; exact h
  clear hzl hzh hkl hkh hsp b0
  go_enter Tryz.func113, Tryz.ntmps113
  go_upto_region 1 with (fail)
  rw [← HW.out]
  cases zl with
  | true =>
    cases zh with
    | true =>
      go_wp2_with fail
      go_ret
      exact ⟨by simp, q⟩
    | false =>
      go_wp2_with fail
      refine k2.mono ?_
      rintro e w3 ⟨rfl, rfl⟩
      cases kh with
      | false =>
        go_wp2_with fail
        go_ret
        exact ⟨by simp, q⟩
      | true =>
        go_wp2_with fail
        go_ret
        exact ⟨by simp, q⟩
  | false =>
    go_wp2_with fail
    refine k1.mono ?_
    rintro e w3 ⟨rfl, rfl⟩
    cases kl with
    | false =>
      go_wp2_with fail
      go_ret
      exact ⟨by simp, q⟩
    | true =>
      cases zh with
      | true =>
        go_wp2_with fail
        go_ret
        exact ⟨by simp, q⟩
      | false =>
        go_wp2_with fail
        refine k2.mono ?_
        rintro e w3 ⟨rfl, rfl⟩
        cases kh with
        | false =>
          go_wp2_with fail
          go_ret
          exact ⟨by simp, q⟩
        | true =>
          go_wp2_with fail
          go_ret
          exact ⟨by simp, q⟩
end Go.Proofs.YtkjnlhidnkbelaaGreatDoor
/- A drawn region whose operations do different things that do not hinder each other: one walk in the order of the text, over worlds that are told apart by what was done already. -/
namespace Go.Proofs.YtkjnlhidnkbelaaGreatDoor
open Go Go.RowKit

section
variable {P : Program} {ops : Array Oper} {md : Region.Mode} {C : (Nat → Bool) → World → Prop}
/-- What is asked of one operation's result. -/
def effUpon (P : Program) (K : World → Prop) (v : Value) : Result Next → Prop
  | .ok (.value u) w' => u = v ∧ K w'
  | .ok .skip w' => v = undef ∧ K w'
  | .ok (.enter f args) w' => Calls P f args w' (fun e w'' => e = .returned v ∧ K w'')
  | _ => False
def effAt (P : Program) (o : Oper) (a : Act) (v : Value) (K : World → Prop) (w : World) : Prop := effUpon P K v ((execOp a.eval o).run P w)
def onL (L : Nat → Bool) (k : Nat) : Nat → Bool := fun j => if j = k then true else L j
/-- Does an operation wait for another one? -/
def waitsFor (md : Region.Mode) (o : Oper) (j : Nat) : Bool := o.after.any fun e => Region.binds md e && e.on == j
def EffIn (md : Region.Mode) (P : Program) (ops : Array Oper) (C : (Nat → Bool) → World → Prop) (o : Oper) (k : Nat) (v : Value) (a : Act) : Prop :=
  ∀ L w, L k = false → (∀ j, waitsFor md o j = true → L j = true) → C L w → (Region.wanted o (yielded ops a.tmps) = true ∧ effAt P o a v (C (onL L k)) w) ∨ (Region.wanted o (yielded ops a.tmps) = false ∧ v = undef ∧ C (onL L k) w)
/-- The walk. -/
def wpEff (md : Region.Mode) (P : Program) (ops : Array Oper) (C : (Nat → Bool) → World → Prop) (Q : Act → Prop) : List Oper → Nat → Act → Prop
  | [], _, a => Q a
  | o :: rest, k, a => ∃ v, EffIn md P ops C o k v a ∧ wpEff md P ops C Q rest (k + 1) (a.put o.dst v)
theorem wpEff_cons {Q : Act → Prop} {o : Oper} {rest : List Oper} {k : Nat} {a : Act} {v : Value}
    (h1 : ∀ L w, L k = false → (∀ j, waitsFor md o j = true → L j = true) → C L w → (Region.wanted o (yielded ops a.tmps) = true ∧ effAt P o a v (C (onL L k)) w) ∨ (Region.wanted o (yielded ops a.tmps) = false ∧ v = undef ∧ C (onL L k) w))
    (h2 : wpEff md P ops C Q rest (k + 1) (a.put o.dst v)) : wpEff md P ops C Q (o :: rest) k a := ⟨v, h1, h2⟩
theorem wpEff_nil {Q : Act → Prop} {k : Nat} {a : Act} (h : Q a) : wpEff md P ops C Q [] k a := h
def effB (md : Region.Mode) (ops : Array Oper) : Bool :=
  Region.noSelect ops && (List.range ops.size).all fun k => match ops[k]? with
    | none => true
    | some o => (o.after.all fun e => !Region.binds md e || decide (e.on < k)) && (List.range ops.size).all fun j => decide (j ≤ k) || (match ops[j]? with
      | none => true
      | some oj => (oj.after.any fun e => Region.binds md e && e.on == k) || o.apart ops oj)
theorem effB_spec (h : effB md ops = true) : Region.noSelect ops = true ∧ ∀ k o, ops[k]? = some o → (∀ e ∈ o.after, Region.binds md e = true → e.on < k) ∧
    ∀ j oj, k < j → ops[j]? = some oj → (∃ e ∈ oj.after, Region.binds md e = true ∧ e.on = k) ∨ o.apart ops oj = true := by
  unfold effB at h
  rw [Bool.and_eq_true] at h
  refine ⟨h.1, fun k o ho => ?_⟩
  have hk : k < ops.size := (Array.getElem?_eq_some_iff.1 ho).1
  have h1 := List.all_eq_true.1 h.2 k (List.mem_range.2 hk)
  rw [ho] at h1
  simp only [Bool.and_eq_true] at h1
  refine ⟨fun e he hb => ?_, fun j oj hj hoj => ?_⟩
  · have h2 := Array.all_eq_true_iff_forall_mem.1 h1.1 e he
    rw [hb] at h2
    simpa using h2
  · have hjn : j < ops.size := (Array.getElem?_eq_some_iff.1 hoj).1
    have h2 := List.all_eq_true.1 h1.2 j (List.mem_range.2 hjn)
    rw [hoj] at h2
    simp only [Bool.or_eq_true, decide_eq_true_eq] at h2
    rcases h2 with h2 | h2 | h2
    · omega
    · rw [← Array.any_toList, List.any_eq_true] at h2
      obtain ⟨e, he, h3⟩ := h2
      simp only [Bool.and_eq_true, beq_iff_eq] at h3
      exact .inl ⟨e, by simpa using he, h3.1, h3.2⟩
    · exact .inr h2
/-- The frame behind some operations. -/
def dstOf (ops : Array Oper) (i : Nat) : Option Tmp := (ops[i]?).bind (·.dst)
def frameL (ops : Array Oper) (V : Nat → Value) (is : List Nat) (a : Act) : Act := is.foldl (fun a i => a.put (dstOf ops i) (V i)) a
theorem frameL_append (V : Nat → Value) (l m : List Nat) (a : Act) : frameL ops V (l ++ m) a = frameL ops V m (frameL ops V l a) := List.foldl_append
theorem put_ne (a : Act) (t : Tmp) (d : Option Tmp) (v : Value) (h : ∀ d', d = some d' → d' ≠ t) : (a.put d v).tmps[t]? = a.tmps[t]? := by
  cases d with
  | none => rfl
  | some d => simp [Act.put, Array.getElem?_setIfInBounds_ne (h d rfl)]
theorem put_agree (a b : Act) (t : Tmp) (d : Option Tmp) (v : Value) (h : a.tmps[t]? = b.tmps[t]?) : (a.put d v).tmps[t]? = (b.put d v).tmps[t]? := by
  cases d with
  | none => exact h
  | some d =>
    by_cases hdt : d = t
    · subst hdt
      have hsz : d < a.tmps.size ↔ d < b.tmps.size := by
        constructor
        · intro hl
          rcases Nat.lt_or_ge d b.tmps.size with h1 | h1
          · exact h1
          · rw [Array.getElem?_eq_none h1, Array.getElem?_eq_getElem hl] at h; cases h
        · intro hl
          rcases Nat.lt_or_ge d a.tmps.size with h1 | h1
          · exact h1
          · rw [Array.getElem?_eq_none h1, Array.getElem?_eq_getElem hl] at h; cases h
      simp only [Act.put, Array.getElem?_setIfInBounds_self]
      by_cases hl : d < a.tmps.size
      · rw [if_pos hl, if_pos (hsz.1 hl)]
      · rw [if_neg hl, if_neg (fun h => hl (hsz.2 h))]
    · have hne : ∀ d', some d = some d' → d' ≠ t := fun d' h1 h2 => hdt (by injection h1 with h1; rw [h1, h2])
      rw [put_ne _ _ _ _ hne, put_ne _ _ _ _ hne]
      exact h
theorem frameL_at (V : Nat → Value) (t : Tmp) (keep : Nat → Bool) (l : List Nat) (a b : Act) (hab : a.tmps[t]? = b.tmps[t]?) (h : ∀ i ∈ l, keep i = false → ∀ d, dstOf ops i = some d → d ≠ t) :
    (frameL ops V l a).tmps[t]? = (frameL ops V (l.filter keep) b).tmps[t]? := by
  induction l generalizing a b with
  | nil => exact hab
  | cons i l ih =>
    cases hk : keep i with
    | true =>
      rw [List.filter_cons_of_pos hk]
      exact ih _ _ (put_agree a b t _ _ hab) (fun j hj => h j (by simp [hj]))
    | false =>
      rw [List.filter_cons_of_neg (by simp [hk])]
      exact ih _ _ ((put_ne _ _ _ _ (h i (by simp) hk)).trans hab) (fun j hj => h j (by simp [hj]))
/-- Two frames that agree wherever an operation looks. -/
theorem frameL_looks (V : Nat → Value) (o : Oper) (hsel : ∀ cs b, o.op ≠ .select cs b) (keep : Nat → Bool) (l : List Nat) (a : Act) (h : ∀ i ∈ l, keep i = false → ∀ d, dstOf ops i = some d → d ∉ o.looksAt ops) :
    execOp (frameL ops V l a).eval o = execOp (frameL ops V (l.filter keep) a).eval o ∧ Region.wanted o (yielded ops (frameL ops V l a).tmps) = Region.wanted o (yielded ops (frameL ops V (l.filter keep) a).tmps) := by
  have hev : ∀ t, t ∈ o.looksAt ops → (frameL ops V l a).tmps[t]? = (frameL ops V (l.filter keep) a).tmps[t]? := fun t ht =>
    frameL_at V t keep l a a rfl fun i hi hk d hd e => h i hi hk d hd (by rw [e]; exact ht)
  refine ⟨execOp_congr o hsel fun x hx => ?_, ?_⟩
  · cases x with
    | tmp t =>
      have := hev t (List.mem_append_left _ (List.mem_filterMap.2 ⟨.tmp t, by simpa using hx, rfl⟩))
      simp only [Act.eval, Array.getD_eq_getD_getElem?, this]
    | _ => rfl
  · unfold Region.wanted
    cases hg : o.guard with
    | none => rfl
    | some gw =>
      obtain ⟨g, want⟩ := gw
      have hy : yielded ops (frameL ops V l a).tmps g = yielded ops (frameL ops V (l.filter keep) a).tmps g := by
        unfold yielded
        cases ht : (ops[g]?).bind (·.dst) with
        | none => rfl
        | some t =>
          have := hev t (by simp [Oper.looksAt, hg, ht])
          simp only [Option.bind_some, this]
      simp only [hy]
/-- The walk's values. -/
theorem wpEff_values {Q : Act → Prop} (l : List Oper) (k : Nat) (a : Act) (hl : ∀ j, l[j]? = ops[k + j]?) (h : wpEff md P ops C Q l k a) :
    ∃ V : Nat → Value, (∀ j o, l[j]? = some o → EffIn md P ops C o (k + j) (V (k + j)) (frameL ops V (List.range' k j) a)) ∧ Q (frameL ops V (List.range' k l.length) a) := by
  induction l generalizing k a with
  | nil => exact ⟨fun _ => undef, fun j o hj => (by simp at hj), h⟩
  | cons o l ih =>
    obtain ⟨v, he, hr⟩ := h
    obtain ⟨V, h1, h2⟩ := ih (k + 1) _ (fun j => by have := hl (j + 1); simpa [Nat.add_assoc, Nat.add_comm 1 j] using this) hr
    have hd : dstOf ops k = o.dst := by
      have := hl 0
      simp at this
      simp [dstOf, ← this]
    have hV : ∀ (m : List Nat) (b : Act), (∀ i ∈ m, k < i) → frameL ops (fun i => if i = k then v else V i) m b = frameL ops V m b := by
      intro m
      induction m with
      | nil => intro b _; rfl
      | cons i m ihm =>
        intro b hm
        show frameL ops _ m (b.put _ _) = frameL ops V m (b.put _ _)
        have hik : i ≠ k := by have := hm i (by simp); omega
        simp only [if_neg hik]
        exact ihm _ fun j hj => hm j (by simp [hj])
    have hF : ∀ j, frameL ops (fun i => if i = k then v else V i) (List.range' k (j + 1)) a = frameL ops V (List.range' (k + 1) j) (a.put o.dst v) := fun j => by
      rw [List.range'_succ]
      show frameL ops _ (List.range' (k + 1) j) (a.put (dstOf ops k) (if k = k then v else V k)) = _
      rw [if_pos rfl, hd]
      exact hV _ _ fun i hi => by have := (List.mem_range'_1.1 hi).1; omega
    refine ⟨fun i => if i = k then v else V i, fun j o' hj => ?_, ?_⟩
    · cases j with
      | zero =>
        simp at hj
        subst hj
        simpa [frameL] using he
      | succ j =>
        have hj' : l[j]? = some o' := by simpa using hj
        have := h1 j o' hj'
        rw [hF j]
        have e : k + (j + 1) = k + 1 + j := by omega
        simp only [e]
        rw [if_neg (by omega)]
        exact this
    · rw [List.length_cons, hF]
      exact h2
def Lof (listed : Array Bool) : Nat → Bool := fun j => listed.getD j false
theorem Lof_set {listed : Array Bool} {i : Nat} (hi : i < listed.size) : Lof (listed.setIfInBounds i true) = onL (Lof listed) i := by
  funext j
  unfold Lof onL
  by_cases h : j = i
  · subst h; simp [hi]
  · rw [if_neg h, getD_set_ne false (Ne.symm h)]
/-- How a state stands. -/
structure EffInv (ops : Array Oper) (md : Region.Mode) (C : (Nat → Bool) → World → Prop) (V : Nat → Value) (a0 : Act) (fuel : Nat) (listed : Array Bool) (a : Act) (w : World) : Prop where
  size : listed.size = ops.size
  down : ∀ j o, ops[j]? = some o → Lof listed j = true → ∀ e ∈ o.after, Region.binds md e = true → Lof listed e.on = true
  frame : a = frameL ops V ((List.range' 0 ops.size).filter (Lof listed)) a0
  cls : C (Lof listed) w
  cnt : fuel = ((List.range' 0 ops.size).filter (fun j => !Lof listed j)).length
theorem range_split (n i : Nat) (h : i < n) : List.range' 0 n = List.range' 0 i ++ i :: List.range' (i + 1) (n - i - 1) := by
  have e : n = i + ((n - i - 1) + 1) := by omega
  conv => lhs; rw [e]
  rw [← List.range'_append_1, Nat.zero_add, List.range'_succ]
theorem Lof_lt {listed : Array Bool} {j : Nat} (h : Lof listed j = true) : j < listed.size := by
  unfold Lof at h
  rcases Nat.lt_or_ge j listed.size with h1 | h1
  · exact h1
  · simp [h1] at h
theorem getD_tf {listed : Array Bool} {j : Nat} (h : listed.getD j true = false) : j < listed.size ∧ Lof listed j = false := by
  unfold Lof
  rcases Nat.lt_or_ge j listed.size with h1 | h1
  · refine ⟨h1, ?_⟩
    simp [h1] at h ⊢
    exact h
  · simp [h1] at h
theorem getD_ft {listed : Array Bool} {j : Nat} (hj : j < listed.size) (h : Lof listed j = false) : listed.getD j true = false := by
  unfold Lof at h
  simp [hj] at h ⊢
  exact h
theorem onL_filter {L : Nat → Bool} {i : Nat} (l : List Nat) (h : ∀ j ∈ l, j ≠ i) : l.filter (onL L i) = l.filter L :=
  List.filter_congr fun j hj => by unfold onL; rw [if_neg (h j hj)]
theorem frameL_comm (V : Nat → Value) (d : Option Tmp) (v : Value) (l : List Nat) (x : Act) (h : ∀ b ∈ l, ∀ t, d = some t → dstOf ops b ≠ some t) : (frameL ops V l x).put d v = frameL ops V l (x.put d v) := by
  induction l generalizing x with
  | nil => rfl
  | cons b l ih =>
    show (frameL ops V l (x.put (dstOf ops b) (V b))).put d v = frameL ops V l ((x.put d v).put (dstOf ops b) (V b))
    rw [ih _ (fun c hc => h c (by simp [hc])), Act.put_comm x v (V b) (h b (by simp))]
theorem dstOf_some {i : Nat} {o : Oper} (h : ops[i]? = some o) : dstOf ops i = o.dst := by simp [dstOf, h]
/-- One operation put. -/
theorem EffInv.step {V : Nat → Value} {a0 : Act} {fuel : Nat} {listed : Array Bool} {a : Act} {w w' : World} (hB : effB md ops = true) (h : EffInv ops md C V a0 (fuel + 1) listed a w) {i : Nat} {o : Oper} (hi : ops[i]? = some o)
    (hr : i ∈ Region.ready md ops listed) (hc : C (onL (Lof listed) i) w') : EffInv ops md C V a0 fuel (listed.setIfInBounds i true) (a.put o.dst (V i)) w' := by
  have hin : i < ops.size := (Array.getElem?_eq_some_iff.1 hi).1
  obtain ⟨h0, o', ho', hall⟩ := mem_ready.1 hr
  obtain rfl : o' = o := by rw [hi] at ho'; injection ho' with ho'; exact ho'.symm
  have hiL := (getD_tf h0).2
  have hset := Lof_set (listed := listed) (i := i) (by rw [h.size]; exact hin)
  have hsp := range_split ops.size i hin
  have hlo : ∀ j ∈ List.range' 0 i, j ≠ i := fun j hj => by have := (List.mem_range'_1.1 hj).2; omega
  have hhi : ∀ j ∈ List.range' (i + 1) (ops.size - i - 1), j ≠ i := fun j hj => by have := (List.mem_range'_1.1 hj).1; omega
  refine ⟨by simpa using h.size, fun j oj hj hjl e he hb => ?_, ?_, by rw [hset]; exact hc, ?_⟩
  · rw [hset] at hjl ⊢
    unfold onL at hjl ⊢
    split
    · rfl
    · by_cases hji : j = i
      · subst hji
        rw [hj] at hi
        injection hi with hi
        subst hi
        exact hall e he hb
      · rw [if_neg hji] at hjl
        exact h.down j oj hj hjl e he hb
  · rw [hset, hsp, List.filter_append, onL_filter _ hlo, List.filter_cons_of_pos (by simp [onL]), onL_filter _ hhi, h.frame, hsp, List.filter_append, List.filter_cons_of_neg (by simp [hiL]), frameL_append, frameL_append]
    have hcm := frameL_comm (ops := ops) V o'.dst (V i) ((List.range' (i + 1) (ops.size - i - 1)).filter (Lof listed)) (frameL ops V ((List.range' 0 i).filter (Lof listed)) a0) (fun b hb t ht => by
      obtain ⟨hb1, hb2⟩ := List.mem_filter.1 hb
      have hbi := (List.mem_range'_1.1 hb1).1
      have hbn : b < ops.size := by rw [← h.size]; exact Lof_lt hb2
      obtain ⟨ob, hob⟩ : ∃ ob, ops[b]? = some ob := ⟨_, Array.getElem?_eq_getElem hbn⟩
      rw [dstOf_some hob]
      rcases ((effB_spec hB).2 i _ hi).2 b ob (by omega) hob with ⟨e, he, h1, h2⟩ | hap
      · have := h.down b ob hob hb2 e he h1
        rw [h2, hiL] at this
        cases this
      · exact (Oper.apart_spec hap).2.1 t ht)
    rw [hcm]
    show _ = frameL ops V _ ((frameL ops V _ a0).put (dstOf ops i) (V i))
    rw [dstOf_some hi]
  · have h1 := h.cnt
    have e1 : (List.range' 0 ops.size).filter (fun j => !Lof listed j) = (List.range' 0 i).filter (fun j => !Lof listed j) ++ i :: (List.range' (i + 1) (ops.size - i - 1)).filter (fun j => !Lof listed j) := by
      rw [hsp, List.filter_append, List.filter_cons_of_pos (by simp [hiL])]
    have e2 : (List.range' 0 ops.size).filter (fun j => !Lof (listed.setIfInBounds i true) j) = (List.range' 0 i).filter (fun j => !Lof listed j) ++ (List.range' (i + 1) (ops.size - i - 1)).filter (fun j => !Lof listed j) := by
      rw [hset, hsp, List.filter_append, List.filter_cons_of_neg (by simp [onL])]
      congr 1
      · exact List.filter_congr fun j hj => by unfold onL; rw [if_neg (hlo j hj)]
      · exact List.filter_congr fun j hj => by unfold onL; rw [if_neg (hhi j hj)]
    rw [e1, List.length_append, List.length_cons] at h1
    rw [e2, List.length_append]
    omega
/-- Where an operation may come up it finds what it looks at as in the order of the text. -/
theorem EffInv.looks {V : Nat → Value} {a0 : Act} {fuel : Nat} {listed : Array Bool} {a : Act} {w : World} (hB : effB md ops = true) (h : EffInv ops md C V a0 fuel listed a w) {i : Nat} {o : Oper} (hi : ops[i]? = some o)
    (hr : i ∈ Region.ready md ops listed) : execOp a.eval o = execOp (frameL ops V (List.range' 0 i) a0).eval o ∧ Region.wanted o (yielded ops a.tmps) = Region.wanted o (yielded ops (frameL ops V (List.range' 0 i) a0).tmps) := by
  have hin : i < ops.size := (Array.getElem?_eq_some_iff.1 hi).1
  obtain ⟨h0, o', ho', hall⟩ := mem_ready.1 hr
  obtain rfl : o' = o := by rw [hi] at ho'; injection ho' with ho'; exact ho'.symm
  have hiL := (getD_tf h0).2
  have hsel : ∀ cs b, o'.op ≠ .select cs b := fun cs b => Region.noSelect_spec (effB_spec hB).1 i o' cs b hi
  have k1 := frameL_looks (ops := ops) V o' hsel (fun j => decide (j < i)) ((List.range' 0 ops.size).filter (Lof listed)) a0 (fun b hb hk d hd => by
    obtain ⟨hb1, hb2⟩ := List.mem_filter.1 hb
    have hbn : b < ops.size := by rw [← h.size]; exact Lof_lt hb2
    obtain ⟨ob, hob⟩ : ∃ ob, ops[b]? = some ob := ⟨_, Array.getElem?_eq_getElem hbn⟩
    have hbi : i < b := by
      have h1 : ¬ b < i := by simpa using hk
      have h2 : b ≠ i := fun e => by rw [e, hiL] at hb2; cases hb2
      omega
    rw [dstOf_some hob] at hd
    rcases ((effB_spec hB).2 i _ hi).2 b ob hbi hob with ⟨e, he, h1, h2⟩ | hap
    · have := h.down b ob hob hb2 e he h1
      rw [h2, hiL] at this
      cases this
    · exact (Oper.apart_spec hap).2.2 d hd)
  have k2 := frameL_looks (ops := ops) V o' hsel (Lof listed) (List.range' 0 i) a0 (fun b hb hk d hd => by
    have hbi := (List.mem_range'_1.1 hb).2
    have hbn : b < ops.size := by omega
    obtain ⟨ob, hob⟩ : ∃ ob, ops[b]? = some ob := ⟨_, Array.getElem?_eq_getElem hbn⟩
    rw [dstOf_some hob] at hd
    rcases ((effB_spec hB).2 b ob hob).2 i _ (by omega) hi with ⟨e, he, h1, h2⟩ | hap
    · have := hall e he h1
      rw [h2] at this
      unfold Lof at hk
      rw [hk] at this
      cases this
    · exact (Oper.apart_spec hap).1 d hd)
  have e : ((List.range' 0 ops.size).filter (Lof listed)).filter (fun j => decide (j < i)) = (List.range' 0 i).filter (Lof listed) := by
    rw [range_split ops.size i hin, List.filter_append, List.filter_append, List.filter_cons_of_neg (by simp [hiL])]
    have z1 : ((List.range' 0 i).filter (Lof listed)).filter (fun j => decide (j < i)) = (List.range' 0 i).filter (Lof listed) :=
      List.filter_eq_self.2 fun j hj => by
        have := (List.mem_range'_1.1 (List.mem_filter.1 hj).1).2
        exact decide_eq_true (by omega)
    have z2 : ((List.range' (i + 1) (ops.size - i - 1)).filter (Lof listed)).filter (fun j => decide (j < i)) = [] :=
      List.filter_eq_nil_iff.2 fun j hj => by
        have := (List.mem_range'_1.1 (List.mem_filter.1 hj).1).1
        simp; omega
    rw [z1, z2, List.append_nil]
  rw [e] at k1
  rw [h.frame]
  exact ⟨k1.1.trans k2.1.symm, k1.2.trans k2.2.symm⟩
/-- Whatever order is picked. -/
theorem wpAny_eff {V : Nat → Value} {a0 : Act} {Q : Exit → Act → World → Prop} (hB : effB md ops = true) (hV : ∀ j o, ops[j]? = some o → EffIn md P ops C o j (V j) (frameL ops V (List.range' 0 j) a0))
    (hQ : ∀ w, C (fun j => decide (j < ops.size)) w → Q .normal (frameL ops V (List.range' 0 ops.size) a0) w) (fuel : Nat) (listed : Array Bool) (a : Act) (w : World) (h : EffInv ops md C V a0 fuel listed a w) : wpAny P md ops Q fuel listed a w := by
  induction fuel generalizing listed a w with
  | zero =>
    have hnil := List.eq_nil_of_length_eq_zero h.cnt.symm
    have hal : ∀ j, j < ops.size → Lof listed j = true := fun j hj => by
      have := List.filter_eq_nil_iff.1 hnil j (List.mem_range'_1.2 ⟨by omega, by omega⟩)
      simpa using this
    have hLe : Lof listed = fun j => decide (j < ops.size) := by
      funext j
      by_cases hj : j < ops.size
      · rw [hal j hj, decide_eq_true hj]
      · rw [decide_eq_false hj]
        cases hx : Lof listed j with
        | false => rfl
        | true => exact absurd (h.size ▸ Lof_lt hx) hj
    refine ⟨?_, ?_⟩
    · refine List.eq_nil_iff_forall_not_mem.2 fun i hi => ?_
      obtain ⟨h0, _⟩ := mem_ready.1 hi
      obtain ⟨h1, h2⟩ := getD_tf h0
      rw [hal i (h.size ▸ h1)] at h2
      cases h2
    · have hf := h.frame
      rw [List.filter_eq_self.2 (fun j hj => hal j (by have := (List.mem_range'_1.1 hj).2; omega))] at hf
      rw [hf]
      exact hQ w (hLe ▸ h.cls)
  | succ fuel ih =>
    refine ⟨fun hnil => ?_, fun i hi => ?_⟩
    · exfalso
      have hal : ∀ k, k ≤ ops.size → ∀ j, j < k → Lof listed j = true := by
        intro k
        induction k with
        | zero => intro _ j hj; omega
        | succ k ihk =>
          intro hk j hj
          by_cases hjk : j < k
          · exact ihk (by omega) j hjk
          · obtain rfl : j = k := by omega
            cases hx : Lof listed j with
            | true => rfl
            | false =>
              exfalso
              obtain ⟨o, ho⟩ : ∃ o, ops[j]? = some o := ⟨_, Array.getElem?_eq_getElem (by omega)⟩
              have : j ∈ Region.ready md ops listed := mem_ready.2 ⟨getD_ft (by rw [h.size]; omega) hx, o, ho, fun e he hb => ihk (by omega) e.on (((effB_spec hB).2 j o ho).1 e he hb)⟩
              rw [hnil] at this
              cases this
      have := h.cnt
      rw [List.filter_eq_nil_iff.2 (fun j hj => by rw [hal ops.size (Nat.le_refl _) j (by have := (List.mem_range'_1.1 hj).2; omega)]; simp)] at this
      simp at this
    · obtain ⟨h0, o, ho, hal⟩ := mem_ready.1 hi
      obtain ⟨hex, hwa⟩ := h.looks hB ho hi
      have hE := hV i o ho (Lof listed) w (getD_tf h0).2 (fun j hj => by
        unfold waitsFor at hj
        rw [← Array.any_toList, List.any_eq_true] at hj
        obtain ⟨e, he, h3⟩ := hj
        simp only [Bool.and_eq_true, beq_iff_eq] at h3
        rw [← h3.2]
        exact hal e (by simpa using he) h3.1) h.cls
      unfold wpOp
      simp only [ho]
      rw [hwa]
      rcases hE with ⟨hw, hE⟩ | ⟨hw, hv, hE⟩
      · simp only [hw, if_true]
        refine .inl ?_
        unfold effAt at hE
        unfold Oper.wp
        rw [hex]
        generalize (execOp (frameL ops V (List.range' 0 i) a0).eval o).run P w = r at hE ⊢
        cases r with
        | ok n w' =>
          cases n <;> simp only [effUpon] at hE <;> simp only [Oper.upon]
          case value u =>
            obtain ⟨e1, e2⟩ := hE
            rw [e1]
            exact ih _ _ _ (h.step hB ho hi e2)
          case skip =>
            obtain ⟨e1, e2⟩ := hE
            rw [← e1]
            exact ih _ _ _ (h.step hB ho hi e2)
          case enter f args =>
            exact hE.mono fun e w'' ⟨he, hw''⟩ => by subst he; exact ih _ _ _ (h.step hB ho hi hw'')
        | halt x w' => simp only [effUpon] at hE
      · simp only [hw, Bool.false_eq_true, if_false]
        rw [← hv]
        exact ih _ _ _ (h.step hB ho hi hE)
/-- A drawn region, walked once. -/
theorem wp_region_eff {id : Nat} {Q : Exit → Act → World → Prop} {a : Act} {w : World} {l : List Oper} (C : (Nat → Bool) → World → Prop) (hm : P.follows .mixedOrders = true) (hB : effB .any l.toArray = true) (hC : C (fun _ => false) w.drew)
    (h : wpEff .any P l.toArray C (fun a' => ∀ w', C (fun j => decide (j < l.length)) w' → Q .normal a' w') l 0 a) : (Code.region id l.toArray true).wp P Q a w := by
  obtain ⟨V, h1, h2⟩ := wpEff_values l 0 a (fun j => by simp) h
  refine wp_region_any hm ?_
  have hL0 : Lof (Array.replicate l.toArray.size false) = fun _ => false := by
    funext j
    unfold Lof
    by_cases hj : j < l.length
    · simp [hj]
    · simp [Nat.le_of_not_lt hj]
  refine wpAny_eff (V := V) (a0 := a) hB (fun j o hj => ?_) (fun w' hw' => ?_) _ _ _ w.drew ⟨by simp, fun j o _ hj => (by rw [hL0] at hj; cases hj), ?_, by rw [hL0]; exact hC, ?_⟩
  · have := h1 j o (by simpa using hj)
    simpa using this
  · have := h2 w' (by simpa using hw')
    simpa using this
  · rw [hL0, List.filter_eq_nil_iff.2 (fun j _ => by simp)]; rfl
  · rw [hL0, List.filter_eq_self.2 (fun j _ => by simp)]; simp
end
end Go.Proofs.YtkjnlhidnkbelaaGreatDoor
