/- Orders, by the document: told right. -/
import Derived.Test.YtkjnlhidnkbelaaGreatDoorOfB
namespace Go.Proofs.YtkjnlhidnkbelaaGreatDoor
open Go Go.RowKit

/-- What each kind has, by its signs. -/
def kindTexts : List (List UInt8) := [[110, 101, 97], [110, 99], [115, 112, 101], [115], [115, 112, 98], [115, 101], [115], [115], [110, 99, 114], [110], [112, 111], [115, 116], []]
abbrev kindCells : Array Value := #[.string ⟨#[110, 101, 97]⟩, .string ⟨#[110, 99]⟩, .string ⟨#[115, 112, 101]⟩, .string ⟨#[115]⟩, .string ⟨#[115, 112, 98]⟩, .string ⟨#[115, 101]⟩, .string ⟨#[115]⟩, .string ⟨#[115]⟩, .string ⟨#[110, 99, 114]⟩, .string ⟨#[110]⟩, .string ⟨#[112, 111]⟩, .string ⟨#[115, 116]⟩, .string ⟨#[]⟩]
theorem kindTexts_at (m : Nat) (h : m < 13) : kindTexts[m]? = some (signs (partsOf ((m : Int) + 1))) := by
  have : m = 0 ∨ m = 1 ∨ m = 2 ∨ m = 3 ∨ m = 4 ∨ m = 5 ∨ m = 6 ∨ m = 7 ∨ m = 8 ∨ m = 9 ∨ m = 10 ∨ m = 11 ∨ m = 12 := by omega
  rcases this with rfl | rfl | rfl | rfl | rfl | rfl | rfl | rfl | rfl | rfl | rfl | rfl | rfl <;> decide
/-- The parts before the j-th are right. -/
def RpTo (w : World) (x : OrdF) (l : List Part) (n : Nat) (i : Value) (wx : World) : Prop :=
  ∃ j : Nat, j ≤ n ∧ i = .int .i64 j ∧ (l.take j).all (partOk x) = true ∧ Nw w wx
set_option maxRecDepth 100000 in
set_option maxHeartbeats 4000000 in
theorem rright22_any (w : World) (F : Nat → Prop) (x : OrdF) (p : Pl) (hi : OrdIn w F x p) (hz : OrdSz x) :
    Calls Tryz.prog 28 #[.agg (ofA (I64 x.kind) x p)] w fun e w' => e = .returned (.bool (ordOk x)) ∧ Nw w w' := by
  obtain ⟨W0, hW0⟩ : ∃ W0, W0 = w.alloc (.cells (ofA (I64 x.kind) x p) 55) := ⟨_, rfl⟩
  have q0 : Nw w W0 := by rw [hW0]; exact (Fr.refl (fun _ => False) w).alloc _
  have x0 : Blk W0 w.heap.size 55 (ofA (I64 x.kind) x p) := by rw [hW0]; exact Blk.new w _ _
  have hz0 : W0.heap.size = w.heap.size + 1 := by rw [hW0]; simp
  have c0 : W0.cell? ⟨w.heap.size, 0, none⟩ = some (I64 x.kind) := by simpa using x0.cell 0
  have hok : ordOk x = ((kindOk x.kind && (partsOf x.kind).all (partOk x)) && decide (x = onlyF x (partsOf x.kind))) := rfl
  obtain ⟨r, hr⟩ : ∃ r, ordOk x = r := ⟨_, rfl⟩
  rw [hr] at hok ⊢
  have hwi := fun w => rfwithin_any w 1 x.kind 13
  have HW0 := Lib.hid hW0
  clear hr hW0
  by_cases hk : 1 ≤ x.kind ∧ x.kind ≤ 13
  · rw [decide_eq_true hk] at hwi
    obtain ⟨W1, hW1⟩ : ∃ W1, W1 = W0.alloc (.cells kindCells 9) := ⟨_, rfl⟩
    have q1 : Nw W0 W1 := by rw [hW1]; exact (Fr.refl (fun _ => False) W0).alloc _
    have s1 : Sl W1 (· = w.heap.size + 1) (some ⟨w.heap.size + 1, 0, none⟩) (kindTexts.map StrV) := by rw [hW1]; exact sl_new W0 9 (kindTexts.map StrV) _ hz0
    have x1 := x0.fr q1 (fun h => h)
    obtain ⟨m, hm⟩ : ∃ m : Nat, x.kind = (m : Int) + 1 := ⟨(x.kind - 1).toNat, by omega⟩
    have hm13 : m < 13 := by omega
    obtain ⟨hmt, hme⟩ := List.getElem?_eq_some_iff.1 (kindTexts_at m hm13)
    obtain ⟨b1, o1, e1, _, hc⟩ := s1.get hmt
    cases e1
    rw [hme, ← hm] at hc
    obtain ⟨l, hl⟩ : ∃ l, partsOf x.kind = l := ⟨_, rfl⟩
    rw [hl] at hc hok
    have hll : l.length ≤ 3 := hl ▸ parts_len x.kind
    have hkk : kindOk x.kind = true := decide_eq_true hk
    rw [hkk, Bool.true_and] at hok
    obtain ⟨L, hL⟩ : ∃ L, signs l = L := ⟨_, rfl⟩
    have hLl : L.length = l.length := by rw [← hL]; simp [signs]
    have hch : ∀ (k : Nat) (h : k < L.length) (h2 : k < l.length), L[k] = sgn l[k] := fun k h h2 => by
      subst hL
      simp [signs]
    have hsz := str_size L
    have hix2 : ∀ (w : World) (k : Nat) (h : k < l.length), (Instr.index 9 (.string ⟨L.toArray⟩) (.int .i64 (k : Int))).run Tryz.prog w = .ok (.int .u8 ((sgn l[k]).toNat : Int)) w := fun w k h => by
      rw [str_index w L k (by omega), hch k (by omega) h]
    have hon := fun w1 => ronly_any w1 x.kind x p l (by omega)
    rw [hL] at hon hc
    have hc : W1.cell? ⟨w.heap.size + 1, 0 + m, none⟩ = some (.string ⟨L.toArray⟩) := hc
    rw [hLl] at hsz
    have hon : ∀ w1, Calls Tryz.prog 83 #[.agg (ofA (I64 x.kind) x p), .string ⟨L.toArray⟩] w1 fun e w' => e = .returned (.agg (ofA (I64 x.kind) (onlyF x l) (plF p l))) ∧ Nw w1 w' := hon
    generalize (⟨L.toArray⟩ : ByteArray) = s at hsz hix2 hc hon
    have hsame := fun w1 (f : Nw w w1) => rsame_any w1 F F x (onlyF x l) p (plF p l) (hi.fr f (fun _ _ h => h)) ((only_in hi l).fr f (fun _ _ h => h)) hz
    rw [onlyF_kind] at hsame
    obtain ⟨d, hd⟩ : ∃ d, decide (x = onlyF x l) = d := ⟨_, rfl⟩
    simp only [hd] at hok hsame
    have hpart := fun (rr : Part) w1 (f : Nw w w1) => rp_any rr w1 F x.kind x p (hi.fr f (fun _ _ h => h)) hz
    have HO := Lib.hid hok
    have HW1 := Lib.hid hW1
    have HL := Lib.hid hL
    clear hW1 hok hl hch hL hd hme s1 hLl hi hz
    have hmi : 0 + m = x.kind.toNat - 1 := by omega
    rw [hmi] at hc
    have hz1 : W1.heap.size = w.heap.size + 2 := by rw [HW1.out]; simp [hz0]
    have hb0 : 0 ≤ x.kind - 1 := by omega
    have hb1 : x.kind - 1 < 13 := by omega
    have c1 : ∀ w1, Nw W1 w1 → w1.cell? ⟨w.heap.size, 0, none⟩ = some (I64 x.kind) := fun w1 f => by simpa using (x1.fr f (fun h => h)).cell 0
    clear hk hkk hm hmi hm13 hmt
    go_enter Tryz.func28, Tryz.ntmps28
    go_upto_region 1 with (fail)
    rw [← HW0.out]
    go_upto_region 2 with (fail)
    rw [← HW1.out]
    have c11 := c1 W1 (Fr.refl _ _)
    go_upto_region 4 with (go_at_call 81; refine (hwi _).mono ?_; rintro e w1 ⟨rfl, q2⟩)
    have c12 := c1 w1 q2
    have hc2 := hc
    rw [← q2.cell (by show w.heap.size + 1 < _; omega) (fun h => h)] at hc2
    go_upto_region 5 with (fail)
    have QW : Nw w w1 := (q0.tr q1).tr q2
    have x3 := x1.fr q2 (fun h => h)
    clear hc hc2 c11 c12
    go_wp2_with fail
    go_loopw [5] (fun i wx => RpTo w1 x l l.length i wx) (fun i _ => l.length - (intOf i).toNat)
    case atStart => exact ⟨0, Nat.zero_le _, rfl, by simp, Fr.refl _ _⟩
    case round =>
      obtain ⟨j, hj, rfl, hal, hq⟩ := hrel
      have HA := Lib.hid hal
      clear hal
      have xr := x3.fr hq (fun h => h)
      have hS : ∀ w2, Nw wr w2 → w2.cell? ⟨w.heap.size, 0, none⟩ = some (I64 x.kind) ∧ w2.cell? ⟨w.heap.size, 1, none⟩ = some (I64 x.nm.1) ∧ w2.cell? ⟨w.heap.size, 2, none⟩ = some (I64 x.nm.2) ∧ w2.cell? ⟨w.heap.size, 3, none⟩ = some (I64 x.epoch) ∧ w2.cell? ⟨w.heap.size, 4, none⟩ = some (.slice p.a x.acts.length p.ca) ∧ w2.cell? ⟨w.heap.size, 5, none⟩ = some (.bool x.commit) ∧ w2.cell? ⟨w.heap.size, 6, none⟩ = some (.slice p.r x.reads.length p.cr) ∧ w2.cell? ⟨w.heap.size, 7, none⟩ = some (I64 x.scheme) ∧ w2.cell? ⟨w.heap.size, 8, none⟩ = some (I64 x.stage) ∧ w2.cell? ⟨w.heap.size, 9, none⟩ = some (I64 x.to) ∧ w2.cell? ⟨w.heap.size, 10, none⟩ = some (StrV x.lo) ∧ w2.cell? ⟨w.heap.size, 11, none⟩ = some (StrV x.hi) ∧ w2.cell? ⟨w.heap.size, 12, none⟩ = some (.slice p.b x.bytes.length p.cb) := fun w2 f => by
        have a := xr.fr f (fun h => h)
        exact ⟨by simpa using a.cell 0, by simpa using a.cell 1, by simpa using a.cell 2, by simpa using a.cell 3, by simpa using a.cell 4, by simpa using a.cell 5, by simpa using a.cell 6, by simpa using a.cell 7, by simpa using a.cell 8, by simpa using a.cell 9, by simpa using a.cell 10, by simpa using a.cell 11, by simpa using a.cell 12⟩
      have s0 := hS wr (Fr.refl _ _)
      have sd := hS wr.drew (Fr.refl (fun _ => False) wr).drew
      have Qd : Nw wr wr.drew := (Fr.refl (fun _ => False) wr).drew
      by_cases hlt : j < l.length
      · have hx := fun w => hix2 w j hlt
        have hcon := fun w1 (f : Nw w w1) => hpart l[j] w1 f
        have han := all_snoc x l j hlt
        have hno : partOk x l[j] = false → l.all (partOk x) = false := fun h => Bool.eq_false_iff.2 fun h2 => by
          rw [List.all_eq_true.1 h2 _ (List.getElem_mem hlt)] at h
          cases h
        obtain ⟨ok, hok⟩ : ∃ ok, partOk x l[j] = ok := ⟨_, rfl⟩
        rw [hok] at han hno
        simp only [hok] at hcon
        obtain ⟨sg, hsg⟩ : ∃ sg : Int, ((sgn l[j]).toNat : Int) = sg := ⟨_, rfl⟩
        simp only [hsg] at hcon hx
        have HN := Lib.hid (And.intro han hno)
        have hcd := hcon wr.drew ((QW.tr hq).tr Qd)
        clear han hno hok hsg hcon hix2 hpart
        cases ok
        · go_upto_region 8 with (fail)
          go_region_held3 (fun w2 => w2.cell? ⟨w.heap.size, 0, none⟩ = some (I64 x.kind) ∧ w2.cell? ⟨w.heap.size, 1, none⟩ = some (I64 x.nm.1) ∧ w2.cell? ⟨w.heap.size, 2, none⟩ = some (I64 x.nm.2) ∧ w2.cell? ⟨w.heap.size, 3, none⟩ = some (I64 x.epoch) ∧ w2.cell? ⟨w.heap.size, 4, none⟩ = some (.slice p.a x.acts.length p.ca) ∧ w2.cell? ⟨w.heap.size, 5, none⟩ = some (.bool x.commit) ∧ w2.cell? ⟨w.heap.size, 6, none⟩ = some (.slice p.r x.reads.length p.cr) ∧ w2.cell? ⟨w.heap.size, 7, none⟩ = some (I64 x.scheme) ∧ w2.cell? ⟨w.heap.size, 8, none⟩ = some (I64 x.stage) ∧ w2.cell? ⟨w.heap.size, 9, none⟩ = some (I64 x.to) ∧ w2.cell? ⟨w.heap.size, 10, none⟩ = some (StrV x.lo) ∧ w2.cell? ⟨w.heap.size, 11, none⟩ = some (StrV x.hi) ∧ w2.cell? ⟨w.heap.size, 12, none⟩ = some (.slice p.b x.bytes.length p.cb)) (first | (exact sd) | (exact s1) | fail)
            ((first | (go_at_call 82; refine hcd.mono ?_; rintro e w4 ⟨rfl, q4⟩; have s1 := hS w4 (Qd.tr q4))))
          go_wp2_with fail
          go_ret
          exact ⟨retB (by rw [HO.out, HN.out.2 (by trivial)]; rfl), (QW.tr hq).tr (Qd.tr q4)⟩
        · go_upto_region 8 with (fail)
          go_region_held3 (fun w2 => w2.cell? ⟨w.heap.size, 0, none⟩ = some (I64 x.kind) ∧ w2.cell? ⟨w.heap.size, 1, none⟩ = some (I64 x.nm.1) ∧ w2.cell? ⟨w.heap.size, 2, none⟩ = some (I64 x.nm.2) ∧ w2.cell? ⟨w.heap.size, 3, none⟩ = some (I64 x.epoch) ∧ w2.cell? ⟨w.heap.size, 4, none⟩ = some (.slice p.a x.acts.length p.ca) ∧ w2.cell? ⟨w.heap.size, 5, none⟩ = some (.bool x.commit) ∧ w2.cell? ⟨w.heap.size, 6, none⟩ = some (.slice p.r x.reads.length p.cr) ∧ w2.cell? ⟨w.heap.size, 7, none⟩ = some (I64 x.scheme) ∧ w2.cell? ⟨w.heap.size, 8, none⟩ = some (I64 x.stage) ∧ w2.cell? ⟨w.heap.size, 9, none⟩ = some (I64 x.to) ∧ w2.cell? ⟨w.heap.size, 10, none⟩ = some (StrV x.lo) ∧ w2.cell? ⟨w.heap.size, 11, none⟩ = some (StrV x.hi) ∧ w2.cell? ⟨w.heap.size, 12, none⟩ = some (.slice p.b x.bytes.length p.cb)) (first | (exact sd) | (exact s1) | fail)
            ((first | (go_at_call 82; refine hcd.mono ?_; rintro e w4 ⟨rfl, q4⟩; have s1 := hS w4 (Qd.tr q4))))
          go_wp2_with fail
          go_roundw
          case rel => exact ⟨j + 1, by omega, rfl, by rw [HN.out.1, HA.out]; rfl, hq.tr (Qd.tr q4)⟩
          case measure => simp [intOf]; omega
      · have hjn : j = l.length := by omega
        have hall : l.all (partOk x) = true := by have := HA.out; rwa [hjn, List.take_length] at this
        have QV := (QW.tr hq).tr Qd
        have hod := hon wr.drew
        have hsd := fun w4 (f : Nw wr.drew w4) => hsame w4 (QV.tr f)
        have HH := Lib.hid hall
        clear hall hix2 hpart hon hsame
        go_upto_region 10 with (fail)
        go_region_held3 (fun w2 => w2.cell? ⟨w.heap.size, 0, none⟩ = some (I64 x.kind) ∧ w2.cell? ⟨w.heap.size, 1, none⟩ = some (I64 x.nm.1) ∧ w2.cell? ⟨w.heap.size, 2, none⟩ = some (I64 x.nm.2) ∧ w2.cell? ⟨w.heap.size, 3, none⟩ = some (I64 x.epoch) ∧ w2.cell? ⟨w.heap.size, 4, none⟩ = some (.slice p.a x.acts.length p.ca) ∧ w2.cell? ⟨w.heap.size, 5, none⟩ = some (.bool x.commit) ∧ w2.cell? ⟨w.heap.size, 6, none⟩ = some (.slice p.r x.reads.length p.cr) ∧ w2.cell? ⟨w.heap.size, 7, none⟩ = some (I64 x.scheme) ∧ w2.cell? ⟨w.heap.size, 8, none⟩ = some (I64 x.stage) ∧ w2.cell? ⟨w.heap.size, 9, none⟩ = some (I64 x.to) ∧ w2.cell? ⟨w.heap.size, 10, none⟩ = some (StrV x.lo) ∧ w2.cell? ⟨w.heap.size, 11, none⟩ = some (StrV x.hi) ∧ w2.cell? ⟨w.heap.size, 12, none⟩ = some (.slice p.b x.bytes.length p.cb)) (first | (exact sd) | (exact s1) | (exact s2) | fail)
          ((first | (go_at_call 83; refine hod.mono ?_; rintro e w4 ⟨rfl, q4⟩; have s1 := hS w4 (Qd.tr q4); have Q4 := QV.tr q4) | (go_at_call 18; refine (hsd w4 q4).mono ?_; rintro e w5 ⟨rfl, q5⟩; have s2 := hS w5 ((Qd.tr q4).tr q5); have Q5 := Q4.tr q5)))
        all_goals
          go_wp2_with fail
          go_ret
          exact ⟨retB (by rw [HO.out, HH.out]; rfl), Q5⟩
  · rw [decide_eq_false hk] at hwi
    have hkk : kindOk x.kind = false := decide_eq_false hk
    rw [hkk, Bool.false_and, Bool.false_and] at hok
    have HO := Lib.hid hok
    have c1 : ∀ w1, Nw W0 w1 → w1.cell? ⟨w.heap.size, 0, none⟩ = some (I64 x.kind) := fun w1 f => by simpa using (x0.fr f (fun h => h)).cell 0
    obtain ⟨W1, hW1⟩ : ∃ W1, W1 = W0.alloc (.cells kindCells 9) := ⟨_, rfl⟩
    have q1 : Nw W0 W1 := by rw [hW1]; exact (Fr.refl (fun _ => False) W0).alloc _
    have c11 := c1 W1 q1
    have HW1 := Lib.hid hW1
    clear hok hkk hk hW1
    go_enter Tryz.func28, Tryz.ntmps28
    go_upto_region 1 with (fail)
    rw [← HW0.out]
    go_upto_region 2 with (fail)
    rw [← HW1.out]
    go_wp2_with (go_at_call 81; refine (hwi _).mono ?_; rintro e w1 ⟨rfl, q2⟩)
    go_ret
    exact ⟨retB HO.out.symm, (q0.tr q1).tr q2⟩
end Go.Proofs.YtkjnlhidnkbelaaGreatDoor
