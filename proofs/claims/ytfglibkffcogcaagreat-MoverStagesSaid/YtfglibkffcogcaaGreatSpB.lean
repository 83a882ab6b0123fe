/- Spans, on either side. -/
import Derived.Test.YtfglibkffcogcaaGreatSpA
import Derived.Test.YtfglibkffcogcaaGreatMo
namespace Go.Proofs.YtfglibkffcogcaaGreat
open Go Go.RowKit

theorem str_list (l : List UInt8) : (⟨l.toArray⟩ : ByteArray).toList = l := by
  rw [ByteArray.toList_mk]
theorem less_irr (a : List UInt8) : Go.Op.bytesLess a a = false := by
  induction a with
  | nil => rfl
  | cons x a ih => simp [Go.Op.bytesLess, ih]
theorem less_total (a b : List UInt8) : (!(Go.Op.bytesLess a b || a == b)) = Go.Op.bytesLess b a := by
  induction a generalizing b with
  | nil => cases b <;> simp [Go.Op.bytesLess]
  | cons x a ih =>
    cases b with
    | nil => simp [Go.Op.bytesLess]
    | cons y b =>
      have h := ih b
      by_cases h1 : x < y
      · have h2 : ¬ y < x := by rw [UInt8.lt_iff_toNat_lt] at *; omega
        have h3 : (y == x) = false := by simp; rintro rfl; exact h2 h1
        simp [Go.Op.bytesLess, h1, h2, h3]
      · by_cases h4 : x = y
        · subst h4
          simp [Go.Op.bytesLess, h1, ← h]
        · have h2 : y < x := by rw [UInt8.lt_iff_toNat_lt] at *; have : x.toNat ≠ y.toNat := fun e => h4 (UInt8.toNat_inj.1 e); omega
          have h3 : (x == y) = false := by simpa using h4
          simp [Go.Op.bytesLess, h1, h2, h3]
theorem less_asym {a b : List UInt8} (h : Go.Op.bytesLess a b = true) : Go.Op.bytesLess b a = false := by
  rw [← less_total, h]; rfl
set_option maxRecDepth 100000 in
theorem isNaN_any (w : World) (a : List UInt8) : Calls Tryz.prog 128 #[StrV a] w fun e w' => e = .returned (.bool false) ∧ w = w' := by
  go_enter Tryz.func128, Tryz.ntmps128
  go_wp2_with fail
  go_ret
  exact ⟨by simp, rfl⟩
def cmpS (a b : List UInt8) : Int := if Go.Op.bytesLess a b = true then -1 else if Go.Op.bytesLess b a = true then 1 else 0
set_option maxRecDepth 100000 in
theorem compare_any (w : World) (a b : List UInt8) : Calls Tryz.prog 127 #[StrV a, StrV b] w fun e w' => e = .returned (.int .i64 (cmpS a b)) ∧ w = w' := by
  have h1 := isNaN_any w a
  have h2 := isNaN_any w b
  have htot := less_total a b
  go_enter Tryz.func127, Tryz.ntmps127
  go_wp2_with (go_at_call 128; first | (refine h1.mono ?_; rintro e w' ⟨rfl, rfl⟩) | (refine h2.mono ?_; rintro e w' ⟨rfl, rfl⟩))
  all_goals
    clear h1 h2
    go_ret
    refine ⟨?_, rfl⟩
    unfold cmpS
    rw [← htot]
    simp [*]
set_option maxRecDepth 100000 in
theorem none_any (w : World) (a : List UInt8) : Calls Tryz.prog 118 #[.agg #[StrV a]] w fun e w' => e = .returned (.bool (decide (a = []))) ∧ Nw w w' := by
  go_enter Tryz.func118, Tryz.ntmps118
  go_wp2_with fail
  go_ret
  exact ⟨by cases a <;> rfl, (Fr.refl (fun _ => False) w).alloc _⟩
set_option maxRecDepth 100000 in
theorem tcompare_any (w : World) (a b : List UInt8) : Calls Tryz.prog 126 #[.agg #[StrV a], .agg #[StrV b]] w fun e w' => e = .returned (.int .i64 (cmpS a b)) ∧ Nw w w' := by
  have h1 := fun w1 => compare_any w1 a b
  go_enter Tryz.func126, Tryz.ntmps126
  go_wp2_with (go_at_call 127; refine (h1 _).mono ?_; rintro e w' ⟨rfl, rfl⟩)
  go_ret
  exact ⟨rfl, ((Fr.refl (fun _ => False) w).alloc _).alloc _⟩
theorem results_two_rows {P : Program} {fn : Func} {p q : Tmp} {t1 t2 : TypeId} (h : fn.results = #[.cell p t1, .cell q t2]) (tmps : Array Value) (w : World) (g1 g2 : Nat) (c1 c2 : Array Value) (d1 d2 : TypeDesc)
    (hp : tmps.getD p undef = .pointer (some ⟨g1, 0, none⟩)) (hq : tmps.getD q undef = .pointer (some ⟨g2, 0, none⟩)) (h1 : Blk w g1 t1 c1) (h2 : Blk w g2 t2 c2)
    (hu1 : P.underlying t1 = some d1) (hd1 : (match d1 with | .struct _ | .array _ _ => true | _ => false) = true) (hi1 : (P.info? t1).map (·.size) = some c1.size)
    (hu2 : P.underlying t2 = some d2) (hd2 : (match d2 with | .struct _ | .array _ _ => true | _ => false) = true) (hi2 : (P.info? t2).map (·.size) = some c2.size) :
    (results fn tmps).run P w = .ok (.tuple #[.agg c1, .agg c2]) w := by
  have hp' : tmps[p]?.getD undef = .pointer (some ⟨g1, 0, none⟩) := by simpa using hp
  have hq' : tmps[q]?.getD undef = .pointer (some ⟨g2, 0, none⟩) := by simpa using hq
  simp [results, h, hp', hq', asAddr, run_loadVar_row w g1 t1 t1 c1 (0, 0) d1 h1 hu1 hd1 hi1, run_loadVar_row w g2 t2 t2 c2 (0, 0) d2 h2 hu2 hd2 hi2]
set_option maxRecDepth 100000 in
theorem ends_any (w : World) (a b : List UInt8) : Calls Tryz.prog 117 #[.agg #[StrV a, StrV b]] w fun e w' => e = .returned (.tuple #[.agg #[StrV a], .agg #[StrV b]]) ∧ Nw w w' := by
  obtain ⟨W, hW⟩ : ∃ W, W = (((w.alloc (.cells #[StrV a, StrV b] 31)).alloc (.cells #[.string ⟨a.toArray⟩] 238)).alloc (.cells #[.string ⟨b.toArray⟩] 239)).drew := ⟨_, rfl⟩
  have q : Nw w W := by rw [hW]; exact ((((Fr.refl (fun _ => False) w).alloc _).alloc _).alloc _).drew
  have b1 : Blk W (w.heap.size + 1) 238 #[StrV a] := by
    rw [hW]
    have h := Blk.new (w.alloc (.cells #[StrV a, StrV b] 31)) 238 #[.string ⟨a.toArray⟩]
    have h := (h.fr ((Fr.refl (fun _ => False) _).alloc (.cells #[.string ⟨b.toArray⟩] 239)) (fun h => h)).drew
    simpa using h
  have b2 : Blk W (w.heap.size + 1 + 1) 239 #[StrV b] := by
    rw [hW]
    have h := (Blk.new ((w.alloc (.cells #[StrV a, StrV b] 31)).alloc (.cells #[.string ⟨a.toArray⟩] 238)) 239 #[.string ⟨b.toArray⟩]).drew
    simpa using h
  have HW := Lib.hid hW
  clear hW
  go_enter Tryz.func117, Tryz.ntmps117
  go_wp2_with fail
  go_region
  rw [← HW.out]
  go_wp2_with fail
  refine bodyPost_ret (v := .tuple #[.agg #[StrV a], .agg #[StrV b]]) ?_ rfl ⟨rfl, q⟩
  exact results_two_rows rfl _ _ (w.heap.size + 1) (w.heap.size + 1 + 1) _ _ _ _ rfl rfl b1 b2 Tryz.underlying238 rfl (by kernel_rfl) Tryz.underlying239 rfl (by kernel_rfl)
/-- Is the end above? -/
def aboveB (hi lo : List UInt8) : Bool := decide (hi = []) || decide (0 < cmpS hi lo)
theorem above_less (hi lo : List UInt8) : aboveB hi lo = (decide (hi = []) || Go.Op.bytesLess lo hi) := by
  unfold aboveB cmpS
  cases h1 : Go.Op.bytesLess hi lo with
  | true => rw [less_asym h1]; simp
  | false => cases h2 : Go.Op.bytesLess lo hi <;> simp
set_option maxRecDepth 100000 in
theorem above_any (w : World) (hi lo : List UInt8) : Calls Tryz.prog 120 #[.agg #[StrV hi], .agg #[StrV lo]] w fun e w' => e = .returned (.bool (aboveB hi lo)) ∧ Nw w w' := by
  obtain ⟨W, hW⟩ : ∃ W, W = (w.alloc (.cells #[StrV hi] 239)).alloc (.cells #[StrV lo] 236) := ⟨_, rfl⟩
  have q : Nw w W := by rw [hW]; exact ((Fr.refl (fun _ => False) w).alloc _).alloc _
  have b1 : Blk W w.heap.size 239 #[StrV hi] := by
    rw [hW]
    exact (Blk.new w 239 #[StrV hi]).fr ((Fr.refl (fun _ => False) _).alloc (.cells #[StrV lo] 236)) (fun h => h)
  have b2 : Blk W (w.heap.size + 1) 236 #[StrV lo] := by
    rw [hW]
    have h := Blk.new (w.alloc (.cells #[StrV hi] 239)) 236 #[StrV lo]
    simpa using h
  have h1 := none_any W hi
  have h2 := fun w1 => tcompare_any w1 hi lo
  obtain ⟨n, hn⟩ : ∃ n, cmpS hi lo = n := ⟨_, rfl⟩
  obtain ⟨z, hz⟩ : ∃ z, decide (hi = []) = z := ⟨_, rfl⟩
  have hab : aboveB hi lo = (z || decide (0 < n)) := by unfold aboveB; rw [hn, hz]
  rw [hab]
  rw [hz] at h1
  simp only [hn] at h2
  have HW := Lib.hid hW
  clear hW hn hz hab
  go_enter Tryz.func120, Tryz.ntmps120
  go_upto_region 1 with (fail)
  rw [← HW.out]
  have c0 : W.cell? ⟨w.heap.size, 0, none⟩ = some (StrV hi) := by simpa using b1.cell 0
  go_wp2_with fail
  refine h1.mono ?_
  rintro e w1 ⟨rfl, q1⟩
  have d0 : w1.cell? ⟨w.heap.size, 0, none⟩ = some (StrV hi) := by simpa using (b1.fr q1 (fun h => h)).cell 0
  have d1 : w1.cell? ⟨w.heap.size + 1, 0, none⟩ = some (StrV lo) := by simpa using (b2.fr q1 (fun h => h)).cell 0
  cases z with
  | true =>
    go_wp2_with fail
    go_ret
    exact ⟨rfl, q.tr q1⟩
  | false =>
    go_wp2_with fail
    refine (h2 w1).mono ?_
    rintro e w2 ⟨rfl, q2⟩
    go_wp2_with fail
    go_ret
    exact ⟨by simp, (q.tr q1).tr q2⟩
end Go.Proofs.YtfglibkffcogcaaGreat
