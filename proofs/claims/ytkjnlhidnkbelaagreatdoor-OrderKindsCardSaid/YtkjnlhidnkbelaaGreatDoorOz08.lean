/- Lemmas of the walks: OdL, OdT, OdB, OdC, OdP. (Laid together by shake.py.) -/
import Derived.Test.YtkjnlhidnkbelaaGreatDoorProg
import Derived.WalkKit
import Derived.Ground.NamesProg
import Derived.Shelf.Strings.SlTrimAscii
import Derived.Test.YtkjnlhidnkbelaaGreatDoorOz02
import Derived.Test.YtkjnlhidnkbelaaGreatDoorOz03
import Derived.Test.YtkjnlhidnkbelaaGreatDoorOz04
import Derived.Test.YtkjnlhidnkbelaaGreatDoorOz05
set_option linter.unusedVariables false
set_option linter.unusedSimpArgs false
namespace Go.Proofs
open Go.Shelf
def Tryz.lays160_ren : Go.Shelf.Ren := ⟨fun | 160 => 194 | 232 => 198 | 231 => 197 | 227 => 199 | 234 => 201 | 233 => 200 | 236 => 203 | 235 => 202 | 228 => 205 | 271 => 208 | 151 => 207 | 197 => 206 | 120 => 212 | 152 => 211 | 260 => 210 | 137 => 213 | 119 => 214 | 224 => 215 | 225 => 216 | 217 => 217 | 266 => 218 | n => n, fun | 9 => 9 | 4 => 4 | 3 => 3 | 5 => 5 | 117 => 312 | 116 => 311 | 0 => 0 | 124 => 315 | 21 => 21 | 105 => 318 | 46 => 189 | 119 => 322 | 139 => 325 | 138 => 324 | n => n, fun | 3 => 0 | 4 => 1 | n => n⟩
theorem Tryz.lays160 : Go.Proofs.Lays.n160 Tryz.prog Tryz.lays160_ren := {
  mixed := by kernel_rfl
  f119 := Tryz.func214.trans (congrArg some (by kernel_rfl))
  f120 := Tryz.func212.trans (congrArg some (by kernel_rfl))
  f137 := Tryz.func213.trans (congrArg some (by kernel_rfl))
  f151 := Tryz.func207.trans (congrArg some (by kernel_rfl))
  f152 := Tryz.func211.trans (congrArg some (by kernel_rfl))
  f160 := Tryz.func194.trans (congrArg some (by kernel_rfl))
  f197 := Tryz.func206.trans (congrArg some (by kernel_rfl))
  f217 := Tryz.func217.trans (congrArg some (by kernel_rfl))
  f224 := Tryz.func215.trans (congrArg some (by kernel_rfl))
  f225 := Tryz.func216.trans (congrArg some (by kernel_rfl))
  f227 := Tryz.func199.trans (congrArg some (by kernel_rfl))
  f228 := Tryz.func205.trans (congrArg some (by kernel_rfl))
  f231 := Tryz.func197.trans (congrArg some (by kernel_rfl))
  f232 := Tryz.func198.trans (congrArg some (by kernel_rfl))
  f233 := Tryz.func200.trans (congrArg some (by kernel_rfl))
  f234 := Tryz.func201.trans (congrArg some (by kernel_rfl))
  f235 := Tryz.func202.trans (congrArg some (by kernel_rfl))
  f236 := Tryz.func203.trans (congrArg some (by kernel_rfl))
  f260 := Tryz.func210.trans (congrArg some (by kernel_rfl))
  f266 := Tryz.func218.trans (congrArg some (by kernel_rfl))
  f271 := Tryz.func208.trans (congrArg some (by kernel_rfl))
  t0 := Tryz.underlying0
  a0 := Tryz.isAgg0
  z0 := Tryz.sizeOf0
  v0 := Tryz.zeroValue0
  t3 := Tryz.underlying3
  a3 := Tryz.isAgg3
  z3 := Tryz.sizeOf3
  v3 := Tryz.zeroValue3
  t4 := Tryz.underlying4
  a4 := Tryz.isAgg4
  z4 := Tryz.sizeOf4
  v4 := Tryz.zeroValue4
  t5 := Tryz.underlying5
  a5 := Tryz.isAgg5
  z5 := Tryz.sizeOf5
  v5 := Tryz.zeroValue5
  t9 := Tryz.underlying9
  a9 := Tryz.isAgg9
  z9 := Tryz.sizeOf9
  v9 := Tryz.zeroValue9
  t21 := Tryz.underlying21
  a21 := Tryz.isAgg21
  z21 := Tryz.sizeOf21
  v21 := Tryz.zeroValue21
  t46 := Tryz.underlying189
  a46 := Tryz.isAgg189
  z46 := Tryz.sizeOf189
  v46 := Tryz.zeroValue189
  t105 := Tryz.underlying318
  a105 := Tryz.isAgg318
  z105 := Tryz.sizeOf318
  v105 := Tryz.zeroValue318
  t116 := Tryz.underlying311
  a116 := Tryz.isAgg311
  z116 := Tryz.sizeOf311
  t117 := Tryz.underlying312
  a117 := Tryz.isAgg312
  z117 := Tryz.sizeOf312
  v117 := Tryz.zeroValue312
  t119 := Tryz.underlying322
  a119 := Tryz.isAgg322
  z119 := Tryz.sizeOf322
  t124 := Tryz.underlying315
  a124 := Tryz.isAgg315
  z124 := Tryz.sizeOf315
  v124 := Tryz.zeroValue315
  t138 := Tryz.underlying324
  a138 := Tryz.isAgg324
  z138 := Tryz.sizeOf324
  v138 := Tryz.zeroValue324
  t139 := Tryz.underlying325
  a139 := Tryz.isAgg325
  z139 := Tryz.sizeOf325
  v139 := Tryz.zeroValue325
  g3 := by kernel_rfl
  g4 := by kernel_rfl }
end Go.Proofs

namespace Go.Proofs.YtkjnlhidnkbelaaGreatDoor
open Go Go.RowKit Go.Shelf

/-- The letters of a value. -/
def valSet : List UInt8 := [97, 98, 99, 100, 101, 102, 103, 104, 105, 106, 107, 108, 109, 110, 111, 112, 113, 114, 115, 116, 117, 118, 119, 120, 121, 122, 48, 49, 50, 51, 52, 53, 54, 55, 56, 57, 45]
theorem valSet_is (b : UInt8) : valSet.contains b = valCh b := by
  have h : ∀ n : Fin 256, valSet.contains (UInt8.ofNat n.val) = valCh (UInt8.ofNat n.val) := by decide +kernel
  have h1 := h ⟨b.toNat, b.toNat_lt⟩
  simpa using h1
theorem drop_all (p : UInt8 → Bool) (m : List UInt8) (h : ∀ x ∈ m.dropWhile p, p x = true) : ∀ x ∈ m, p x = true := by
  induction m with
  | nil => intro x hx; cases hx
  | cons a m ih =>
    by_cases ha : p a = true
    · rw [List.dropWhile_cons_of_pos ha] at h
      intro x hx
      rcases List.mem_cons.1 hx with rfl | hx
      · exact ha
      · exact ih h x hx
    · rw [List.dropWhile_cons_of_neg ha] at h
      exact absurd (h a (by simp)) ha
theorem drop_nil (p : UInt8 → Bool) (m : List UInt8) : m.dropWhile p = [] ↔ ∀ x ∈ m, p x = true := by
  induction m with
  | nil => simp
  | cons a m ih =>
    by_cases ha : p a = true
    · rw [List.dropWhile_cons_of_pos ha, ih]; simp [ha]
    · rw [List.dropWhile_cons_of_neg ha]; simp [ha]
theorem trim_nil (l : List UInt8) : (Lib.trimS l valSet = []) ↔ l.all valCh = true := by
  have e : (fun x => valSet.contains x) = valCh := funext valSet_is
  unfold Lib.trimS Lib.trimLeftS Lib.trimRightS
  rw [e, drop_nil, List.all_eq_true]
  constructor
  · intro h
    have h1 : ∀ x ∈ l.reverse, valCh x = true := drop_all valCh l.reverse fun x hx => h x (by simpa using hx)
    intro x hx
    exact h1 x (by simpa using hx)
  · intro h x hx
    have h2 : x ∈ l.reverse.dropWhile valCh := by simpa using hx
    exact h x (by simpa using (List.dropWhile_sublist valCh).subset h2)
theorem trim_any (w : World) (l : List UInt8) (hl : l.length ≤ 140737488355328) :
    Calls Tryz.prog 194 #[.string ⟨l.toArray⟩, .string ⟨#[97, 98, 99, 100, 101, 102, 103, 104, 105, 106, 107, 108, 109, 110, 111, 112, 113, 114, 115, 116, 117, 118, 119, 120, 121, 122, 48, 49, 50, 51, 52, 53, 54, 55, 56, 57, 45]⟩] w
      fun e w' => e = .returned (.string ⟨(Lib.trimS l valSet).toArray⟩) ∧ Below w.heap.size w w' := by
  have h := Any.strings_Trim_laid Tryz.lays160 (by kernel_rfl) ⟨l.toArray⟩ ⟨#[97, 98, 99, 100, 101, 102, 103, 104, 105, 106, 107, 108, 109, 110, 111, 112, 113, 114, 115, 116, 117, 118, 119, 120, 121, 122, 48, 49, 50, 51, 52, 53, 54, 55, 56, 57, 45]⟩ w (by simp [ByteArray.size]; omega) (by decide) (ascii_of_all (by decide))
  exact h
end Go.Proofs.YtkjnlhidnkbelaaGreatDoor

namespace Go.Proofs.YtkjnlhidnkbelaaGreatDoor
open Go Go.RowKit

set_option maxRecDepth 100000 in
theorem cut_any (w : World) (n : Int) : Calls Tryz.prog 195 #[I64 n] w fun e w' => e = .returned (I64 (max (min n 1073741824) (-1073741824))) ∧ w = w' := by
  go_enter Tryz.func195, Tryz.ntmps195
  go_wp2_with fail
  go_ret
  exact ⟨rfl, rfl⟩
theorem kind_keys : U8MapKey Tryz.prog 89 := U8MapKey.of Tryz.underlying89
/-- What the three kinds of acts ask. -/
def act2B (a : ActT) : Bool := (decide (a.val.length ≤ 20) && a.val.all valCh) && decide (a.num = 0)
def act3B (a : ActT) : Bool := decide (a.val = []) && decide (a.num = max (min a.num 1073741824) (-1073741824))
def actK (a : ActT) (n : Int) : Option Value :=
  if n = 3 then some (.bool (act3B a)) else if n = 2 then some (.bool (act2B a)) else if n = 1 then some (.bool (decide (a.val = []) && decide (a.num = 0))) else none
theorem actOk_eq (a : ActT) : actOk a = (keyOk a.key && (match (actK a a.kind).getD (.bool false) with | .bool b => b | _ => false)) := by
  unfold actOk actK act2B act3B
  congr 1
  by_cases h3 : a.kind = 3
  · simp only [h3, if_true]
    rw [if_neg (by decide), if_neg (by decide)]
    simp only [Option.getD_some]
    congr 1
    rw [Bool.eq_iff_iff, decide_eq_true_eq, decide_eq_true_eq]
    omega
  · by_cases h2 : a.kind = 2
    · simp [h2]
    · by_cases h1 : a.kind = 1
      · simp [h1]
      · simp [h1, h2, h3]
theorem zb_any (w : World) : (zeroValue 4).run Tryz.prog w = .ok (.bool false) w := by kernel_rfl
def ifs3 (k : Int) (b1 b2 b3 : Bool) : Option Value := if k = 3 then some (.bool b3) else if k = 2 then some (.bool b2) else if k = 1 then some (.bool b1) else none
theorem ifs3_v (k : Int) (b1 b2 b3 : Bool) : ∃ v : Bool, (ifs3 k b1 b2 b3).getD (.bool false) = .bool v := by
  unfold ifs3
  split
  · exact ⟨_, rfl⟩
  · split
    · exact ⟨_, rfl⟩
    · split
      · exact ⟨_, rfl⟩
      · exact ⟨_, rfl⟩
/-- The map of act.right amid its three stores: operation 0 makes it, 2, 15 and 27 store. -/
def acMap (b1 b2 b3 : Bool) (L : Nat → Bool) (x : Int) : Option Value :=
  if L 27 = true ∧ x = 3 then some (.bool b3) else if L 15 = true ∧ x = 2 then some (.bool b2) else if L 2 = true ∧ x = 1 then some (.bool b1) else none
structure AcC (w2 : World) (b1 b2 b3 : Bool) (L : Nat → Bool) (w : World) : Prop where
  nw : Nw w2 w
  pre : L 0 = false → w.heap.size = w2.heap.size ∧ L 2 = false ∧ L 15 = false ∧ L 27 = false
  map : L 0 = true → MapU Tryz.prog 89 w w2.heap.size ((L 2).toNat + (L 15).toNat + (L 27).toNat) (acMap b1 b2 b3 L)
theorem acC_start (w2 : World) (b1 b2 b3 : Bool) : AcC w2 b1 b2 b3 (fun _ => false) w2.drew := ⟨(Fr.refl _ w2).drew, fun _ => ⟨rfl, rfl, rfl, rfl⟩, fun h => by cases h⟩
theorem AcC.keep {w2 w : World} {b1 b2 b3 : Bool} {L : Nat → Bool} (h : AcC w2 b1 b2 b3 L w) (k : Nat) (hk : k ≠ 0 ∧ k ≠ 2 ∧ k ≠ 15 ∧ k ≠ 27) : AcC w2 b1 b2 b3 (onL L k) w := by
  obtain ⟨h0, h2, h15, h27⟩ := hk
  have e0 : onL L k 0 = L 0 := if_neg (Ne.symm h0)
  have e2 : onL L k 2 = L 2 := if_neg (Ne.symm h2)
  have e15 : onL L k 15 = L 15 := if_neg (Ne.symm h15)
  have e27 : onL L k 27 = L 27 := if_neg (Ne.symm h27)
  refine ⟨h.nw, by rw [e0, e2, e15, e27]; exact h.pre, ?_⟩
  unfold acMap
  rw [e0, e2, e15, e27]
  exact h.map
theorem AcC.make {w2 w : World} {b1 b2 b3 : Bool} {L : Nat → Bool} (h : AcC w2 b1 b2 b3 L w) (hL : L 0 = false) :
    (Value.map (some w.heap.size) = .map (some w2.heap.size)) ∧ AcC w2 b1 b2 b3 (onL L 0) (w.alloc (.map #[] 0)) := by
  obtain ⟨hp, h2, h15, h27⟩ := h.pre hL
  refine ⟨by rw [hp], h.nw.alloc _, fun h => (by cases h), fun _ => ?_⟩
  have e2 : onL L 0 2 = false := h2
  have e15 : onL L 0 15 = false := h15
  have e27 : onL L 0 27 = false := h27
  unfold acMap
  rw [e2, e15, e27, ← hp]
  exact MapU.made w rfl
theorem AcC.put2 {w2 w : World} {b1 b2 b3 : Bool} {L : Nat → Bool} (h : AcC w2 b1 b2 b3 L w) (h0 : L 0 = true) (hL : L 2 = false) :
    ∃ w', (Instr.mapUpdate 307 (.map (some w2.heap.size)) (.int .u8 1) (.bool b1)).run Tryz.prog w = .ok () w' ∧ AcC w2 b1 b2 b3 (onL L 2) w' := by
  have M := h.map h0
  have hs := h.nw.size
  obtain ⟨w', r, M', f⟩ := M.put kind_keys (show Tryz.prog.underlying 307 = some (.map 89 4) from Tryz.underlying307) (by unfold maxLen; cases L 2 <;> cases L 15 <;> cases L 27 <;> decide) 1 (u8Wf (by omega)) (by unfold acMap; rw [hL]; simp) (.bool b1)
  refine ⟨w', r, h.nw.trans f (fun q e => .inr (by omega)), fun h => ?_, fun _ => ?_⟩
  · have e0 : onL L 2 0 = L 0 := rfl
    rw [e0, h0] at h
    cases h
  · have e1 : onL L 2 2 = true := rfl
    have e2 : onL L 2 15 = L 15 := rfl
    have e3 : onL L 2 27 = L 27 := rfl
    unfold acMap
    rw [e1, e2, e3]
    have hn : (L 2).toNat + (L 15).toNat + (L 27).toNat + 1 = (true).toNat + (L 15).toNat + (L 27).toNat := by
      rw [hL]
      simp
      try omega
    have hf : (fun x => if x = 1 then some (Value.bool b1) else acMap b1 b2 b3 L x) = (fun x => if L 27 = true ∧ x = 3 then some (.bool b3) else if L 15 = true ∧ x = 2 then some (.bool b2) else if true = true ∧ x = 1 then some (.bool b1) else none) := by
      funext x
      unfold acMap
      rw [hL]
      by_cases hx : x = 1
      · subst hx
        simp
      · simp [hx]
    rw [← hn]
    exact hf ▸ M'
theorem AcC.put15 {w2 w : World} {b1 b2 b3 : Bool} {L : Nat → Bool} (h : AcC w2 b1 b2 b3 L w) (h0 : L 0 = true) (hL : L 15 = false) :
    ∃ w', (Instr.mapUpdate 307 (.map (some w2.heap.size)) (.int .u8 2) (.bool b2)).run Tryz.prog w = .ok () w' ∧ AcC w2 b1 b2 b3 (onL L 15) w' := by
  have M := h.map h0
  have hs := h.nw.size
  obtain ⟨w', r, M', f⟩ := M.put kind_keys (show Tryz.prog.underlying 307 = some (.map 89 4) from Tryz.underlying307) (by unfold maxLen; cases L 2 <;> cases L 15 <;> cases L 27 <;> decide) 2 (u8Wf (by omega)) (by unfold acMap; rw [hL]; simp) (.bool b2)
  refine ⟨w', r, h.nw.trans f (fun q e => .inr (by omega)), fun h => ?_, fun _ => ?_⟩
  · have e0 : onL L 15 0 = L 0 := rfl
    rw [e0, h0] at h
    cases h
  · have e1 : onL L 15 15 = true := rfl
    have e2 : onL L 15 2 = L 2 := rfl
    have e3 : onL L 15 27 = L 27 := rfl
    unfold acMap
    rw [e1, e2, e3]
    have hn : (L 2).toNat + (L 15).toNat + (L 27).toNat + 1 = (L 2).toNat + (true).toNat + (L 27).toNat := by
      rw [hL]
      simp
      try omega
    have hf : (fun x => if x = 2 then some (Value.bool b2) else acMap b1 b2 b3 L x) = (fun x => if L 27 = true ∧ x = 3 then some (.bool b3) else if true = true ∧ x = 2 then some (.bool b2) else if L 2 = true ∧ x = 1 then some (.bool b1) else none) := by
      funext x
      unfold acMap
      rw [hL]
      by_cases hx : x = 2
      · subst hx
        simp
      · simp [hx]
    rw [← hn]
    exact hf ▸ M'
theorem AcC.put27 {w2 w : World} {b1 b2 b3 : Bool} {L : Nat → Bool} (h : AcC w2 b1 b2 b3 L w) (h0 : L 0 = true) (hL : L 27 = false) :
    ∃ w', (Instr.mapUpdate 307 (.map (some w2.heap.size)) (.int .u8 3) (.bool b3)).run Tryz.prog w = .ok () w' ∧ AcC w2 b1 b2 b3 (onL L 27) w' := by
  have M := h.map h0
  have hs := h.nw.size
  obtain ⟨w', r, M', f⟩ := M.put kind_keys (show Tryz.prog.underlying 307 = some (.map 89 4) from Tryz.underlying307) (by unfold maxLen; cases L 2 <;> cases L 15 <;> cases L 27 <;> decide) 3 (u8Wf (by omega)) (by unfold acMap; rw [hL]; simp) (.bool b3)
  refine ⟨w', r, h.nw.trans f (fun q e => .inr (by omega)), fun h => ?_, fun _ => ?_⟩
  · have e0 : onL L 27 0 = L 0 := rfl
    rw [e0, h0] at h
    cases h
  · have e1 : onL L 27 27 = true := rfl
    have e2 : onL L 27 2 = L 2 := rfl
    have e3 : onL L 27 15 = L 15 := rfl
    unfold acMap
    rw [e1, e2, e3]
    have hn : (L 2).toNat + (L 15).toNat + (L 27).toNat + 1 = (L 2).toNat + (L 15).toNat + (true).toNat := by
      rw [hL]
      simp
      try omega
    have hf : (fun x => if x = 3 then some (Value.bool b3) else acMap b1 b2 b3 L x) = (fun x => if true = true ∧ x = 3 then some (.bool b3) else if L 15 = true ∧ x = 2 then some (.bool b2) else if L 2 = true ∧ x = 1 then some (.bool b1) else none) := by
      funext x
      unfold acMap
      rw [hL]
      by_cases hx : x = 3
      · subst hx
        simp
      · simp [hx]
    rw [← hn]
    exact hf ▸ M'
theorem AcC.look {w2 w : World} {b1 b2 b3 : Bool} {L : Nat → Bool} (h : AcC w2 b1 b2 b3 L w) (h0 : L 0 = true) (h2 : L 2 = true) (h15 : L 15 = true) (h27 : L 27 = true) (k : Int) (hk : 0 ≤ k ∧ k ≤ 255) (v : Bool) (hv : (ifs3 k b1 b2 b3).getD (.bool false) = .bool v) :
    (Instr.lookup 307 (.map (some w2.heap.size)) (.int .u8 k) false).run Tryz.prog w = .ok (.bool v) w := by
  have M := (h.map h0).look1 kind_keys (show Tryz.prog.underlying 307 = some (.map 89 4) from Tryz.underlying307) (zb_any w) k (u8Wf hk)
  have e : acMap b1 b2 b3 L k = ifs3 k b1 b2 b3 := by
    unfold acMap ifs3
    rw [h2, h15, h27]
    simp
  rw [e, hv] at M
  exact M
set_option maxRecDepth 100000 in
set_option maxHeartbeats 8000000 in
theorem actRight1_any (w : World) (a : ActT) (hk : 0 ≤ a.kind ∧ a.kind ≤ 255) (h1 : a.key.length ≤ 140737488355328) (h2 : a.val.length ≤ 140737488355328) :
    Calls Tryz.prog 189 #[ActV a] w fun e w' => e = .returned (.bool (actOk a)) ∧ Nw w w' := by
  have hae := actOk_eq a
  unfold actK act2B act3B at hae
  obtain ⟨W0, hW0⟩ : ∃ W0, W0 = w.alloc (.cells #[.int .u8 a.kind, StrV a.key, StrV a.val, I64 a.num] 91) := ⟨_, rfl⟩
  have q0 : Nw w W0 := by rw [hW0]; exact (Fr.refl (fun _ => False) w).alloc _
  have b0 : Blk W0 w.heap.size 91 #[.int .u8 a.kind, StrV a.key, StrV a.val, I64 a.num] := by rw [hW0]; exact Blk.new w _ _
  have htr := trim_any W0 a.val h2
  have hrn := str_nil (Lib.trimS a.val valSet)
  rw [show decide (Lib.trimS a.val valSet = []) = a.val.all valCh from by rw [Bool.eq_iff_iff, decide_eq_true_eq]; exact trim_nil a.val] at hrn
  have hkey := fun w1 => spanKey_any w1 a.key h1
  have hcut := fun w1 => cut_any w1 a.num
  have hsz := str_size a.val
  have hnil := str_nil a.val
  obtain ⟨z, hz⟩ : ∃ z, decide (a.num = 0) = z := ⟨_, rfl⟩
  obtain ⟨c, hc⟩ : ∃ c, decide (a.num = max (min a.num 1073741824) (-1073741824)) = c := ⟨_, rfl⟩
  have hz2 : (a.num == 0) = z := by rw [← hz]; rfl
  have hc2 : (a.num == max (min a.num 1073741824) (-1073741824)) = c := by rw [← hc]; rfl
  obtain ⟨l, hl⟩ : ∃ l, decide (a.val.length ≤ 20) = l := ⟨_, rfl⟩
  have hl2 : decide ((a.val.length : Int) ≤ 20) = l := by rw [← hl]; congr 1; apply propext; omega
  obtain ⟨kb, hkb⟩ : ∃ kb, keyOk a.key = kb := ⟨_, rfl⟩
  rw [hkb] at hkey hae
  rw [hz, hc, hl] at hae
  have b0' : Blk W0 w.heap.size 91 #[.int .u8 a.kind, StrV a.key, .string ⟨a.val.toArray⟩, I64 a.num] := b0
  show Calls Tryz.prog 189 #[.agg #[.int .u8 a.kind, StrV a.key, .string ⟨a.val.toArray⟩, I64 a.num]] w fun e w' => e = .returned (.bool (actOk a)) ∧ Nw w w'
  have hW0' : W0 = w.alloc (.cells #[.int .u8 a.kind, StrV a.key, .string ⟨a.val.toArray⟩, I64 a.num] 91) := hW0
  clear hW0 b0 hz hc hl hkb
  generalize actOk a = res at hae ⊢
  generalize a.val.all valCh = t at hrn hae
  generalize decide (a.val = []) = e at hnil hae
  generalize (⟨a.val.toArray⟩ : ByteArray) = s at htr hsz hnil b0' hW0' ⊢
  generalize (⟨(Lib.trimS a.val valSet).toArray⟩ : ByteArray) = r at htr hrn
  generalize a.val.length = n at hsz hl2 h2
  have c0 : W0.cell? ⟨w.heap.size, 0, none⟩ = some (.int .u8 a.kind) := by simpa using b0'.cell 0
  have c2 : W0.cell? ⟨w.heap.size, 2, none⟩ = some (.string s) := by simpa using b0'.cell 2
  have c3 : W0.cell? ⟨w.heap.size, 3, none⟩ = some (I64 a.num) := by simpa using b0'.cell 3
  have HW0 := Lib.hid hW0'
  clear hW0'
  have hmm := @run_makeMap Tryz.prog
  obtain ⟨b1, hb1⟩ : ∃ b, b = (e && z) := ⟨_, rfl⟩
  obtain ⟨b2, hb2⟩ : ∃ b, b = ((l && t) && z) := ⟨_, rfl⟩
  obtain ⟨b3, hb3⟩ : ∃ b, b = (e && c) := ⟨_, rfl⟩
  obtain ⟨v, hv⟩ := ifs3_v a.kind b1 b2 b3
  rw [← hb1, ← hb2, ← hb3] at hae
  have hres : res = (kb && v) := by
    rw [hae]
    congr 1
    unfold ifs3 at hv
    rw [hv]
  subst hres
  clear hae
  have hpat : (e = true ∨ e = false) ∧ (l = false ∨ (l = true ∧ t = false) ∨ (l = true ∧ t = true)) := by cases e <;> cases l <;> cases t <;> simp
  have HV := Lib.hid hv
  clear hv
  have hst := fun w2 => acC_start w2 b1 b2 b3
  obtain ⟨rfl | rfl, rfl | ⟨rfl, rfl⟩ | ⟨rfl, rfl⟩⟩ := hpat
  all_goals
    simp only [Bool.true_and, Bool.false_and] at hb1 hb2 hb3
    subst hb1 hb2 hb3
    go_enter Tryz.func189, Tryz.ntmps189
    go_upto_region 1 with (fail)
    rw [← HW0.out]
    go_upto_region 3 with (go_at_call 194; refine htr.mono ?_; rintro e w2 ⟨rfl, hB⟩)
    have q2 : Nw W0 w2 := Fr.of_below hB
    have B2 := b0'.fr q2 (fun h => h)
    have hS : ∀ w', Nw w2 w' → w'.cell? ⟨w.heap.size, 2, none⟩ = some (.string s) ∧ w'.cell? ⟨w.heap.size, 3, none⟩ = some (I64 a.num) := fun w' f => by
      have h := B2.fr f (fun h => h)
      exact ⟨by simpa using h.cell 2, by simpa using h.cell 3⟩
    have hS2 : ∀ w', Nw w2 w' → w'.cell? ⟨w.heap.size, 0, none⟩ = some (.int .u8 a.kind) ∧ w'.cell? ⟨w.heap.size, 1, none⟩ = some (StrV a.key) := fun w' f => by
      have h := B2.fr f (fun h => h)
      exact ⟨by simpa using h.cell 0, by simpa using h.cell 1⟩
    clear c0 c2 c3
    refine wp_region_eff _ (by kernel_rfl) (by kernel_rfl) (hst w2) ?_
    clear hst
    apply wpEff_cons
    focus
      intro L wz hL hD hC
      refine .inl ⟨by rfl, ?_⟩
      unfold effAt
      go_simp
      exact hC.make hL
    simp only [Act.put, List.setIfInBounds_toArray, List.set_cons_zero, List.set_cons_succ]
    repeat (apply wpEff_cons; (focus (intro L wz hL hD hC; (first | exact .inr ⟨by rfl, rfl, hC.keep _ (by decide)⟩ | (refine .inl ⟨by rfl, ?_⟩; obtain ⟨y2, y3⟩ := hS wz hC.nw; unfold effAt; go_simp; exact ⟨rfl, hC.keep _ (by decide)⟩)))); simp only [Act.put, List.setIfInBounds_toArray, List.set_cons_zero, List.set_cons_succ])
    apply wpEff_cons
    focus
      intro L wz hL hD hC
      refine .inl ⟨by rfl, ?_⟩
      obtain ⟨w3, r3, h3⟩ := hC.put2 (hD 0 (by kernel_rfl)) hL
      unfold effAt
      go_simp
      exact ⟨rfl, h3⟩
    simp only [Act.put]
    repeat (apply wpEff_cons; (focus (intro L wz hL hD hC; (first | exact .inr ⟨by rfl, rfl, hC.keep _ (by decide)⟩ | (refine .inl ⟨by rfl, ?_⟩; obtain ⟨y2, y3⟩ := hS wz hC.nw; unfold effAt; go_simp; exact ⟨rfl, hC.keep _ (by decide)⟩)))); simp only [Act.put, List.setIfInBounds_toArray, List.set_cons_zero, List.set_cons_succ])
    apply wpEff_cons
    focus
      intro L wz hL hD hC
      refine .inl ⟨by rfl, ?_⟩
      obtain ⟨w3, r3, h3⟩ := hC.put15 (hD 0 (by kernel_rfl)) hL
      unfold effAt
      go_simp
      exact ⟨rfl, h3⟩
    simp only [Act.put]
    repeat (apply wpEff_cons; (focus (intro L wz hL hD hC; (first | exact .inr ⟨by rfl, rfl, hC.keep _ (by decide)⟩ | (refine .inl ⟨by rfl, ?_⟩; obtain ⟨y2, y3⟩ := hS wz hC.nw; unfold effAt; go_simp; exact ⟨rfl, hC.keep _ (by decide)⟩)))); simp only [Act.put, List.setIfInBounds_toArray, List.set_cons_zero, List.set_cons_succ])
    try (apply wpEff_cons; (focus (intro L wz hL hD hC; refine .inl ⟨by rfl, ?_⟩; unfold effAt; go_simp; refine (hcut _).mono ?_; rintro e w' ⟨rfl, rfl⟩; exact ⟨rfl, hC.keep _ (by decide)⟩)); simp only [Act.put, List.setIfInBounds_toArray, List.set_cons_zero, List.set_cons_succ])
    repeat (apply wpEff_cons; (focus (intro L wz hL hD hC; (first | exact .inr ⟨by rfl, rfl, hC.keep _ (by decide)⟩ | (refine .inl ⟨by rfl, ?_⟩; obtain ⟨y2, y3⟩ := hS wz hC.nw; unfold effAt; go_simp; exact ⟨rfl, hC.keep _ (by decide)⟩)))); simp only [Act.put, List.setIfInBounds_toArray, List.set_cons_zero, List.set_cons_succ])
    apply wpEff_cons
    focus
      intro L wz hL hD hC
      refine .inl ⟨by rfl, ?_⟩
      obtain ⟨w3, r3, h3⟩ := hC.put27 (hD 0 (by kernel_rfl)) hL
      unfold effAt
      go_simp
      exact ⟨rfl, h3⟩
    simp only [Act.put]
    repeat (apply wpEff_cons; (focus (intro L wz hL hD hC; (first | exact .inr ⟨by rfl, rfl, hC.keep _ (by decide)⟩ | (refine .inl ⟨by rfl, ?_⟩; obtain ⟨y2, y3⟩ := hS wz hC.nw; unfold effAt; go_simp; exact ⟨rfl, hC.keep _ (by decide)⟩)))); simp only [Act.put, List.setIfInBounds_toArray, List.set_cons_zero, List.set_cons_succ])
    refine wpEff_nil fun wz hC => ?_
    have hlk := hC.look rfl rfl rfl rfl a.kind hk v HV.out
    have qc := hC.nw
    obtain ⟨x0, x1⟩ := hS2 wz qc
    have Q := (q0.tr q2).tr qc
    clear hC hS hS2
    cases kb
    all_goals
      go_wp2_with (go_at_call 182; refine (hkey _).mono ?_; rintro e w' ⟨rfl, rfl⟩)
      go_ret
      exact ⟨by simp, Q⟩
end Go.Proofs.YtkjnlhidnkbelaaGreatDoor

namespace Go.Proofs.YtkjnlhidnkbelaaGreatDoor
open Go Go.RowKit

set_option maxRecDepth 100000 in
theorem actRightc_any (w : World) (a : ActT) (hk : 0 ≤ a.kind ∧ a.kind ≤ 255) (h1 : a.key.length ≤ 140737488355328) (h2 : a.val.length ≤ 140737488355328) :
    Calls Tryz.prog 188 #[ActV a] w fun e w' => e = .returned (.bool (!actOk a)) ∧ Nw w w' := by
  obtain ⟨W0, hW0⟩ : ∃ W0, W0 = w.alloc (.cells #[.int .u8 a.kind, StrV a.key, StrV a.val, I64 a.num] 91) := ⟨_, rfl⟩
  have q0 : Nw w W0 := by rw [hW0]; exact (Fr.refl (fun _ => False) w).alloc _
  have b0 : Blk W0 w.heap.size 91 #[.int .u8 a.kind, StrV a.key, StrV a.val, I64 a.num] := by rw [hW0]; exact Blk.new w _ _
  have hcon := actRight1_any W0 a hk h1 h2
  generalize actOk a = b at hcon ⊢
  have HW0 := Lib.hid hW0
  clear hW0
  go_enter Tryz.func188, Tryz.ntmps188
  go_upto_region 1 with (fail)
  rw [← HW0.out]
  go_wp2_with (first | (refine wpList_load_row rfl 91 _ rfl w.heap.size rfl 91 _ (0, 0) _ b0 Tryz.underlying91 rfl act_size ?_) | (go_at_call 189; refine hcon.mono ?_; rintro e w1 ⟨rfl, q1⟩))
  go_ret
  exact ⟨by simp, q0.tr q1⟩
/-- All acts before the k-th are right. -/
def ActTo (w : World) (l : List ActT) (i : Value) (wx : World) : Prop := ∃ k : Nat, k ≤ l.length ∧ i = .int .i64 k ∧ (∀ j (h : j < l.length), j < k → actOk l[j] = true) ∧ Nw w wx
set_option maxRecDepth 100000 in
theorem indexAct_any (w : World) (F : Nat → Prop) (A : Option Addr) (c : Nat) (l : List ActT) (hs : Sl w F A (actsCells l)) (hz : ActSz l) (hl : l.length ≤ 1000000000) :
    Calls Tryz.prog 193 #[.slice A l.length c, .func (.func 188) #[] #[]] w
      fun e w' => ∃ i : Int, e = .returned (.int .i64 i) ∧ (0 ≤ i ↔ l.all actOk = false) ∧ Nw w w' := by
  go_enter Tryz.func193, Tryz.ntmps193
  go_wp2_with fail
  go_loopw [8] (fun i wx => ActTo w l i wx) (fun i _ => l.length - (intOf i).toNat)
  case atStart => exact ⟨0, Nat.zero_le _, rfl, fun _ _ h => by omega, Fr.refl _ _⟩
  case round =>
    obtain ⟨k, hk, rfl, hok, hq⟩ := hrel
    have HK := Lib.hid hok
    clear hok
    by_cases hlt : k < l.length
    · obtain ⟨b, o, rfl, hF, hc1, hc2, hc3, hc4⟩ := (hs.fr hq (fun _ _ h => h)).act hlt
      have hzk := hz _ (List.getElem_mem hlt)
      have hcon := fun w => actRightc_any w l[k] hzk.1 hzk.2.1 hzk.2.2
      have HX := Lib.hid (rfl : actOk l[k] = actOk l[k])
      clear hzk
      obtain ⟨p, hp⟩ : ∃ p, actOk l[k] = p := ⟨_, rfl⟩
      rw [hp] at hcon HX
      have HP := Lib.hid hp
      clear hp
      cases p
      · go_wp2_with (go_at_call 188; refine (hcon _).mono ?_; rintro e w1 ⟨rfl, q1⟩)
        go_ret
        refine ⟨k, rfl, ⟨fun _ => ?_, fun _ => by omega⟩, hq.tr q1⟩
        refine Bool.eq_false_iff.2 fun h => ?_
        have := List.all_eq_true.1 h _ (List.getElem_mem hlt)
        rw [HP.out] at this
        cases this
      · go_wp2_with (go_at_call 188; refine (hcon _).mono ?_; rintro e w1 ⟨rfl, q1⟩)
        go_roundw
        case rel =>
          refine ⟨k + 1, by omega, rfl, fun j hj hjk => ?_, hq.tr q1⟩
          by_cases hjk2 : j < k
          · exact HK.out j hj hjk2
          · obtain rfl : j = k := by omega
            exact HP.out
        case measure => simp [intOf]; omega
    · go_wp2_with fail
      go_ret
      have e : l.all actOk = true := List.all_eq_true.2 fun x hx => by
        obtain ⟨j, hj, rfl⟩ := List.mem_iff_getElem.1 hx
        exact HK.out j hj (by omega)
      exact ⟨-1, rfl, ⟨fun h => by omega, fun h => by rw [e] at h; cases h⟩, hq⟩
theorem containsAct_any (w : World) (F : Nat → Prop) (A : Option Addr) (c : Nat) (l : List ActT) (hs : Sl w F A (actsCells l)) (hz : ActSz l) (hl : l.length ≤ 1000000000) :
    Calls Tryz.prog 187 #[.slice A l.length c, .func (.func 188) #[] #[]] w
      fun e w' => e = .returned (.bool (!l.all actOk)) ∧ Nw w w' := by
  go_enter Tryz.func187, Tryz.ntmps187
  go_wp2_with fail
  refine (indexAct_any w F A c l hs hz hl).mono ?_
  rintro e w1 ⟨i, rfl, hi, q1⟩
  have hd : decide (0 ≤ i) = !l.all actOk := by
    by_cases h0 : 0 ≤ i
    · rw [decide_eq_true h0, hi.1 h0]; rfl
    · have hn : l.all actOk = true := by
        cases h : l.all actOk with
        | true => rfl
        | false => exact (h0 (hi.2 h)).elim
      rw [decide_eq_false h0, hn]; rfl
  have HD := Lib.hid hd
  clear hd hi
  go_wp2_with fail
  go_ret
  exact ⟨congrArg (fun b => Ending.returned (.bool b)) HD.out, q1⟩
set_option maxRecDepth 100000 in
theorem actRight_any (w : World) (F : Nat → Prop) (A : Option Addr) (c : Nat) (l : List ActT) (hs : Sl w F A (actsCells l)) (hl : l.length ≤ 1000000000) (hz : ActSz l) :
    Calls Tryz.prog 178 #[.slice A l.length c] w fun e w' => e = .returned (.bool (actsOk l)) ∧ Nw w w' := by
  have hcon := containsAct_any w F A c l hs hz hl
  have hal : actsOk l = (decide (1 ≤ l.length ∧ l.length ≤ 6) && l.all actOk) := rfl
  generalize actsOk l = res at hal ⊢
  generalize l.all actOk = b at hal hcon
  generalize l.length = n at hal hcon hl ⊢
  have HA := Lib.hid hal
  clear hal
  by_cases h1 : 1 ≤ n
  · by_cases h2 : n ≤ 6
    · have d1 : decide ((1 : Int) ≤ (n : Int)) = true := by simp; omega
      have d2 : decide ((n : Int) ≤ 6) = true := by simp; omega
      have d3 : decide (1 ≤ n) = true := by simp; omega
      have d4 : decide (n ≤ 6) = true := by simp; omega
      have D := Lib.hid (decide_eq_true (⟨h1, h2⟩ : 1 ≤ n ∧ n ≤ 6))
      go_enter Tryz.func178, Tryz.ntmps178
      go_wp2_with (go_at_call 187; refine hcon.mono ?_; rintro e w1 ⟨rfl, q1⟩)
      go_ret
      exact ⟨retB (by rw [HA.out, D.out]; simp), q1⟩
    · have d1 : decide ((1 : Int) ≤ (n : Int)) = true := by simp; omega
      have d2 : decide ((n : Int) ≤ 6) = false := by simp; omega
      have D := Lib.hid (decide_eq_false (fun h => h2 h.2 : ¬ (1 ≤ n ∧ n ≤ 6)))
      go_enter Tryz.func178, Tryz.ntmps178
      go_wp2_with fail
      go_ret
      exact ⟨retB (by rw [HA.out, D.out]; simp), Fr.refl _ w⟩
  · have d1 : decide ((1 : Int) ≤ (n : Int)) = false := by simp; omega
    have D := Lib.hid (decide_eq_false (fun h => h1 h.1 : ¬ (1 ≤ n ∧ n ≤ 6)))
    go_enter Tryz.func178, Tryz.ntmps178
    go_wp2_with fail
    go_ret
    exact ⟨retB (by rw [HA.out, D.out]; simp), Fr.refl _ w⟩
theorem verOk_told (cm : Bool) (l : List Rdg) : verOk ((1, 1), cm, 1, l) = rdgsOk cm l := by
  unfold verOk rdgsOk
  have h : nmOk (1, 1) := by unfold nmOk; decide
  have h2 : (1 : Int) ≤ 1 ∧ (1 : Int) ≤ 1073741824 := by decide
  have h3 : decide (l.length = 0) = decide (l = []) := by cases l <;> simp
  simp only [decide_eq_true h, decide_eq_true h2, Bool.true_and, h3]
set_option maxRecDepth 100000 in
theorem told_any (w : World) (F : Nat → Prop) (cm : Bool) (A : Option Addr) (c : Nat) (l : List Rdg) (hs : Sl w F A (rdgsCells l)) (hc : l.length ≤ c ∧ c ≤ maxLen) (hz : l.length ≤ 1000000000 ∧ RdgSz l) :
    Calls Tryz.prog 52 #[.bool cm, .slice A l.length c] w fun e w' => e = .returned (.bool (rdgsOk cm l)) ∧ Nw w w' := by
  have hcon := right_one w F ((1, 1), cm, 1, l) A c hs hc.1 hc.2 hz w.heap.size rfl
  rw [verOk_told] at hcon
  generalize rdgsOk cm l = b at hcon ⊢
  go_enter Tryz.func52, Tryz.ntmps52
  go_wp2_with (go_at_call 102; refine hcon.mono ?_; rintro e w1 ⟨rfl, q1⟩)
  go_ret
  exact ⟨rfl, q1⟩
end Go.Proofs.YtkjnlhidnkbelaaGreatDoor

namespace Go.Proofs.YtkjnlhidnkbelaaGreatDoor
open Go Go.RowKit

/-- What a part does: it tells whether it is right, and takes it over. -/
def PartTo (w : World) (g : Nat) (k : Int) (ok : Bool) (y : OrdF) (q : Pl) (e : Ending) (w' : World) : Prop :=
  e = .returned (.bool ok) ∧ Blk w' g 31 (ofA (U8V k) y q) ∧ Fr (· = g) w w'
set_option maxRecDepth 100000 in
set_option maxHeartbeats 1000000 in
theorem op_name (w : World) (g : Nat) (k : Int) (x y : OrdF) (p q : Pl) (hb : Blk w g 31 (ofA (U8V k) y q)) :
    Calls Tryz.prog 139 #[.agg (ofA (U8V k) x p), .pointer (some ⟨g, 0, none⟩)] w fun e w' => PartTo w g k (partOk x .name) (partTo x y .name) (plTo p q .name) e w' := by
  obtain ⟨W0, hW0⟩ : ∃ W0, W0 = w.alloc (.cells (ofA (U8V k) x p) 31) := ⟨_, rfl⟩
  have q0 : Nw w W0 := by rw [hW0]; exact (Fr.refl (fun _ => False) w).alloc _
  have x0 : Blk W0 w.heap.size 31 (ofA (U8V k) x p) := by rw [hW0]; exact Blk.new w _ _
  have b0 := hb.fr q0 (fun h => h)
  have hgl := hb.lt
  have cg1 : W0.cell? ⟨g, 1, none⟩ = some (I64 y.nm.1) := by simpa using b0.cell 1
  have fg1 := b0.frozen 1
  have cx1 : W0.cell? ⟨w.heap.size, 1, none⟩ = some (I64 x.nm.1) := by simpa using x0.cell 1
  have cg2 : W0.cell? ⟨g, 2, none⟩ = some (I64 y.nm.2) := by simpa using b0.cell 2
  have fg2 := b0.frozen 2
  have cx2 : W0.cell? ⟨w.heap.size, 2, none⟩ = some (I64 x.nm.2) := by simpa using x0.cell 2
  obtain ⟨W1, hW1⟩ : ∃ W1, W1 = (W0.setCell ⟨g, 1, none⟩ (I64 x.nm.1)).setCell ⟨g, 2, none⟩ (I64 x.nm.2) := ⟨_, rfl⟩
  have f1 : Fr (· = g) w W1 := by rw [hW1]; exact (((Nw.on q0).set1 _ _).set1 _ _)
  have b1 : Blk W1 g 31 (ofA (U8V k) (partTo x y .name) (plTo p q .name)) := by rw [hW1]; exact ((b0.set_ 1 _).set_ 2 _)
  have x1 : Blk W1 w.heap.size 31 (ofA (U8V k) x p) := by rw [hW1]; exact ((x0.far (by simp; omega) _).far (by simp; omega) _)
  have dx1 : W1.cell? ⟨w.heap.size, 1, none⟩ = some (I64 x.nm.1) := by simpa using x1.cell 1
  have dx2 : W1.cell? ⟨w.heap.size, 2, none⟩ = some (I64 x.nm.2) := by simpa using x1.cell 2
  have hwi := actName_any W1 x.nm
  have HW0 := Lib.hid hW0
  have HW1 := Lib.hid hW1
  clear hW0 hW1
  go_enter Tryz.func139, Tryz.ntmps139
  go_upto_region 1 with (fail)
  rw [← HW0.out]
  go_upto_region 2 with (fail)
  rw [← HW1.out]
  go_wp2_with fail
  refine hwi.mono ?_
  rintro e w2 ⟨rfl, q2⟩
  go_wp2_with fail
  go_ret
  exact ⟨(by first | rfl | simp [partOk]), b1.fr q2 (fun h => h), f1.tr (Nw.on q2)⟩
set_option maxRecDepth 100000 in
set_option maxHeartbeats 1000000 in
theorem op_epoch (w : World) (g : Nat) (k : Int) (x y : OrdF) (p q : Pl) (hb : Blk w g 31 (ofA (U8V k) y q)) :
    Calls Tryz.prog 140 #[.agg (ofA (U8V k) x p), .pointer (some ⟨g, 0, none⟩)] w fun e w' => PartTo w g k (partOk x .epoch) (partTo x y .epoch) (plTo p q .epoch) e w' := by
  obtain ⟨W0, hW0⟩ : ∃ W0, W0 = w.alloc (.cells (ofA (U8V k) x p) 31) := ⟨_, rfl⟩
  have q0 : Nw w W0 := by rw [hW0]; exact (Fr.refl (fun _ => False) w).alloc _
  have x0 : Blk W0 w.heap.size 31 (ofA (U8V k) x p) := by rw [hW0]; exact Blk.new w _ _
  have b0 := hb.fr q0 (fun h => h)
  have hgl := hb.lt
  have cg3 : W0.cell? ⟨g, 3, none⟩ = some (I64 y.epoch) := by simpa using b0.cell 3
  have fg3 := b0.frozen 3
  have cx3 : W0.cell? ⟨w.heap.size, 3, none⟩ = some (I64 x.epoch) := by simpa using x0.cell 3
  obtain ⟨W1, hW1⟩ : ∃ W1, W1 = W0.setCell ⟨g, 3, none⟩ (I64 x.epoch) := ⟨_, rfl⟩
  have f1 : Fr (· = g) w W1 := by rw [hW1]; exact ((Nw.on q0).set1 _ _)
  have b1 : Blk W1 g 31 (ofA (U8V k) (partTo x y .epoch) (plTo p q .epoch)) := by rw [hW1]; exact (b0.set_ 3 _)
  have x1 : Blk W1 w.heap.size 31 (ofA (U8V k) x p) := by rw [hW1]; exact (x0.far (by simp; omega) _)
  have dx3 : W1.cell? ⟨w.heap.size, 3, none⟩ = some (I64 x.epoch) := by simpa using x1.cell 3
  have hwi := owithin_any W1 0 x.epoch 1073741824
  have HW0 := Lib.hid hW0
  have HW1 := Lib.hid hW1
  clear hW0 hW1
  go_enter Tryz.func140, Tryz.ntmps140
  go_upto_region 1 with (fail)
  rw [← HW0.out]
  go_upto_region 2 with (fail)
  rw [← HW1.out]
  go_wp2_with fail
  refine hwi.mono ?_
  rintro e w2 ⟨rfl, q2⟩
  go_wp2_with fail
  go_ret
  exact ⟨(by first | rfl | simp [partOk]), b1.fr q2 (fun h => h), f1.tr (Nw.on q2)⟩
set_option maxRecDepth 100000 in
set_option maxHeartbeats 1000000 in
theorem op_acts (w : World) (g : Nat) (k : Int) (x y : OrdF) (p q : Pl) (hb : Blk w g 31 (ofA (U8V k) y q)) (F : Nat → Prop) (hi : OrdIn w F x p) (hFg : ∀ j, F j → ¬ j = g) (hz : OrdSz x) :
    Calls Tryz.prog 141 #[.agg (ofA (U8V k) x p), .pointer (some ⟨g, 0, none⟩)] w fun e w' => PartTo w g k (partOk x .acts) (partTo x y .acts) (plTo p q .acts) e w' := by
  obtain ⟨W0, hW0⟩ : ∃ W0, W0 = w.alloc (.cells (ofA (U8V k) x p) 31) := ⟨_, rfl⟩
  have q0 : Nw w W0 := by rw [hW0]; exact (Fr.refl (fun _ => False) w).alloc _
  have x0 : Blk W0 w.heap.size 31 (ofA (U8V k) x p) := by rw [hW0]; exact Blk.new w _ _
  have b0 := hb.fr q0 (fun h => h)
  have hgl := hb.lt
  have cg4 : W0.cell? ⟨g, 4, none⟩ = some (.slice q.a y.acts.length q.ca) := by simpa using b0.cell 4
  have fg4 := b0.frozen 4
  have cx4 : W0.cell? ⟨w.heap.size, 4, none⟩ = some (.slice p.a x.acts.length p.ca) := by simpa using x0.cell 4
  obtain ⟨W1, hW1⟩ : ∃ W1, W1 = W0.setCell ⟨g, 4, none⟩ (.slice p.a x.acts.length p.ca) := ⟨_, rfl⟩
  have f1 : Fr (· = g) w W1 := by rw [hW1]; exact ((Nw.on q0).set1 _ _)
  have b1 : Blk W1 g 31 (ofA (U8V k) (partTo x y .acts) (plTo p q .acts)) := by rw [hW1]; exact (b0.set_ 4 _)
  have x1 : Blk W1 w.heap.size 31 (ofA (U8V k) x p) := by rw [hW1]; exact (x0.far (by simp; omega) _)
  have dx4 : W1.cell? ⟨w.heap.size, 4, none⟩ = some (.slice p.a x.acts.length p.ca) := by simpa using x1.cell 4
  have hwi := actRight_any W1 F p.a p.ca x.acts (hi.acts.fr f1 hFg) hz.acts.1 hz.acts.2
  have HW0 := Lib.hid hW0
  have HW1 := Lib.hid hW1
  clear hW0 hW1
  go_enter Tryz.func141, Tryz.ntmps141
  go_upto_region 1 with (fail)
  rw [← HW0.out]
  go_upto_region 2 with (fail)
  rw [← HW1.out]
  go_wp2_with fail
  refine hwi.mono ?_
  rintro e w2 ⟨rfl, q2⟩
  go_wp2_with fail
  go_ret
  exact ⟨(by first | rfl | simp [partOk]), b1.fr q2 (fun h => h), f1.tr (Nw.on q2)⟩
set_option maxRecDepth 100000 in
set_option maxHeartbeats 1000000 in
theorem op_commit (w : World) (g : Nat) (k : Int) (x y : OrdF) (p q : Pl) (hb : Blk w g 31 (ofA (U8V k) y q)) :
    Calls Tryz.prog 142 #[.agg (ofA (U8V k) x p), .pointer (some ⟨g, 0, none⟩)] w fun e w' => PartTo w g k (partOk x .commit) (partTo x y .commit) (plTo p q .commit) e w' := by
  obtain ⟨W0, hW0⟩ : ∃ W0, W0 = w.alloc (.cells (ofA (U8V k) x p) 31) := ⟨_, rfl⟩
  have q0 : Nw w W0 := by rw [hW0]; exact (Fr.refl (fun _ => False) w).alloc _
  have x0 : Blk W0 w.heap.size 31 (ofA (U8V k) x p) := by rw [hW0]; exact Blk.new w _ _
  have b0 := hb.fr q0 (fun h => h)
  have hgl := hb.lt
  have cg5 : W0.cell? ⟨g, 5, none⟩ = some (.bool y.commit) := by simpa using b0.cell 5
  have fg5 := b0.frozen 5
  have cx5 : W0.cell? ⟨w.heap.size, 5, none⟩ = some (.bool x.commit) := by simpa using x0.cell 5
  obtain ⟨W1, hW1⟩ : ∃ W1, W1 = W0.setCell ⟨g, 5, none⟩ (.bool x.commit) := ⟨_, rfl⟩
  have f1 : Fr (· = g) w W1 := by rw [hW1]; exact ((Nw.on q0).set1 _ _)
  have b1 : Blk W1 g 31 (ofA (U8V k) (partTo x y .commit) (plTo p q .commit)) := by rw [hW1]; exact (b0.set_ 5 _)
  have x1 : Blk W1 w.heap.size 31 (ofA (U8V k) x p) := by rw [hW1]; exact (x0.far (by simp; omega) _)
  have dx5 : W1.cell? ⟨w.heap.size, 5, none⟩ = some (.bool x.commit) := by simpa using x1.cell 5
  have HW0 := Lib.hid hW0
  have HW1 := Lib.hid hW1
  clear hW0 hW1
  go_enter Tryz.func142, Tryz.ntmps142
  go_upto_region 1 with (fail)
  rw [← HW0.out]
  go_upto_region 2 with (fail)
  rw [← HW1.out]
  go_wp2_with fail
  go_ret
  exact ⟨rfl, b1, f1⟩
set_option maxRecDepth 100000 in
set_option maxHeartbeats 1000000 in
theorem op_reads (w : World) (g : Nat) (k : Int) (x y : OrdF) (p q : Pl) (hb : Blk w g 31 (ofA (U8V k) y q)) (F : Nat → Prop) (hi : OrdIn w F x p) (hFg : ∀ j, F j → ¬ j = g) (hz : OrdSz x) :
    Calls Tryz.prog 146 #[.agg (ofA (U8V k) x p), .pointer (some ⟨g, 0, none⟩)] w fun e w' => PartTo w g k (partOk x .reads) (partTo x y .reads) (plTo p q .reads) e w' := by
  obtain ⟨W0, hW0⟩ : ∃ W0, W0 = w.alloc (.cells (ofA (U8V k) x p) 31) := ⟨_, rfl⟩
  have q0 : Nw w W0 := by rw [hW0]; exact (Fr.refl (fun _ => False) w).alloc _
  have x0 : Blk W0 w.heap.size 31 (ofA (U8V k) x p) := by rw [hW0]; exact Blk.new w _ _
  have b0 := hb.fr q0 (fun h => h)
  have hgl := hb.lt
  have cg6 : W0.cell? ⟨g, 6, none⟩ = some (.slice q.r y.reads.length q.cr) := by simpa using b0.cell 6
  have fg6 := b0.frozen 6
  have cx6 : W0.cell? ⟨w.heap.size, 6, none⟩ = some (.slice p.r x.reads.length p.cr) := by simpa using x0.cell 6
  obtain ⟨W1, hW1⟩ : ∃ W1, W1 = W0.setCell ⟨g, 6, none⟩ (.slice p.r x.reads.length p.cr) := ⟨_, rfl⟩
  have f1 : Fr (· = g) w W1 := by rw [hW1]; exact ((Nw.on q0).set1 _ _)
  have b1 : Blk W1 g 31 (ofA (U8V k) (partTo x y .reads) (plTo p q .reads)) := by rw [hW1]; exact (b0.set_ 6 _)
  have x1 : Blk W1 w.heap.size 31 (ofA (U8V k) x p) := by rw [hW1]; exact (x0.far (by simp; omega) _)
  have dx6 : W1.cell? ⟨w.heap.size, 6, none⟩ = some (.slice p.r x.reads.length p.cr) := by simpa using x1.cell 6
  have dx5 : W1.cell? ⟨w.heap.size, 5, none⟩ = some (.bool x.commit) := by simpa using x1.cell 5
  have hwi := told_any W1 F x.commit p.r p.cr x.reads (hi.reads.fr f1 hFg) hi.cr hz.reads
  have HW0 := Lib.hid hW0
  have HW1 := Lib.hid hW1
  clear hW0 hW1
  go_enter Tryz.func146, Tryz.ntmps146
  go_upto_region 1 with (fail)
  rw [← HW0.out]
  go_upto_region 2 with (fail)
  rw [← HW1.out]
  go_wp2_with fail
  refine hwi.mono ?_
  rintro e w2 ⟨rfl, q2⟩
  go_wp2_with fail
  go_ret
  exact ⟨(by first | rfl | simp [partOk]), b1.fr q2 (fun h => h), f1.tr (Nw.on q2)⟩
set_option maxRecDepth 100000 in
set_option maxHeartbeats 1000000 in
theorem op_scheme (w : World) (g : Nat) (k : Int) (x y : OrdF) (p q : Pl) (hb : Blk w g 31 (ofA (U8V k) y q)) :
    Calls Tryz.prog 143 #[.agg (ofA (U8V k) x p), .pointer (some ⟨g, 0, none⟩)] w fun e w' => PartTo w g k (partOk x .scheme) (partTo x y .scheme) (plTo p q .scheme) e w' := by
  obtain ⟨W0, hW0⟩ : ∃ W0, W0 = w.alloc (.cells (ofA (U8V k) x p) 31) := ⟨_, rfl⟩
  have q0 : Nw w W0 := by rw [hW0]; exact (Fr.refl (fun _ => False) w).alloc _
  have x0 : Blk W0 w.heap.size 31 (ofA (U8V k) x p) := by rw [hW0]; exact Blk.new w _ _
  have b0 := hb.fr q0 (fun h => h)
  have hgl := hb.lt
  have cg7 : W0.cell? ⟨g, 7, none⟩ = some (I64 y.scheme) := by simpa using b0.cell 7
  have fg7 := b0.frozen 7
  have cx7 : W0.cell? ⟨w.heap.size, 7, none⟩ = some (I64 x.scheme) := by simpa using x0.cell 7
  obtain ⟨W1, hW1⟩ : ∃ W1, W1 = W0.setCell ⟨g, 7, none⟩ (I64 x.scheme) := ⟨_, rfl⟩
  have f1 : Fr (· = g) w W1 := by rw [hW1]; exact ((Nw.on q0).set1 _ _)
  have b1 : Blk W1 g 31 (ofA (U8V k) (partTo x y .scheme) (plTo p q .scheme)) := by rw [hW1]; exact (b0.set_ 7 _)
  have x1 : Blk W1 w.heap.size 31 (ofA (U8V k) x p) := by rw [hW1]; exact (x0.far (by simp; omega) _)
  have dx7 : W1.cell? ⟨w.heap.size, 7, none⟩ = some (I64 x.scheme) := by simpa using x1.cell 7
  have hwi := owithin_any W1 1 x.scheme 1073741824
  have HW0 := Lib.hid hW0
  have HW1 := Lib.hid hW1
  clear hW0 hW1
  go_enter Tryz.func143, Tryz.ntmps143
  go_upto_region 1 with (fail)
  rw [← HW0.out]
  go_upto_region 2 with (fail)
  rw [← HW1.out]
  go_wp2_with fail
  refine hwi.mono ?_
  rintro e w2 ⟨rfl, q2⟩
  go_wp2_with fail
  go_ret
  exact ⟨(by first | rfl | simp [partOk]), b1.fr q2 (fun h => h), f1.tr (Nw.on q2)⟩
set_option maxRecDepth 100000 in
set_option maxHeartbeats 1000000 in
theorem op_stage (w : World) (g : Nat) (k : Int) (x y : OrdF) (p q : Pl) (hb : Blk w g 31 (ofA (U8V k) y q)) :
    Calls Tryz.prog 148 #[.agg (ofA (U8V k) x p), .pointer (some ⟨g, 0, none⟩)] w fun e w' => PartTo w g k (partOk x .stage) (partTo x y .stage) (plTo p q .stage) e w' := by
  obtain ⟨W0, hW0⟩ : ∃ W0, W0 = w.alloc (.cells (ofA (U8V k) x p) 31) := ⟨_, rfl⟩
  have q0 : Nw w W0 := by rw [hW0]; exact (Fr.refl (fun _ => False) w).alloc _
  have x0 : Blk W0 w.heap.size 31 (ofA (U8V k) x p) := by rw [hW0]; exact Blk.new w _ _
  have b0 := hb.fr q0 (fun h => h)
  have hgl := hb.lt
  have cg8 : W0.cell? ⟨g, 8, none⟩ = some (I64 y.stage) := by simpa using b0.cell 8
  have fg8 := b0.frozen 8
  have cx8 : W0.cell? ⟨w.heap.size, 8, none⟩ = some (I64 x.stage) := by simpa using x0.cell 8
  obtain ⟨W1, hW1⟩ : ∃ W1, W1 = W0.setCell ⟨g, 8, none⟩ (I64 x.stage) := ⟨_, rfl⟩
  have f1 : Fr (· = g) w W1 := by rw [hW1]; exact ((Nw.on q0).set1 _ _)
  have b1 : Blk W1 g 31 (ofA (U8V k) (partTo x y .stage) (plTo p q .stage)) := by rw [hW1]; exact (b0.set_ 8 _)
  have x1 : Blk W1 w.heap.size 31 (ofA (U8V k) x p) := by rw [hW1]; exact (x0.far (by simp; omega) _)
  have dx8 : W1.cell? ⟨w.heap.size, 8, none⟩ = some (I64 x.stage) := by simpa using x1.cell 8
  have hwi := owithin_any W1 0 x.stage 20
  have HW0 := Lib.hid hW0
  have HW1 := Lib.hid hW1
  clear hW0 hW1
  go_enter Tryz.func148, Tryz.ntmps148
  go_upto_region 1 with (fail)
  rw [← HW0.out]
  go_upto_region 2 with (fail)
  rw [← HW1.out]
  go_wp2_with fail
  refine hwi.mono ?_
  rintro e w2 ⟨rfl, q2⟩
  go_wp2_with fail
  go_ret
  exact ⟨(by first | rfl | simp [partOk]), b1.fr q2 (fun h => h), f1.tr (Nw.on q2)⟩
set_option maxRecDepth 100000 in
set_option maxHeartbeats 1000000 in
theorem op_group (w : World) (g : Nat) (k : Int) (x y : OrdF) (p q : Pl) (hb : Blk w g 31 (ofA (U8V k) y q)) :
    Calls Tryz.prog 147 #[.agg (ofA (U8V k) x p), .pointer (some ⟨g, 0, none⟩)] w fun e w' => PartTo w g k (partOk x .group) (partTo x y .group) (plTo p q .group) e w' := by
  obtain ⟨W0, hW0⟩ : ∃ W0, W0 = w.alloc (.cells (ofA (U8V k) x p) 31) := ⟨_, rfl⟩
  have q0 : Nw w W0 := by rw [hW0]; exact (Fr.refl (fun _ => False) w).alloc _
  have x0 : Blk W0 w.heap.size 31 (ofA (U8V k) x p) := by rw [hW0]; exact Blk.new w _ _
  have b0 := hb.fr q0 (fun h => h)
  have hgl := hb.lt
  have cg9 : W0.cell? ⟨g, 9, none⟩ = some (I64 y.to) := by simpa using b0.cell 9
  have fg9 := b0.frozen 9
  have cx9 : W0.cell? ⟨w.heap.size, 9, none⟩ = some (I64 x.to) := by simpa using x0.cell 9
  obtain ⟨W1, hW1⟩ : ∃ W1, W1 = W0.setCell ⟨g, 9, none⟩ (I64 x.to) := ⟨_, rfl⟩
  have f1 : Fr (· = g) w W1 := by rw [hW1]; exact ((Nw.on q0).set1 _ _)
  have b1 : Blk W1 g 31 (ofA (U8V k) (partTo x y .group) (plTo p q .group)) := by rw [hW1]; exact (b0.set_ 9 _)
  have x1 : Blk W1 w.heap.size 31 (ofA (U8V k) x p) := by rw [hW1]; exact (x0.far (by simp; omega) _)
  have dx9 : W1.cell? ⟨w.heap.size, 9, none⟩ = some (I64 x.to) := by simpa using x1.cell 9
  have hwi := owithin_any W1 1 x.to 4
  have HW0 := Lib.hid hW0
  have HW1 := Lib.hid hW1
  clear hW0 hW1
  go_enter Tryz.func147, Tryz.ntmps147
  go_upto_region 1 with (fail)
  rw [← HW0.out]
  go_upto_region 2 with (fail)
  rw [← HW1.out]
  go_wp2_with fail
  refine hwi.mono ?_
  rintro e w2 ⟨rfl, q2⟩
  go_wp2_with fail
  go_ret
  exact ⟨(by first | rfl | simp [partOk]), b1.fr q2 (fun h => h), f1.tr (Nw.on q2)⟩
set_option maxRecDepth 100000 in
set_option maxHeartbeats 1000000 in
theorem op_stretch (w : World) (g : Nat) (k : Int) (x y : OrdF) (p q : Pl) (hb : Blk w g 31 (ofA (U8V k) y q)) (hz : OrdSz x) :
    Calls Tryz.prog 144 #[.agg (ofA (U8V k) x p), .pointer (some ⟨g, 0, none⟩)] w fun e w' => PartTo w g k (partOk x .stretch) (partTo x y .stretch) (plTo p q .stretch) e w' := by
  obtain ⟨W0, hW0⟩ : ∃ W0, W0 = w.alloc (.cells (ofA (U8V k) x p) 31) := ⟨_, rfl⟩
  have q0 : Nw w W0 := by rw [hW0]; exact (Fr.refl (fun _ => False) w).alloc _
  have x0 : Blk W0 w.heap.size 31 (ofA (U8V k) x p) := by rw [hW0]; exact Blk.new w _ _
  have b0 := hb.fr q0 (fun h => h)
  have hgl := hb.lt
  have cg10 : W0.cell? ⟨g, 10, none⟩ = some (StrV y.lo) := by simpa using b0.cell 10
  have fg10 := b0.frozen 10
  have cx10 : W0.cell? ⟨w.heap.size, 10, none⟩ = some (StrV x.lo) := by simpa using x0.cell 10
  have cg11 : W0.cell? ⟨g, 11, none⟩ = some (StrV y.hi) := by simpa using b0.cell 11
  have fg11 := b0.frozen 11
  have cx11 : W0.cell? ⟨w.heap.size, 11, none⟩ = some (StrV x.hi) := by simpa using x0.cell 11
  obtain ⟨W1, hW1⟩ : ∃ W1, W1 = (W0.setCell ⟨g, 10, none⟩ (StrV x.lo)).setCell ⟨g, 11, none⟩ (StrV x.hi) := ⟨_, rfl⟩
  have f1 : Fr (· = g) w W1 := by rw [hW1]; exact (((Nw.on q0).set1 _ _).set1 _ _)
  have b1 : Blk W1 g 31 (ofA (U8V k) (partTo x y .stretch) (plTo p q .stretch)) := by rw [hW1]; exact ((b0.set_ 10 _).set_ 11 _)
  have x1 : Blk W1 w.heap.size 31 (ofA (U8V k) x p) := by rw [hW1]; exact ((x0.far (by simp; omega) _).far (by simp; omega) _)
  have dx10 : W1.cell? ⟨w.heap.size, 10, none⟩ = some (StrV x.lo) := by simpa using x1.cell 10
  have dx11 : W1.cell? ⟨w.heap.size, 11, none⟩ = some (StrV x.hi) := by simpa using x1.cell 11
  have hwi := spanRight_any W1 x.lo x.hi hz.lo hz.hi
  have HW0 := Lib.hid hW0
  have HW1 := Lib.hid hW1
  clear hW0 hW1
  go_enter Tryz.func144, Tryz.ntmps144
  go_upto_region 1 with (fail)
  rw [← HW0.out]
  go_upto_region 2 with (fail)
  rw [← HW1.out]
  go_wp2_with fail
  refine hwi.mono ?_
  rintro e w2 ⟨rfl, q2⟩
  go_wp2_with fail
  go_ret
  exact ⟨(by first | rfl | simp [partOk]), b1.fr q2 (fun h => h), f1.tr (Nw.on q2)⟩
set_option maxRecDepth 100000 in
set_option maxHeartbeats 1000000 in
theorem op_load (w : World) (g : Nat) (k : Int) (x y : OrdF) (p q : Pl) (hb : Blk w g 31 (ofA (U8V k) y q)) :
    Calls Tryz.prog 145 #[.agg (ofA (U8V k) x p), .pointer (some ⟨g, 0, none⟩)] w fun e w' => PartTo w g k (partOk x .load) (partTo x y .load) (plTo p q .load) e w' := by
  obtain ⟨W0, hW0⟩ : ∃ W0, W0 = w.alloc (.cells (ofA (U8V k) x p) 31) := ⟨_, rfl⟩
  have q0 : Nw w W0 := by rw [hW0]; exact (Fr.refl (fun _ => False) w).alloc _
  have x0 : Blk W0 w.heap.size 31 (ofA (U8V k) x p) := by rw [hW0]; exact Blk.new w _ _
  have b0 := hb.fr q0 (fun h => h)
  have hgl := hb.lt
  have cg12 : W0.cell? ⟨g, 12, none⟩ = some (.slice q.b y.bytes.length q.cb) := by simpa using b0.cell 12
  have fg12 := b0.frozen 12
  have cx12 : W0.cell? ⟨w.heap.size, 12, none⟩ = some (.slice p.b x.bytes.length p.cb) := by simpa using x0.cell 12
  obtain ⟨W1, hW1⟩ : ∃ W1, W1 = W0.setCell ⟨g, 12, none⟩ (.slice p.b x.bytes.length p.cb) := ⟨_, rfl⟩
  have f1 : Fr (· = g) w W1 := by rw [hW1]; exact ((Nw.on q0).set1 _ _)
  have b1 : Blk W1 g 31 (ofA (U8V k) (partTo x y .load) (plTo p q .load)) := by rw [hW1]; exact (b0.set_ 12 _)
  have x1 : Blk W1 w.heap.size 31 (ofA (U8V k) x p) := by rw [hW1]; exact (x0.far (by simp; omega) _)
  have dx12 : W1.cell? ⟨w.heap.size, 12, none⟩ = some (.slice p.b x.bytes.length p.cb) := by simpa using x1.cell 12
  obtain ⟨bn, hbn⟩ : ∃ bn, partOk x .load = bn := ⟨_, rfl⟩
  have hbd : decide ((x.bytes.length : Int) ≤ 65536) = bn := by rw [← hbn]; show decide _ = decide _; congr 1; apply propext; omega
  rw [hbn]
  clear hbn
  have HW0 := Lib.hid hW0
  have HW1 := Lib.hid hW1
  clear hW0 hW1
  go_enter Tryz.func145, Tryz.ntmps145
  go_upto_region 1 with (fail)
  rw [← HW0.out]
  go_upto_region 2 with (fail)
  rw [← HW1.out]
  go_wp2_with fail
  go_ret
  exact ⟨by rw [← hbd]; simp, b1, f1⟩
end Go.Proofs.YtkjnlhidnkbelaaGreatDoor
