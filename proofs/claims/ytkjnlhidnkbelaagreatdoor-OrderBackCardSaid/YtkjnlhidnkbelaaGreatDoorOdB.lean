/- Orders: acts told right, by the program. -/
import Derived.Test.YtkjnlhidnkbelaaGreatDoorGr4
import Derived.Test.YtkjnlhidnkbelaaGreatDoorOdT
import Derived.Test.YtkjnlhidnkbelaaGreatDoorGr5
import Derived.Test.YtkjnlhidnkbelaaGreatDoorGr5
import Derived.Test.YtkjnlhidnkbelaaGreatDoorGr5
namespace Go.Proofs.YtkjnlhidnkbelaaGreatDoor
open Go Go.RowKit

set_option maxRecDepth 100000 in
theorem cut_any (w : World) (n : Int) : Calls Tryz.prog 195 #[I64 n] w fun e w' => e = .returned (I64 (max (min n 1073741824) (-1073741824))) ∧ w = w' := by
  go_enter Tryz.func195, Tryz.ntmps195
  go_wp2_with fail
  go_ret
  exact ⟨rfl, rfl⟩
theorem kind_keys : U8MapKey Tryz.prog 89 := U8MapKey.of Tryz.underlying89
/-- What the three kinds of acts ask. -/
def act2B (a : ActT) : Bool := (decide (a.val.length ≤ 20) && a.val.all valCh) && decide (a.num = 0)
def act3B (a : ActT) : Bool := decide (a.val = []) && decide (a.num = max (min a.num 1073741824) (-1073741824))
def actK (a : ActT) (n : Int) : Option Value :=
  if n = 3 then some (.bool (act3B a)) else if n = 2 then some (.bool (act2B a)) else if n = 1 then some (.bool (decide (a.val = []) && decide (a.num = 0))) else none
theorem actOk_eq (a : ActT) : actOk a = (keyOk a.key && (match (actK a a.kind).getD (.bool false) with | .bool b => b | _ => false)) := by
  unfold actOk actK act2B act3B
  congr 1
  by_cases h3 : a.kind = 3
  · simp only [h3, if_true]
    rw [if_neg (by decide), if_neg (by decide)]
    simp only [Option.getD_some]
    congr 1
    rw [Bool.eq_iff_iff, decide_eq_true_eq, decide_eq_true_eq]
    omega
  · by_cases h2 : a.kind = 2
    · simp [h2]
    · by_cases h1 : a.kind = 1
      · simp [h1]
      · simp [h1, h2, h3]
theorem retV {v v' : Value} (h : v = v') : Ending.returned v = .returned v' := by rw [h]
theorem zb_any (w : World) : (zeroValue 4).run Tryz.prog w = .ok (.bool false) w := by kernel_rfl
def ifs3 (k : Int) (b1 b2 b3 : Bool) : Option Value := if k = 3 then some (.bool b3) else if k = 2 then some (.bool b2) else if k = 1 then some (.bool b1) else none
theorem ifs3_v (k : Int) (b1 b2 b3 : Bool) : ∃ v : Bool, (ifs3 k b1 b2 b3).getD (.bool false) = .bool v := by
  unfold ifs3
  split
  · exact ⟨_, rfl⟩
  · split
    · exact ⟨_, rfl⟩
    · split
      · exact ⟨_, rfl⟩
      · exact ⟨_, rfl⟩
/-- The map of act.right amid its three stores: operation 0 makes it, 2, 15 and 27 store. -/
def acMap (b1 b2 b3 : Bool) (L : Nat → Bool) (x : Int) : Option Value :=
  if L 27 = true ∧ x = 3 then some (.bool b3) else if L 15 = true ∧ x = 2 then some (.bool b2) else if L 2 = true ∧ x = 1 then some (.bool b1) else none
structure AcC (w2 : World) (b1 b2 b3 : Bool) (L : Nat → Bool) (w : World) : Prop where
  nw : Nw w2 w
  pre : L 0 = false → w.heap.size = w2.heap.size ∧ L 2 = false ∧ L 15 = false ∧ L 27 = false
  map : L 0 = true → MapU Tryz.prog 89 w w2.heap.size ((L 2).toNat + (L 15).toNat + (L 27).toNat) (acMap b1 b2 b3 L)
theorem acC_start (w2 : World) (b1 b2 b3 : Bool) : AcC w2 b1 b2 b3 (fun _ => false) w2.drew := ⟨(Fr.refl _ w2).drew, fun _ => ⟨rfl, rfl, rfl, rfl⟩, fun h => by cases h⟩
theorem AcC.keep {w2 w : World} {b1 b2 b3 : Bool} {L : Nat → Bool} (h : AcC w2 b1 b2 b3 L w) (k : Nat) (hk : k ≠ 0 ∧ k ≠ 2 ∧ k ≠ 15 ∧ k ≠ 27) : AcC w2 b1 b2 b3 (onL L k) w := by
  obtain ⟨h0, h2, h15, h27⟩ := hk
  have e0 : onL L k 0 = L 0 := if_neg (Ne.symm h0)
  have e2 : onL L k 2 = L 2 := if_neg (Ne.symm h2)
  have e15 : onL L k 15 = L 15 := if_neg (Ne.symm h15)
  have e27 : onL L k 27 = L 27 := if_neg (Ne.symm h27)
  refine ⟨h.nw, by rw [e0, e2, e15, e27]; exact h.pre, ?_⟩
  unfold acMap
  rw [e0, e2, e15, e27]
  exact h.map
theorem AcC.make {w2 w : World} {b1 b2 b3 : Bool} {L : Nat → Bool} (h : AcC w2 b1 b2 b3 L w) (hL : L 0 = false) :
    (Value.map (some w.heap.size) = .map (some w2.heap.size)) ∧ AcC w2 b1 b2 b3 (onL L 0) (w.alloc (.map #[] 0)) := by
  obtain ⟨hp, h2, h15, h27⟩ := h.pre hL
  refine ⟨by rw [hp], h.nw.alloc _, fun h => (by cases h), fun _ => ?_⟩
  have e2 : onL L 0 2 = false := h2
  have e15 : onL L 0 15 = false := h15
  have e27 : onL L 0 27 = false := h27
  unfold acMap
  rw [e2, e15, e27, ← hp]
  exact MapU.made w rfl
theorem AcC.put2 {w2 w : World} {b1 b2 b3 : Bool} {L : Nat → Bool} (h : AcC w2 b1 b2 b3 L w) (h0 : L 0 = true) (hL : L 2 = false) :
    ∃ w', (Instr.mapUpdate 307 (.map (some w2.heap.size)) (.int .u8 1) (.bool b1)).run Tryz.prog w = .ok () w' ∧ AcC w2 b1 b2 b3 (onL L 2) w' := by
  have M := h.map h0
  have hs := h.nw.size
  obtain ⟨w', r, M', f⟩ := M.put kind_keys (show Tryz.prog.underlying 307 = some (.map 89 4) from Tryz.underlying307) (by unfold maxLen; cases L 2 <;> cases L 15 <;> cases L 27 <;> decide) 1 (u8Wf (by omega)) (by unfold acMap; rw [hL]; simp) (.bool b1)
  refine ⟨w', r, h.nw.trans f (fun q e => .inr (by omega)), fun h => ?_, fun _ => ?_⟩
  · have e0 : onL L 2 0 = L 0 := rfl
    rw [e0, h0] at h
    cases h
  · have e1 : onL L 2 2 = true := rfl
    have e2 : onL L 2 15 = L 15 := rfl
    have e3 : onL L 2 27 = L 27 := rfl
    unfold acMap
    rw [e1, e2, e3]
    have hn : (L 2).toNat + (L 15).toNat + (L 27).toNat + 1 = (true).toNat + (L 15).toNat + (L 27).toNat := by
      rw [hL]
      simp
      try omega
    have hf : (fun x => if x = 1 then some (Value.bool b1) else acMap b1 b2 b3 L x) = (fun x => if L 27 = true ∧ x = 3 then some (.bool b3) else if L 15 = true ∧ x = 2 then some (.bool b2) else if true = true ∧ x = 1 then some (.bool b1) else none) := by
      funext x
      unfold acMap
      rw [hL]
      by_cases hx : x = 1
      · subst hx
        simp
      · simp [hx]
    rw [← hn]
    exact hf ▸ M'
theorem AcC.put15 {w2 w : World} {b1 b2 b3 : Bool} {L : Nat → Bool} (h : AcC w2 b1 b2 b3 L w) (h0 : L 0 = true) (hL : L 15 = false) :
    ∃ w', (Instr.mapUpdate 307 (.map (some w2.heap.size)) (.int .u8 2) (.bool b2)).run Tryz.prog w = .ok () w' ∧ AcC w2 b1 b2 b3 (onL L 15) w' := by
  have M := h.map h0
  have hs := h.nw.size
  obtain ⟨w', r, M', f⟩ := M.put kind_keys (show Tryz.prog.underlying 307 = some (.map 89 4) from Tryz.underlying307) (by unfold maxLen; cases L 2 <;> cases L 15 <;> cases L 27 <;> decide) 2 (u8Wf (by omega)) (by unfold acMap; rw [hL]; simp) (.bool b2)
  refine ⟨w', r, h.nw.trans f (fun q e => .inr (by omega)), fun h => ?_, fun _ => ?_⟩
  · have e0 : onL L 15 0 = L 0 := rfl
    rw [e0, h0] at h
    cases h
  · have e1 : onL L 15 15 = true := rfl
    have e2 : onL L 15 2 = L 2 := rfl
    have e3 : onL L 15 27 = L 27 := rfl
    unfold acMap
    rw [e1, e2, e3]
    have hn : (L 2).toNat + (L 15).toNat + (L 27).toNat + 1 = (L 2).toNat + (true).toNat + (L 27).toNat := by
      rw [hL]
      simp
      try omega
    have hf : (fun x => if x = 2 then some (Value.bool b2) else acMap b1 b2 b3 L x) = (fun x => if L 27 = true ∧ x = 3 then some (.bool b3) else if true = true ∧ x = 2 then some (.bool b2) else if L 2 = true ∧ x = 1 then some (.bool b1) else none) := by
      funext x
      unfold acMap
      rw [hL]
      by_cases hx : x = 2
      · subst hx
        simp
      · simp [hx]
    rw [← hn]
    exact hf ▸ M'
theorem AcC.put27 {w2 w : World} {b1 b2 b3 : Bool} {L : Nat → Bool} (h : AcC w2 b1 b2 b3 L w) (h0 : L 0 = true) (hL : L 27 = false) :
    ∃ w', (Instr.mapUpdate 307 (.map (some w2.heap.size)) (.int .u8 3) (.bool b3)).run Tryz.prog w = .ok () w' ∧ AcC w2 b1 b2 b3 (onL L 27) w' := by
  have M := h.map h0
  have hs := h.nw.size
  obtain ⟨w', r, M', f⟩ := M.put kind_keys (show Tryz.prog.underlying 307 = some (.map 89 4) from Tryz.underlying307) (by unfold maxLen; cases L 2 <;> cases L 15 <;> cases L 27 <;> decide) 3 (u8Wf (by omega)) (by unfold acMap; rw [hL]; simp) (.bool b3)
  refine ⟨w', r, h.nw.trans f (fun q e => .inr (by omega)), fun h => ?_, fun _ => ?_⟩
  · have e0 : onL L 27 0 = L 0 := rfl
    rw [e0, h0] at h
    cases h
  · have e1 : onL L 27 27 = true := rfl
    have e2 : onL L 27 2 = L 2 := rfl
    have e3 : onL L 27 15 = L 15 := rfl
    unfold acMap
    rw [e1, e2, e3]
    have hn : (L 2).toNat + (L 15).toNat + (L 27).toNat + 1 = (L 2).toNat + (L 15).toNat + (true).toNat := by
      rw [hL]
      simp
      try omega
    have hf : (fun x => if x = 3 then some (Value.bool b3) else acMap b1 b2 b3 L x) = (fun x => if true = true ∧ x = 3 then some (.bool b3) else if L 15 = true ∧ x = 2 then some (.bool b2) else if L 2 = true ∧ x = 1 then some (.bool b1) else none) := by
      funext x
      unfold acMap
      rw [hL]
      by_cases hx : x = 3
      · subst hx
        simp
      · simp [hx]
    rw [← hn]
    exact hf ▸ M'
theorem AcC.look {w2 w : World} {b1 b2 b3 : Bool} {L : Nat → Bool} (h : AcC w2 b1 b2 b3 L w) (h0 : L 0 = true) (h2 : L 2 = true) (h15 : L 15 = true) (h27 : L 27 = true) (k : Int) (hk : 0 ≤ k ∧ k ≤ 255) (v : Bool) (hv : (ifs3 k b1 b2 b3).getD (.bool false) = .bool v) :
    (Instr.lookup 307 (.map (some w2.heap.size)) (.int .u8 k) false).run Tryz.prog w = .ok (.bool v) w := by
  have M := (h.map h0).look1 kind_keys (show Tryz.prog.underlying 307 = some (.map 89 4) from Tryz.underlying307) (zb_any w) k (u8Wf hk)
  have e : acMap b1 b2 b3 L k = ifs3 k b1 b2 b3 := by
    unfold acMap ifs3
    rw [h2, h15, h27]
    simp
  rw [e, hv] at M
  exact M
set_option maxRecDepth 100000 in
set_option maxHeartbeats 8000000 in
theorem actRight1_any (w : World) (a : ActT) (hk : 0 ≤ a.kind ∧ a.kind ≤ 255) (h1 : a.key.length ≤ 140737488355328) (h2 : a.val.length ≤ 140737488355328) :
    Calls Tryz.prog 189 #[ActV a] w fun e w' => e = .returned (.bool (actOk a)) ∧ Nw w w' := by
  have hae := actOk_eq a
  unfold actK act2B act3B at hae
  obtain ⟨W0, hW0⟩ : ∃ W0, W0 = w.alloc (.cells #[.int .u8 a.kind, StrV a.key, StrV a.val, I64 a.num] 91) := ⟨_, rfl⟩
  have q0 : Nw w W0 := by rw [hW0]; exact (Fr.refl (fun _ => False) w).alloc _
  have b0 : Blk W0 w.heap.size 91 #[.int .u8 a.kind, StrV a.key, StrV a.val, I64 a.num] := by rw [hW0]; exact Blk.new w _ _
  have htr := trim_any W0 a.val h2
  have hrn := str_nil (Lib.trimS a.val valSet)
  rw [show decide (Lib.trimS a.val valSet = []) = a.val.all valCh from by rw [Bool.eq_iff_iff, decide_eq_true_eq]; exact trim_nil a.val] at hrn
  have hkey := fun w1 => spanKey_any w1 a.key h1
  have hcut := fun w1 => cut_any w1 a.num
  have hsz := str_size a.val
  have hnil := str_nil a.val
  obtain ⟨z, hz⟩ : ∃ z, decide (a.num = 0) = z := ⟨_, rfl⟩
  obtain ⟨c, hc⟩ : ∃ c, decide (a.num = max (min a.num 1073741824) (-1073741824)) = c := ⟨_, rfl⟩
  have hz2 : (a.num == 0) = z := by rw [← hz]; rfl
  have hc2 : (a.num == max (min a.num 1073741824) (-1073741824)) = c := by rw [← hc]; rfl
  obtain ⟨l, hl⟩ : ∃ l, decide (a.val.length ≤ 20) = l := ⟨_, rfl⟩
  have hl2 : decide ((a.val.length : Int) ≤ 20) = l := by rw [← hl]; congr 1; apply propext; omega
  obtain ⟨kb, hkb⟩ : ∃ kb, keyOk a.key = kb := ⟨_, rfl⟩
  rw [hkb] at hkey hae
  rw [hz, hc, hl] at hae
  have b0' : Blk W0 w.heap.size 91 #[.int .u8 a.kind, StrV a.key, .string ⟨a.val.toArray⟩, I64 a.num] := b0
  show Calls Tryz.prog 189 #[.agg #[.int .u8 a.kind, StrV a.key, .string ⟨a.val.toArray⟩, I64 a.num]] w fun e w' => e = .returned (.bool (actOk a)) ∧ Nw w w'
  have hW0' : W0 = w.alloc (.cells #[.int .u8 a.kind, StrV a.key, .string ⟨a.val.toArray⟩, I64 a.num] 91) := hW0
  clear hW0 b0 hz hc hl hkb
  generalize actOk a = res at hae ⊢
  generalize a.val.all valCh = t at hrn hae
  generalize decide (a.val = []) = e at hnil hae
  generalize (⟨a.val.toArray⟩ : ByteArray) = s at htr hsz hnil b0' hW0' ⊢
  generalize (⟨(Lib.trimS a.val valSet).toArray⟩ : ByteArray) = r at htr hrn
  generalize a.val.length = n at hsz hl2 h2
  have c0 : W0.cell? ⟨w.heap.size, 0, none⟩ = some (.int .u8 a.kind) := by simpa using b0'.cell 0
  have c2 : W0.cell? ⟨w.heap.size, 2, none⟩ = some (.string s) := by simpa using b0'.cell 2
  have c3 : W0.cell? ⟨w.heap.size, 3, none⟩ = some (I64 a.num) := by simpa using b0'.cell 3
  have HW0 := Lib.hid hW0'
  clear hW0'
  have hmm := @run_makeMap Tryz.prog
  obtain ⟨b1, hb1⟩ : ∃ b, b = (e && z) := ⟨_, rfl⟩
  obtain ⟨b2, hb2⟩ : ∃ b, b = ((l && t) && z) := ⟨_, rfl⟩
  obtain ⟨b3, hb3⟩ : ∃ b, b = (e && c) := ⟨_, rfl⟩
  obtain ⟨v, hv⟩ := ifs3_v a.kind b1 b2 b3
  rw [← hb1, ← hb2, ← hb3] at hae
  have hres : res = (kb && v) := by
    rw [hae]
    congr 1
    unfold ifs3 at hv
    rw [hv]
  subst hres
  clear hae
  have hpat : (e = true ∨ e = false) ∧ (l = false ∨ (l = true ∧ t = false) ∨ (l = true ∧ t = true)) := by cases e <;> cases l <;> cases t <;> simp
  have HV := Lib.hid hv
  clear hv
  have hst := fun w2 => acC_start w2 b1 b2 b3
  obtain ⟨rfl | rfl, rfl | ⟨rfl, rfl⟩ | ⟨rfl, rfl⟩⟩ := hpat
  all_goals
    simp only [Bool.true_and, Bool.false_and] at hb1 hb2 hb3
    subst hb1 hb2 hb3
    go_enter Tryz.func189, Tryz.ntmps189
    go_upto_region 1 with (fail)
    rw [← HW0.out]
    go_upto_region 3 with (go_at_call 194; refine htr.mono ?_; rintro e w2 ⟨rfl, hB⟩)
    have q2 : Nw W0 w2 := Fr.of_below hB
    have B2 := b0'.fr q2 (fun h => h)
    have hS : ∀ w', Nw w2 w' → w'.cell? ⟨w.heap.size, 2, none⟩ = some (.string s) ∧ w'.cell? ⟨w.heap.size, 3, none⟩ = some (I64 a.num) := fun w' f => by
      have h := B2.fr f (fun h => h)
      exact ⟨by simpa using h.cell 2, by simpa using h.cell 3⟩
    have hS2 : ∀ w', Nw w2 w' → w'.cell? ⟨w.heap.size, 0, none⟩ = some (.int .u8 a.kind) ∧ w'.cell? ⟨w.heap.size, 1, none⟩ = some (StrV a.key) := fun w' f => by
      have h := B2.fr f (fun h => h)
      exact ⟨by simpa using h.cell 0, by simpa using h.cell 1⟩
    clear c0 c2 c3
    refine wp_region_eff _ (by kernel_rfl) (by kernel_rfl) (hst w2) ?_
    clear hst
    apply wpEff_cons
    focus
      intro L wz hL hD hC
      refine .inl ⟨by rfl, ?_⟩
      unfold effAt
      go_simp
      exact hC.make hL
    simp only [Act.put, List.setIfInBounds_toArray, List.set_cons_zero, List.set_cons_succ]
    repeat (apply wpEff_cons; (focus (intro L wz hL hD hC; (first | exact .inr ⟨by rfl, rfl, hC.keep _ (by decide)⟩ | (refine .inl ⟨by rfl, ?_⟩; obtain ⟨y2, y3⟩ := hS wz hC.nw; unfold effAt; go_simp; exact ⟨rfl, hC.keep _ (by decide)⟩)))); simp only [Act.put, List.setIfInBounds_toArray, List.set_cons_zero, List.set_cons_succ])
    apply wpEff_cons
    focus
      intro L wz hL hD hC
      refine .inl ⟨by rfl, ?_⟩
      obtain ⟨w3, r3, h3⟩ := hC.put2 (hD 0 (by kernel_rfl)) hL
      unfold effAt
      go_simp
      exact ⟨rfl, h3⟩
    simp only [Act.put]
    repeat (apply wpEff_cons; (focus (intro L wz hL hD hC; (first | exact .inr ⟨by rfl, rfl, hC.keep _ (by decide)⟩ | (refine .inl ⟨by rfl, ?_⟩; obtain ⟨y2, y3⟩ := hS wz hC.nw; unfold effAt; go_simp; exact ⟨rfl, hC.keep _ (by decide)⟩)))); simp only [Act.put, List.setIfInBounds_toArray, List.set_cons_zero, List.set_cons_succ])
    apply wpEff_cons
    focus
      intro L wz hL hD hC
      refine .inl ⟨by rfl, ?_⟩
      obtain ⟨w3, r3, h3⟩ := hC.put15 (hD 0 (by kernel_rfl)) hL
      unfold effAt
      go_simp
      exact ⟨rfl, h3⟩
    simp only [Act.put]
    repeat (apply wpEff_cons; (focus (intro L wz hL hD hC; (first | exact .inr ⟨by rfl, rfl, hC.keep _ (by decide)⟩ | (refine .inl ⟨by rfl, ?_⟩; obtain ⟨y2, y3⟩ := hS wz hC.nw; unfold effAt; go_simp; exact ⟨rfl, hC.keep _ (by decide)⟩)))); simp only [Act.put, List.setIfInBounds_toArray, List.set_cons_zero, List.set_cons_succ])
    try (apply wpEff_cons; (focus (intro L wz hL hD hC; refine .inl ⟨by rfl, ?_⟩; unfold effAt; go_simp; refine (hcut _).mono ?_; rintro e w' ⟨rfl, rfl⟩; exact ⟨rfl, hC.keep _ (by decide)⟩)); simp only [Act.put, List.setIfInBounds_toArray, List.set_cons_zero, List.set_cons_succ])
    repeat (apply wpEff_cons; (focus (intro L wz hL hD hC; (first | exact .inr ⟨by rfl, rfl, hC.keep _ (by decide)⟩ | (refine .inl ⟨by rfl, ?_⟩; obtain ⟨y2, y3⟩ := hS wz hC.nw; unfold effAt; go_simp; exact ⟨rfl, hC.keep _ (by decide)⟩)))); simp only [Act.put, List.setIfInBounds_toArray, List.set_cons_zero, List.set_cons_succ])
    apply wpEff_cons
    focus
      intro L wz hL hD hC
      refine .inl ⟨by rfl, ?_⟩
      obtain ⟨w3, r3, h3⟩ := hC.put27 (hD 0 (by kernel_rfl)) hL
      unfold effAt
      go_simp
      exact ⟨rfl, h3⟩
    simp only [Act.put]
    repeat (apply wpEff_cons; (focus (intro L wz hL hD hC; (first | exact .inr ⟨by rfl, rfl, hC.keep _ (by decide)⟩ | (refine .inl ⟨by rfl, ?_⟩; obtain ⟨y2, y3⟩ := hS wz hC.nw; unfold effAt; go_simp; exact ⟨rfl, hC.keep _ (by decide)⟩)))); simp only [Act.put, List.setIfInBounds_toArray, List.set_cons_zero, List.set_cons_succ])
    refine wpEff_nil fun wz hC => ?_
    have hlk := hC.look rfl rfl rfl rfl a.kind hk v HV.out
    have qc := hC.nw
    obtain ⟨x0, x1⟩ := hS2 wz qc
    have Q := (q0.tr q2).tr qc
    clear hC hS hS2
    cases kb
    all_goals
      go_wp2_with (go_at_call 182; refine (hkey _).mono ?_; rintro e w' ⟨rfl, rfl⟩)
      go_ret
      exact ⟨by simp, Q⟩
end Go.Proofs.YtkjnlhidnkbelaaGreatDoor
