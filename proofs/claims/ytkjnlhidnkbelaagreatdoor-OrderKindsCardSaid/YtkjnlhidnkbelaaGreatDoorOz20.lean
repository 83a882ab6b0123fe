/- Lemmas of the walks: OgA, OxB. (Laid together by shake.py.) -/
import Derived.Test.YtkjnlhidnkbelaaGreatDoorOz12
import Derived.Test.YtkjnlhidnkbelaaGreatDoorOz17
import Derived.Test.YtkjnlhidnkbelaaGreatDoorOz19
set_option linter.unusedVariables false
set_option linter.unusedSimpArgs false
namespace Go.Proofs.YtkjnlhidnkbelaaGreatDoor
open Go Go.RowKit

set_option maxRecDepth 100000 in
theorem oidxNil_any (w : World) : Calls Tryz.prog 98 #[.slice none 0 0, .func (.func 46) #[] #[]] w fun e w' => e = .returned (.int .i64 (-1)) ∧ w = w' := by
  go_enter Tryz.func98, Tryz.ntmps98
  go_wp2_with fail
  refine wp_loop_rounds 1 ?_
  rw [rounds_succ]
  go_wp2_with fail
  go_ret
  exact ⟨rfl, rfl⟩
set_option maxRecDepth 100000 in
theorem oRightNil_any (w : World) : Calls Tryz.prog 11 #[.slice none 0 0] w fun e w' => e = .returned (.bool true) ∧ w = w' := by
  have h2 : ∀ w, Calls Tryz.prog 45 #[.slice none 0 0, .func (.func 46) #[] #[]] w fun e w' => e = .returned (.bool false) ∧ w = w' := fun w => by
    have h1 := fun w => oidxNil_any w
    go_enter Tryz.func45, Tryz.ntmps45
    go_wp2_with fail
    refine (h1 _).mono ?_
    rintro e w1 ⟨rfl, rfl⟩
    go_wp2_with fail
    go_ret
    exact ⟨rfl, rfl⟩
  go_enter Tryz.func11, Tryz.ntmps11
  go_wp2_with fail
  refine (h2 _).mono ?_
  rintro e w1 ⟨rfl, rfl⟩
  go_wp2_with fail
  go_ret
  exact ⟨rfl, rfl⟩
theorem look_right : ordOk lookO = true := by decide +kernel
theorem look_bytes : ordB lookO = [10, 1, 2, 0, 0, 0, 0, 0, 0, 0, 0, 0, 0] := by decide +kernel
theorem zero_wrong : ordOk (ordZ 0) = false := by decide +kernel
theorem zero_sound : ansOk ansZ = true := by decide +kernel
theorem OrdSz.small {x : OrdF} (h : OrdSm x) : OrdSz x := by
  refine ⟨by have := h.kind; omega, ⟨by have := h.acts.1; omega, fun a ha => ?_⟩, ⟨by have := h.reads.1; omega, fun a ha => ?_⟩, by have := h.bytes; omega, by have := h.lo; omega, by have := h.hi; omega⟩
  · obtain ⟨h1, h2, h3, _⟩ := actOk_sm (h.acts.2 a ha)
    exact ⟨by omega, by omega, by omega⟩
  · obtain ⟨h1, h2⟩ := rdgOk_len (h.reads.2 a ha)
    exact ⟨by omega, by omega⟩
theorem zero_sz (k : Int) (hk : 0 ≤ k ∧ k ≤ 255) : OrdSz (ordZ k) := ⟨hk, ⟨Nat.zero_le _, fun a h => by cases h⟩, ⟨Nat.zero_le _, fun a h => by cases h⟩, Nat.zero_le _, Nat.zero_le _, Nat.zero_le _⟩
theorem look_in (w : World) : OrdIn w (fun _ => False) lookO plZ := ⟨.inl rfl, .inl rfl, .inl rfl, ⟨Nat.le_refl _, Nat.zero_le _⟩, ⟨Nat.le_refl _, Nat.zero_le _⟩, ⟨Nat.le_refl _, Nat.zero_le _⟩⟩
theorem ansz_in (w : World) : AnsIn w (fun _ => False) ansZ plZ := ⟨.inl rfl, .inl rfl, ⟨Nat.le_refl _, Nat.zero_le _⟩, ⟨Nat.le_refl _, Nat.zero_le _⟩⟩
abbrev lookB : List UInt8 := [10, 1, 2, 0, 0, 0, 0, 0, 0, 0, 0, 0, 0]
theorem zero_ten : (Builtin.zeroCells #[Value.int .u8 0] 10).toList = [.int .u8 0, .int .u8 0, .int .u8 0, .int .u8 0, .int .u8 0, .int .u8 0, .int .u8 0, .int .u8 0, .int .u8 0, .int .u8 0] := by kernel_rfl
theorem look_sl (w : World) (R : Array Value) (n : Nat) (hn : w.heap.size = n) : Sl (w.alloc (.cells (#[.int .u8 10, .int .u8 1, .int .u8 2] ++ (Builtin.zeroCells #[.int .u8 0] 10 ++ R)) 5)) (· = n) (some ⟨n, 0, none⟩) (lookB.map B8) := by
  subst hn
  have h := (Blk.new w 5 (#[.int .u8 10, .int .u8 1, .int .u8 2] ++ (Builtin.zeroCells #[.int .u8 0] 10 ++ R))).sl 0 13
  have e : ((#[.int .u8 10, .int .u8 1, .int .u8 2] ++ (Builtin.zeroCells #[.int .u8 0] 10 ++ R) : Array Value).toList.drop 0).take 13 = lookB.map B8 := by
    rw [List.drop_zero, Array.toList_append, Array.toList_append, zero_ten]
    rfl
  rw [e] at h
  exact h
set_option maxRecDepth 100000 in
set_option maxHeartbeats 4000000 in
theorem awake22_any (w : World) : Calls Tryz.prog 13 #[] w fun e w' => e = .returned (.bool true) ∧ Nw w w' := by
  have hlook := fun w => look_any w
  have hput : ∀ w, Calls Tryz.prog 9 #[.agg (ofA (U8V lookO.kind) lookO plZ)] w fun e w' => ∃ A c, e = .returned (.tuple #[.slice A 13 c, .int .i64 0]) ∧ Own w' 5 1 A 13 c (([10, 1, 2, 0, 0, 0, 0, 0, 0, 0, 0, 0, 0] : List UInt8).map B8) ∧ Nw w w' ∧ ∀ k, inA A k → w.heap.size ≤ k := fun w => by
    have h := oput_any w _ lookO plZ (look_in w) (OrdSz.small (ordOk_sm look_right))
    rw [if_pos look_right, look_bytes] at h
    exact h
  have hrn := fun w => oRightNil_any w
  go_enter Tryz.func13, Tryz.ntmps13
  go_wp2_with fail
  refine (hlook _).mono ?_
  rintro e w1 ⟨rfl, q1⟩
  go_wp2_with fail
  refine (hput _).mono ?_
  rintro e w2 ⟨A, c, rfl, ho, q2, hA⟩
  obtain ⟨W3, hW3⟩ : ∃ W3, W3 = w2.alloc (.cells #[.int .u8 10, .int .u8 1, .int .u8 2] 5) := ⟨_, rfl⟩
  have q3 : Nw w2 W3 := by rw [hW3]; exact (Fr.refl (fun _ => False) w2).alloc _
  have hz3 : W3.heap.size = w2.heap.size + 1 := by rw [hW3]; simp
  have hl4 := fun R => look_sl W3 R (w2.heap.size + 1) hz3
  have HW3 := Lib.hid hW3
  clear hW3
  go_upto_region 2 with (fail)
  go_wp2_with fail
  rw [← HW3.out]
  generalize (Question.appendCap 13 3 5).cut (w2.tape w2.drawn (Question.appendCap 13 3 5)) = cp
  have hq4 : Nw W3 (W3.alloc (.cells (#[.int .u8 10, .int .u8 1, .int .u8 2] ++ (Builtin.zeroCells #[.int .u8 0] 10 ++ Builtin.zeroCells #[.int .u8 0] (cp - 13))) 5)).drew := ((Fr.refl (fun _ => False) W3).alloc _).drew
  have hs4 := hl4 (Builtin.zeroCells #[.int .u8 0] (cp - 13))
  generalize (W3.alloc (.cells (#[.int .u8 10, .int .u8 1, .int .u8 2] ++ (Builtin.zeroCells #[.int .u8 0] 10 ++ Builtin.zeroCells #[.int .u8 0] (cp - 13))) 5)) = W4 at hq4 hs4 ⊢
  have q4d : Nw w2 W4.drew := q3.tr hq4
  have hsm : Calls Tryz.prog 23 #[.slice A 13 c, .slice (some ⟨w2.heap.size + 1, 0, none⟩) 13 cp] W4.drew fun e w' => e = .returned (.bool true) ∧ Nw W4.drew w' := by
    refine (same_u8 W4.drew (inA A) (· = w2.heap.size + 1) A (some ⟨w2.heap.size + 1, 0, none⟩) c cp lookB lookB (ho.sl.fr q4d (fun _ _ h => h)) (hs4.fr (Fr.refl (fun _ => False) W4).drew (fun _ _ h => h)) (by decide)).mono ?_
    rintro e w' ⟨h1, h2⟩
    exact ⟨by simpa using h1, h2.fr _⟩
  have q24 : Nw w W4.drew := (q1.tr q2).tr q4d
  clear hs4 hq4 hl4 q4d ho
  refine hsm.mono ?_
  rintro e w5 ⟨rfl, q5⟩
  have Q5 := q24.tr q5
  clear hsm
  go_wp2_with fail
  refine (hlook _).mono ?_
  rintro e w6 ⟨rfl, q6⟩
  have Q6 := Q5.tr q6
  have h7 := oRight_any (w6.alloc (.cells (ofA (U8V lookO.kind) lookO plZ) 31)) (fun _ => False) w6.heap.size lookO plZ (Blk.new w6 _ _) (look_in _) (OrdSz.small (ordOk_sm look_right))
  rw [look_right] at h7
  go_wp2_with fail
  refine h7.mono ?_
  rintro e w7 ⟨rfl, q7⟩
  have Q7 := Q6.tr (((Fr.refl (fun _ => False) w6).alloc _).tr q7)
  clear h7
  go_wp2_with fail
  refine (hrn _).mono ?_
  rintro e w8 ⟨rfl, rfl⟩
  have h8 := oRight_any (w7.alloc (.cells (ofA (U8V (ordZ 0).kind) (ordZ 0) plZ) 31)) (fun _ => False) w7.heap.size (ordZ 0) plZ (Blk.new w7 _ _) (OrdIn.zero _ _ _) (zero_sz 0 (by decide))
  rw [zero_wrong] at h8
  go_wp2_with fail
  refine h8.mono ?_
  rintro e w9 ⟨rfl, q9⟩
  have Q9 := Q7.tr (((Fr.refl (fun _ => False) w7).alloc _).tr q9)
  clear h8
  have h9 := oSound_any (w9.alloc (.cells (afA ansZ plZ) 41)) (fun _ => False) w9.heap.size ansZ plZ (Blk.new w9 _ _) (ansz_in _) ⟨⟨Nat.zero_le _, fun a h => by cases h⟩, Nat.zero_le _⟩
  rw [zero_sound] at h9
  go_wp2_with fail
  refine h9.mono ?_
  rintro e w10 ⟨rfl, q10⟩
  have Q10 := Q9.tr (((Fr.refl (fun _ => False) w9).alloc _).tr q10)
  clear h9
  go_wp2_with fail
  go_ret
  exact ⟨rfl, Q10⟩
end Go.Proofs.YtkjnlhidnkbelaaGreatDoor

namespace Go.Proofs.YtkjnlhidnkbelaaGreatDoor
open Go Go.RowKit
set_option linter.unusedVariables false
set_option linter.unusedSimpArgs false
theorem RowsV.nil (w : World) (F : Nat → Prop) : RowsV w F [] [] := ⟨rfl, fun k hk => absurd hk (Nat.not_lt_zero _)⟩
theorem RowsV.cons {w : World} {F : Nat → Prop} {v : Value} {vs : List Value} {r : List UInt8} {rs : List (List UInt8)} (h : BytesV w F v r) (h2 : RowsV w F vs rs) : RowsV w F (v :: vs) (r :: rs) :=
  ⟨by simp [h2.1], fun k hk => by
    cases k with
    | zero => exact ⟨v, rfl, h⟩
    | succ k => exact h2.2 k (by simpa using hk)⟩
/-- Bytes told: they are new. -/
def TellB (w : World) (bs : List UInt8) (v : Value) (w' : World) : Prop := ∃ b : Nat × Option Addr, v = .slice b.2 bs.length b.1 ∧ Nw w w' ∧ Sl w' (fun j => w.heap.size ≤ j) b.2 (bs.map B8) ∧ bs.length ≤ b.1 ∧ b.1 ≤ maxLen
theorem OutIs.tell {w w' : World} {bs : List UInt8} {v : Value} (h : OutIs w bs v w') : TellB w bs v w' := outB (Fr.refl _ w) h
theorem blk_sl {w : World} {b : Nat} {t : TypeId} {cs : Array Value} (h : Blk w b t cs) : Sl w (fun _ => True) (some ⟨b, 0, none⟩) cs.toList := by
  have := h.sl 0 cs.size
  rw [List.drop_zero, List.take_of_length_le (by simp)] at this
  exact this.mono (fun _ _ _ => trivial)
def TlRel (w : World) (f : Nat → List UInt8) (n : Nat) (out i : Value) (wr : World) : Prop := ∃ k : Nat, k ≤ n ∧ i = .int .i64 k ∧ TellB w (f k) out wr
set_option maxRecDepth 100000 in
set_option maxHeartbeats 8000000 in
theorem xtold_any (w : World) (F : Nat → Prop) (A : Option Addr) (c : Nat) (l : List Rdg) (hs : Sl w F A (rdgsCells l)) (hz : RdgSm l) (hl : l.length ≤ 6) :
    Calls Tryz.prog 78 #[.slice A l.length c] w fun e w' => ∃ v, e = .returned v ∧ TellB w (enc l.length ++ rdgsB l) v w' := by
  obtain ⟨n, hn⟩ : ∃ n, n = l.length := ⟨_, rfl⟩
  rw [← hn] at hl ⊢
  have HN := Lib.hid hn
  have c0 := xnumbers_any (w.alloc (.cells #[I64 (n : Int)] 3)) (· = w.heap.size) (some ⟨w.heap.size, 0, none⟩) 1 1 [(n : Int)] (sl_new w 3 [I64 (n : Int)] _ rfl) rfl (by decide) (fun x hx => by rw [List.mem_singleton.1 hx]; exact nat_right _ (by omega))
  clear hn
  go_enter Tryz.func78, Tryz.ntmps78
  go_wp2_with fail
  refine c0.mono ?_
  rintro e w1 ⟨v0, rfl, ho1⟩
  have t1 : TellB w (enc n ++ rdgsB (l.take 0)) v0 w1 := by
    have e : encAll [(n : Int)] = enc n ++ rdgsB (l.take 0) := by simp [encAll, rdgsB]
    rw [← e]; exact (ho1.back ((Fr.refl _ w).alloc _)).tell
  clear c0 ho1
  go_wp2_with fail
  go_loopw [3, 4] (fun o i wx => TlRel w (fun k => enc n ++ rdgsB (l.take k)) n o i wx) (fun _ i _ => n - (intOf i).toNat)
  case atStart => exact ⟨0, Nat.zero_le _, rfl, t1⟩
  case round =>
    clear t1
    obtain ⟨k, hk, rfl, ⟨c0, A0⟩, rfl, hq, hs0, hc0⟩ := hrel
    simp only at hs0 hc0
    have hmost := rdgs_most (l.take k) (fun x hx => hz x (List.mem_of_mem_take hx))
    have hmost2 : (rdgsB (l.take k)).length ≤ 3000 * 6 := Nat.le_trans hmost (Nat.mul_le_mul_left _ (by rw [List.length_take]; have := HN.out; omega))
    have hen := enc_len n
    obtain ⟨bs0, hbs0⟩ : ∃ bs0, enc n ++ rdgsB (l.take k) = bs0 := ⟨_, rfl⟩
    have hb0 : bs0.length ≤ 100000 := by rw [← hbs0, List.length_append]; omega
    simp only [hbs0] at hs0 hc0 ⊢
    obtain ⟨n0, hn0⟩ : ∃ n0, bs0.length = n0 := ⟨_, rfl⟩
    rw [hn0] at hc0 hb0 ⊢
    have HB := Lib.hid (And.intro hbs0 hn0)
    clear hmost hmost2
    by_cases hlt : k < n
    · have hkl : k < l.length := by rw [← HN.out]; exact hlt
      obtain ⟨b, of, rfl, _, r0, r1, r2⟩ := (hs.fr hq (fun _ _ h => h)).rdg hkl
      have hzk := hz _ (List.getElem_mem hkl)
      have hsn := rdgsB_snoc l k hkl
      obtain ⟨r, hr⟩ : ∃ r, l[k] = r := ⟨_, rfl⟩
      rw [hr] at hsn hzk r0 r1 r2
      have HS := Lib.hid hsn
      clear hbs0 hn0 hsn hr
      have hS : ∀ w1, Nw wr w1 → w1.cell? ⟨b, of + k * 3, none⟩ = some (StrV r.1) ∧ w1.cell? ⟨b, of + k * 3 + 1, none⟩ = some (.bool r.2.1) ∧ w1.cell? ⟨b, of + k * 3 + 2, none⟩ = some (StrV r.2.2) := fun w1 f => ⟨(f.cell (World.block_lt_of_cell? _ _ r0) (fun h => h)).trans r0, (f.cell (World.block_lt_of_cell? _ _ r1) (fun h => h)).trans r1, (f.cell (World.block_lt_of_cell? _ _ r2) (fun h => h)).trans r2⟩
      have h0 : ∀ w1, Nw wr.drew w1 → Sl w1 (fun j => w.heap.size ≤ j) A0 (bs0.map B8) := fun w1 f => hs0.fr (((Fr.refl (fun _ => False) wr).drew).tr f) (fun _ _ h => h)
      have hn0i : bs0.length = n0 := HB.out.2
      have hki : (k : Int) < (n : Int) := by omega
      all_goals
        have e1 : rowB r.1 ++ (flagB r.2.1 ++ rowB r.2.2) = rdgB r := rfl
        have l1 := fun wz => xtext_any wz r.1 (by omega)
        have l2 := fun wz => xflag_any wz r.2.1
        have l3 := fun wz => xtext_any wz r.2.2 (by omega)
        have z1 := rowB_most r.1
        have z3 := rowB_most r.2.2
        have z2 : (flagB r.2.1).length = 1 := rfl
        obtain ⟨y1, hy1⟩ : ∃ y, rowB r.1 = y := ⟨_, rfl⟩
        rw [hy1] at e1 z1
        simp only [hy1] at l1
        obtain ⟨y2, hy2⟩ : ∃ y, flagB r.2.1 = y := ⟨_, rfl⟩
        rw [hy2] at e1 z2
        simp only [hy2] at l2
        obtain ⟨y3, hy3⟩ : ∃ y, rowB r.2.2 = y := ⟨_, rfl⟩
        rw [hy3] at e1 z3
        simp only [hy3] at l3
        have hrl : rowsLen [bs0, y1, y2, y3] ≤ 10000000 := by
          have hh := HB.out.2
          try simp only [List.length_cons, List.length_nil] at *
          simp only [rowsLen, List.map_cons, List.map_nil, List.sum_cons, List.sum_nil]
          omega
        have lall := fun wz b cs (hb : Blk wz b 22 cs) (hrr : RowsV wz (fun _ => True) cs.toList [bs0, y1, y2, y3]) => xall_any wz (fun _ => True) (some ⟨b, 0, none⟩) 4 cs.toList [bs0, y1, y2, y3] (blk_sl hb) hrr (by simp) hrl
        obtain ⟨y, hy⟩ : ∃ y, ([bs0, y1, y2, y3] : List (List UInt8)).flatten = y := ⟨_, rfl⟩
        simp only [hy] at lall
        have HY := Lib.hid (And.intro hy e1)
        clear hy e1 hrl z1 z2 z3 hy1 hy2 hy3
        go_upto_region 5 with (fail)
        have hlast : Lasts ([bytesF wr.drew 6 y1, bytesF wr.drew 12 y2, bytesF wr.drew 18 y3, rowsF wr.drew 19 22 [bs0, y1, y2, y3] (fun _ => True), bytesF wr.drew 20 y]) := (by intro f hf; simp only [List.mem_cons, List.not_mem_nil, or_false] at hf; rcases hf with rfl | rfl | rfl | rfl | rfl <;> first | exact bytesF_lasts _ _ _ | exact blkF_lasts _ _ _ _ | exact rowsF_lasts _ _ _ _ _)
        refine wp_region_eff2 (RfC wr.drew ([bytesF wr.drew 6 y1, bytesF wr.drew 12 y2, bytesF wr.drew 18 y3, rowsF wr.drew 19 22 [bs0, y1, y2, y3] (fun _ => True), bytesF wr.drew 20 y])) (fun _ => (0, none)) (by kernel_rfl) (by kernel_rfl) ⟨Fr.refl _ _, fun _ _ h => by cases h⟩ ?_
        apply wpEff2_cons
        focus
          intro B L wz hL hD hC
          refine .inl ⟨by rfl, ?_⟩
          obtain ⟨y_0, y_1, y_2⟩ := hS wz (((Fr.refl (fun _ => False) wr).drew).tr hC.nw)
          unfold effAt
          go_simp
          exact ⟨rfl, hC.keep _ (by rfl)⟩
        simp only [Act.put, List.setIfInBounds_toArray, List.set_cons_zero, List.set_cons_succ]
        apply wpEff2_cons
        focus
          intro B L wz hL hD hC
          refine .inl ⟨by rfl, ?_⟩
          obtain ⟨y_0, y_1, y_2⟩ := hS wz (((Fr.refl (fun _ => False) wr).drew).tr hC.nw)
          unfold effAt
          go_simp
          exact ⟨rfl, hC.keep _ (by rfl)⟩
        simp only [Act.put, List.setIfInBounds_toArray, List.set_cons_zero, List.set_cons_succ]
        apply wpEff2_cons
        focus
          intro B L wz hL hD hC
          refine .inl ⟨by rfl, ?_⟩
          obtain ⟨y_0, y_1, y_2⟩ := hS wz (((Fr.refl (fun _ => False) wr).drew).tr hC.nw)
          unfold effAt
          go_simp
          exact ⟨rfl, hC.keep _ (by rfl)⟩
        simp only [Act.put, List.setIfInBounds_toArray, List.set_cons_zero, List.set_cons_succ]
        apply wpEff2_cons
        focus
          intro B L wz hL hD hC
          refine .inl ⟨by rfl, ?_⟩
          obtain ⟨y_0, y_1, y_2⟩ := hS wz (((Fr.refl (fun _ => False) wr).drew).tr hC.nw)
          unfold effAt
          go_simp
          exact ⟨rfl, hC.keep _ (by rfl)⟩
        simp only [Act.put, List.setIfInBounds_toArray, List.set_cons_zero, List.set_cons_succ]
        apply wpEff2_cons
        focus
          intro B L wz hL hD hC
          refine .inl ⟨by rfl, ?_⟩
          obtain ⟨y_0, y_1, y_2⟩ := hS wz (((Fr.refl (fun _ => False) wr).drew).tr hC.nw)
          unfold effAt
          go_simp
          exact ⟨rfl, hC.keep _ (by rfl)⟩
        simp only [Act.put, List.setIfInBounds_toArray, List.set_cons_zero, List.set_cons_succ]
        apply wpEff2_cons
        focus
          intro B L wz hL hD hC
          refine .inl ⟨by rfl, ?_⟩
          obtain ⟨y_0, y_1, y_2⟩ := hS wz (((Fr.refl (fun _ => False) wr).drew).tr hC.nw)
          unfold effAt
          go_simp
          exact ⟨rfl, hC.keep _ (by rfl)⟩
        simp only [Act.put, List.setIfInBounds_toArray, List.set_cons_zero, List.set_cons_succ]
        refine wpEff2_free (fun b => .slice b.2 y1.length b.1) ?_ ?_
        focus
          intro B L wz hL hD hC
          have hnw := hC.nw
          refine .inl ⟨by rfl, ?_⟩
          unfold effAt2
          go_simp
          refine ((l1 wz)).mono ?_
          rintro e w9 ⟨v, rfl, ho⟩
          obtain ⟨b, rfl, q9, f1, f2, f3⟩ := outB hnw ho
          exact ⟨b, rfl, hC.put hlast q9 _ b (by intro f hf hk; simp only [List.mem_cons, List.not_mem_nil, or_false] at hf; rcases hf with rfl | rfl | rfl | rfl | rfl <;> first | exact ⟨f1, f2, f3⟩ | exact absurd hk (by simp [bytesF, blkF, rowsF]))⟩
        simp only [Act.put, List.setIfInBounds_toArray, List.set_cons_zero, List.set_cons_succ]
        apply wpEff2_cons
        focus
          intro B L wz hL hD hC
          refine .inl ⟨by rfl, ?_⟩
          obtain ⟨y_0, y_1, y_2⟩ := hS wz (((Fr.refl (fun _ => False) wr).drew).tr hC.nw)
          unfold effAt
          go_simp
          exact ⟨rfl, hC.keep _ (by rfl)⟩
        simp only [Act.put, List.setIfInBounds_toArray, List.set_cons_zero, List.set_cons_succ]
        apply wpEff2_cons
        focus
          intro B L wz hL hD hC
          refine .inl ⟨by rfl, ?_⟩
          obtain ⟨y_0, y_1, y_2⟩ := hS wz (((Fr.refl (fun _ => False) wr).drew).tr hC.nw)
          unfold effAt
          go_simp
          exact ⟨rfl, hC.keep _ (by rfl)⟩
        simp only [Act.put, List.setIfInBounds_toArray, List.set_cons_zero, List.set_cons_succ]
        apply wpEff2_cons
        focus
          intro B L wz hL hD hC
          refine .inl ⟨by rfl, ?_⟩
          obtain ⟨y_0, y_1, y_2⟩ := hS wz (((Fr.refl (fun _ => False) wr).drew).tr hC.nw)
          unfold effAt
          go_simp
          exact ⟨rfl, hC.keep _ (by rfl)⟩
        simp only [Act.put, List.setIfInBounds_toArray, List.set_cons_zero, List.set_cons_succ]
        apply wpEff2_cons
        focus
          intro B L wz hL hD hC
          refine .inl ⟨by rfl, ?_⟩
          obtain ⟨y_0, y_1, y_2⟩ := hS wz (((Fr.refl (fun _ => False) wr).drew).tr hC.nw)
          unfold effAt
          go_simp
          exact ⟨rfl, hC.keep _ (by rfl)⟩
        simp only [Act.put, List.setIfInBounds_toArray, List.set_cons_zero, List.set_cons_succ]
        apply wpEff2_cons
        focus
          intro B L wz hL hD hC
          refine .inl ⟨by rfl, ?_⟩
          obtain ⟨y_0, y_1, y_2⟩ := hS wz (((Fr.refl (fun _ => False) wr).drew).tr hC.nw)
          unfold effAt
          go_simp
          exact ⟨rfl, hC.keep _ (by rfl)⟩
        simp only [Act.put, List.setIfInBounds_toArray, List.set_cons_zero, List.set_cons_succ]
        refine wpEff2_free (fun b => .slice b.2 y2.length b.1) ?_ ?_
        focus
          intro B L wz hL hD hC
          have hnw := hC.nw
          refine .inl ⟨by rfl, ?_⟩
          unfold effAt2
          go_simp
          refine ((l2 wz)).mono ?_
          rintro e w9 ⟨v, rfl, ho⟩
          obtain ⟨b, rfl, q9, f1, f2, f3⟩ := outB hnw ho
          exact ⟨b, rfl, hC.put hlast q9 _ b (by intro f hf hk; simp only [List.mem_cons, List.not_mem_nil, or_false] at hf; rcases hf with rfl | rfl | rfl | rfl | rfl <;> first | exact ⟨f1, f2, f3⟩ | exact absurd hk (by simp [bytesF, blkF, rowsF]))⟩
        simp only [Act.put, List.setIfInBounds_toArray, List.set_cons_zero, List.set_cons_succ]
        apply wpEff2_cons
        focus
          intro B L wz hL hD hC
          refine .inl ⟨by rfl, ?_⟩
          obtain ⟨y_0, y_1, y_2⟩ := hS wz (((Fr.refl (fun _ => False) wr).drew).tr hC.nw)
          unfold effAt
          go_simp
          exact ⟨rfl, hC.keep _ (by rfl)⟩
        simp only [Act.put, List.setIfInBounds_toArray, List.set_cons_zero, List.set_cons_succ]
        apply wpEff2_cons
        focus
          intro B L wz hL hD hC
          refine .inl ⟨by rfl, ?_⟩
          obtain ⟨y_0, y_1, y_2⟩ := hS wz (((Fr.refl (fun _ => False) wr).drew).tr hC.nw)
          unfold effAt
          go_simp
          exact ⟨rfl, hC.keep _ (by rfl)⟩
        simp only [Act.put, List.setIfInBounds_toArray, List.set_cons_zero, List.set_cons_succ]
        apply wpEff2_cons
        focus
          intro B L wz hL hD hC
          refine .inl ⟨by rfl, ?_⟩
          obtain ⟨y_0, y_1, y_2⟩ := hS wz (((Fr.refl (fun _ => False) wr).drew).tr hC.nw)
          unfold effAt
          go_simp
          exact ⟨rfl, hC.keep _ (by rfl)⟩
        simp only [Act.put, List.setIfInBounds_toArray, List.set_cons_zero, List.set_cons_succ]
        apply wpEff2_cons
        focus
          intro B L wz hL hD hC
          refine .inl ⟨by rfl, ?_⟩
          obtain ⟨y_0, y_1, y_2⟩ := hS wz (((Fr.refl (fun _ => False) wr).drew).tr hC.nw)
          unfold effAt
          go_simp
          exact ⟨rfl, hC.keep _ (by rfl)⟩
        simp only [Act.put, List.setIfInBounds_toArray, List.set_cons_zero, List.set_cons_succ]
        apply wpEff2_cons
        focus
          intro B L wz hL hD hC
          refine .inl ⟨by rfl, ?_⟩
          obtain ⟨y_0, y_1, y_2⟩ := hS wz (((Fr.refl (fun _ => False) wr).drew).tr hC.nw)
          unfold effAt
          go_simp
          exact ⟨rfl, hC.keep _ (by rfl)⟩
        simp only [Act.put, List.setIfInBounds_toArray, List.set_cons_zero, List.set_cons_succ]
        refine wpEff2_free (fun b => .slice b.2 y3.length b.1) ?_ ?_
        focus
          intro B L wz hL hD hC
          have hnw := hC.nw
          refine .inl ⟨by rfl, ?_⟩
          unfold effAt2
          go_simp
          refine ((l3 wz)).mono ?_
          rintro e w9 ⟨v, rfl, ho⟩
          obtain ⟨b, rfl, q9, f1, f2, f3⟩ := outB hnw ho
          exact ⟨b, rfl, hC.put hlast q9 _ b (by intro f hf hk; simp only [List.mem_cons, List.not_mem_nil, or_false] at hf; rcases hf with rfl | rfl | rfl | rfl | rfl <;> first | exact ⟨f1, f2, f3⟩ | exact absurd hk (by simp [bytesF, blkF, rowsF]))⟩
        simp only [Act.put, List.setIfInBounds_toArray, List.set_cons_zero, List.set_cons_succ]
        refine wpEff2_free (fun b => .slice (some ⟨b.1, 0, none⟩) 4 4) ?_ ?_
        focus
          intro B L wz hL hD hC
          have g0 := hC.get 0 _ rfl (hD 6 (by kernel_rfl))
          have g1 := hC.get 1 _ rfl (hD 12 (by kernel_rfl))
          have g2 := hC.get 2 _ rfl (hD 18 (by kernel_rfl))
          have hnw := hC.nw
          have ha : Nw wz (wz.alloc (.cells #[.slice A0 n0 c0, .slice (B 6).2 y1.length (B 6).1, .slice (B 12).2 y2.length (B 12).1, .slice (B 18).2 y3.length (B 18).1] 22)) := (Fr.refl (fun _ => False) wz).alloc _
          have hrows := RowsV.cons ⟨A0, c0, (by rw [hn0i]), Nat.le_trans (Nat.le_of_eq hn0i) hc0.1, hc0.2, (h0 _ (hnw.tr ha)).mono (fun _ _ _ => trivial)⟩ (RowsV.cons ⟨_, _, rfl, g0.2.1, g0.2.2, (g0.1.fr ha (fun _ _ h => h)).mono (fun _ _ _ => trivial)⟩ (RowsV.cons ⟨_, _, rfl, g1.2.1, g1.2.2, (g1.1.fr ha (fun _ _ h => h)).mono (fun _ _ _ => trivial)⟩ (RowsV.cons ⟨_, _, rfl, g2.2.1, g2.2.2, (g2.1.fr ha (fun _ _ h => h)).mono (fun _ _ _ => trivial)⟩ (RowsV.nil _ _))))
          refine .inl ⟨by rfl, ?_⟩
          unfold effAt2
          go_simp
          exact ⟨(wz.heap.size, none), rfl, hC.put hlast ha _ _ (by intro f hf hk; simp only [List.mem_cons, List.not_mem_nil, or_false] at hf; rcases hf with rfl | rfl | rfl | rfl | rfl <;> first | exact ⟨_, Blk.new wz _ _, hrows⟩ | exact absurd hk (by simp [bytesF, blkF, rowsF]))⟩
        simp only [Act.put, List.setIfInBounds_toArray, List.set_cons_zero, List.set_cons_succ]
        refine wpEff2_free (fun b => .slice b.2 y.length b.1) ?_ ?_
        focus
          intro B L wz hL hD hC
          have g3 := hC.get 3 _ rfl (hD 19 (by kernel_rfl))
          obtain ⟨cs7, hb, hrr⟩ := g3
          have hnw := hC.nw
          refine .inl ⟨by rfl, ?_⟩
          unfold effAt2
          go_simp
          refine ((lall wz _ cs7 hb hrr)).mono ?_
          rintro e w9 ⟨v, rfl, ho⟩
          obtain ⟨b, rfl, q9, f1, f2, f3⟩ := outB hnw ho
          exact ⟨b, rfl, hC.put hlast q9 _ b (by intro f hf hk; simp only [List.mem_cons, List.not_mem_nil, or_false] at hf; rcases hf with rfl | rfl | rfl | rfl | rfl <;> first | exact ⟨f1, f2, f3⟩ | exact absurd hk (by simp [bytesF, blkF, rowsF]))⟩
        simp only [Act.put, List.setIfInBounds_toArray, List.set_cons_zero, List.set_cons_succ]
        refine wpEff2_dep (fun B => .slice (B 20).2 y.length (B 20).1) (fun B B2 h => by have e := h 20 (by kernel_rfl); simp only [e]) ?_ ?_
        focus
          intro B L wz hL hD hC
          refine .inl ⟨by rfl, ?_⟩
          unfold effAt
          go_simp
          exact ⟨rfl, hC.keep _ (by rfl)⟩
        simp only [Act.put, List.setIfInBounds_toArray, List.set_cons_zero, List.set_cons_succ]
        refine wpEff2_nil fun B wz hC5 => ?_
        obtain ⟨f1, f2, f3⟩ := hC5.get 4 _ rfl rfl
        have hnw := hC5.nw
        go_wp2_with fail
        go_roundw
        case rel =>
          refine ⟨k + 1, by omega, rfl, (B 20), ?_, (hq.drew).tr hnw, ?_, ?_⟩
          · have e : enc n ++ rdgsB (l.take (k + 1)) = y := by
              rw [HS.out, ← List.append_assoc, HB.out.1, ← HY.out.1, ← HY.out.2]
              simp
            simp only [e]
            try rfl
          · have e : enc n ++ rdgsB (l.take (k + 1)) = y := by
              rw [HS.out, ← List.append_assoc, HB.out.1, ← HY.out.1, ← HY.out.2]
              simp
            simp only [e]
            exact f1.mono (fun j hj _ => Nat.le_trans (hq.drew).size hj)
          · have e : enc n ++ rdgsB (l.take (k + 1)) = y := by
              rw [HS.out, ← List.append_assoc, HB.out.1, ← HY.out.1, ← HY.out.2]
              simp
            simp only [e]
            exact ⟨f2, f3⟩
        case measure => simp [intOf]; omega
    · go_wp2_with fail
      go_ret
      have hkn : k = l.length := by have := HN.out; omega
      have e := HB.out.1
      rw [hkn, List.take_length] at e
      rw [e]
      have e2 := HB.out.2
      exact ⟨_, rfl, (c0, A0), by rw [e2]; rfl, hq, hs0, by rw [e2]; exact hc0⟩
set_option maxRecDepth 100000 in
set_option maxHeartbeats 8000000 in
theorem xacts_any (w : World) (F : Nat → Prop) (A : Option Addr) (c : Nat) (l : List ActT) (hs : Sl w F A (actsCells l)) (hz : ActSm l) (hl : l.length ≤ 6) :
    Calls Tryz.prog 76 #[.slice A l.length c] w fun e w' => ∃ v, e = .returned v ∧ TellB w (enc l.length ++ actsB l) v w' := by
  obtain ⟨n, hn⟩ : ∃ n, n = l.length := ⟨_, rfl⟩
  rw [← hn] at hl ⊢
  have HN := Lib.hid hn
  have c0 := xnumbers_any (w.alloc (.cells #[I64 (n : Int)] 3)) (· = w.heap.size) (some ⟨w.heap.size, 0, none⟩) 1 1 [(n : Int)] (sl_new w 3 [I64 (n : Int)] _ rfl) rfl (by decide) (fun x hx => by rw [List.mem_singleton.1 hx]; exact nat_right _ (by omega))
  clear hn
  go_enter Tryz.func76, Tryz.ntmps76
  go_wp2_with fail
  refine c0.mono ?_
  rintro e w1 ⟨v0, rfl, ho1⟩
  have t1 : TellB w (enc n ++ actsB (l.take 0)) v0 w1 := by
    have e : encAll [(n : Int)] = enc n ++ actsB (l.take 0) := by simp [encAll, actsB]
    rw [← e]; exact (ho1.back ((Fr.refl _ w).alloc _)).tell
  clear c0 ho1
  go_wp2_with fail
  go_loopw [3, 4] (fun o i wx => TlRel w (fun k => enc n ++ actsB (l.take k)) n o i wx) (fun _ i _ => n - (intOf i).toNat)
  case atStart => exact ⟨0, Nat.zero_le _, rfl, t1⟩
  case round =>
    clear t1
    obtain ⟨k, hk, rfl, ⟨c0, A0⟩, rfl, hq, hs0, hc0⟩ := hrel
    simp only at hs0 hc0
    have hmost := acts_most (l.take k) (fun x hx => hz x (List.mem_of_mem_take hx))
    have hmost2 : (actsB (l.take k)).length ≤ 3000 * 6 := Nat.le_trans hmost (Nat.mul_le_mul_left _ (by rw [List.length_take]; have := HN.out; omega))
    have hen := enc_len n
    obtain ⟨bs0, hbs0⟩ : ∃ bs0, enc n ++ actsB (l.take k) = bs0 := ⟨_, rfl⟩
    have hb0 : bs0.length ≤ 100000 := by rw [← hbs0, List.length_append]; omega
    simp only [hbs0] at hs0 hc0 ⊢
    obtain ⟨n0, hn0⟩ : ∃ n0, bs0.length = n0 := ⟨_, rfl⟩
    rw [hn0] at hc0 hb0 ⊢
    have HB := Lib.hid (And.intro hbs0 hn0)
    clear hmost hmost2
    by_cases hlt : k < n
    · have hkl : k < l.length := by rw [← HN.out]; exact hlt
      obtain ⟨b, of, rfl, _, r0, r1, r2, r3⟩ := (hs.fr hq (fun _ _ h => h)).act hkl
      have hzk := hz _ (List.getElem_mem hkl)
      have hsn := actsB_snoc l k hkl
      obtain ⟨r, hr⟩ : ∃ r, l[k] = r := ⟨_, rfl⟩
      rw [hr] at hsn hzk r0 r1 r2 r3
      have HS := Lib.hid hsn
      clear hbs0 hn0 hsn hr
      obtain ⟨W3, hW3⟩ : ∃ W3, W3 = wr.alloc (.cells #[.int .u8 r.kind, StrV r.key, StrV r.val, I64 r.num] 91) := ⟨_, rfl⟩
      have q3 : Nw wr W3 := by rw [hW3]; exact (Fr.refl (fun _ => False) wr).alloc _
      have y3 : Blk W3 wr.heap.size 91 #[.int .u8 r.kind, StrV r.key, StrV r.val, I64 r.num] := by rw [hW3]; exact Blk.new wr _ _
      have Q3 := hq.tr q3
      have hS : ∀ w1, Nw W3 w1 → w1.cell? ⟨wr.heap.size, 0, none⟩ = some (.int .u8 r.kind) ∧ w1.cell? ⟨wr.heap.size, 1, none⟩ = some (StrV r.key) ∧ w1.cell? ⟨wr.heap.size, 2, none⟩ = some (StrV r.val) ∧ w1.cell? ⟨wr.heap.size, 3, none⟩ = some (I64 r.num) := fun w1 f => by
        have a := y3.fr f (fun h => h)
        exact ⟨by simpa using a.cell 0, by simpa using a.cell 1, by simpa using a.cell 2, by simpa using a.cell 3⟩
      have h0 : ∀ w1, Nw W3.drew w1 → Sl w1 (fun j => w.heap.size ≤ j) A0 (bs0.map B8) := fun w1 f => (hs0.fr q3 (fun _ _ h => h)).fr (((Fr.refl (fun _ => False) W3).drew).tr f) (fun _ _ h => h)
      have hn0i : bs0.length = n0 := HB.out.2
      have hcv : IntKind.i64.wrap r.kind = r.kind := IntWalk.i64_in _ (by omega)
      have hng : IntKind.i64.wrap (-r.num) = -r.num := IntWalk.i64_in _ (by omega)
      have HW3 := Lib.hid hW3
      have y33 : W3.cell? ⟨wr.heap.size, 3, none⟩ = some (I64 r.num) := (hS W3 (Fr.refl _ _)).2.2.2
      clear hW3 y3
      obtain ⟨m, hm⟩ : ∃ m, (if r.num < 0 then -r.num else r.num) = m := ⟨_, rfl⟩
      have hmm : 0 ≤ m ∧ m ≤ 1073741824 := by rw [← hm]; split <;> omega
      have hma : m = ((r.num.natAbs : Nat) : Int) := by rw [← hm]; split <;> omega
      by_cases hneg : r.num < 0
      all_goals
        first | rw [if_pos hneg] at hm | rw [if_neg hneg] at hm
        have HM := Lib.hid (And.intro hm hma)
        clear hm hma
        have e1 : encAll [r.kind] ++ (rowB r.key ++ (rowB r.val ++ (flagB (decide (r.num < 0)) ++ encAll [m]))) = actB r := by
          have e : m = ((r.num.natAbs : Nat) : Int) := HM.out.2
          simp [actB, encAll, e]
        have l1 := fun wz b (hb : Blk wz b 3 #[I64 r.kind]) => xnumbers_any wz (fun _ => True) (some ⟨b, 0, none⟩) 1 1 [r.kind] (blk_sl hb) rfl (by decide) (fun x hx => by rw [List.mem_singleton.1 hx]; exact int_right _ (by omega) (by omega))
        have l2 := fun wz => xtext_any wz r.key (by omega)
        have l3 := fun wz => xtext_any wz r.val (by omega)
        have l4 := fun wz => xflag_any wz (decide (r.num < 0))
        have l5 := fun wz b (hb : Blk wz b 3 #[I64 m]) => xnumbers_any wz (fun _ => True) (some ⟨b, 0, none⟩) 1 1 [m] (blk_sl hb) rfl (by decide) (fun x hx => by rw [List.mem_singleton.1 hx]; exact int_right _ (by omega) (by omega))
        have z1 := encAll_le [r.kind]
        have z2 := rowB_most r.key
        have z3 := rowB_most r.val
        have z5 := encAll_le [m]
        have z4 : (flagB (decide (r.num < 0))).length = 1 := rfl
        obtain ⟨y1, hy1⟩ : ∃ y, encAll [r.kind] = y := ⟨_, rfl⟩
        rw [hy1] at e1 z1
        simp only [hy1] at l1
        obtain ⟨y2, hy2⟩ : ∃ y, rowB r.key = y := ⟨_, rfl⟩
        rw [hy2] at e1 z2
        simp only [hy2] at l2
        obtain ⟨y3, hy3⟩ : ∃ y, rowB r.val = y := ⟨_, rfl⟩
        rw [hy3] at e1 z3
        simp only [hy3] at l3
        obtain ⟨y4, hy4⟩ : ∃ y, flagB (decide (r.num < 0)) = y := ⟨_, rfl⟩
        rw [hy4] at e1 z4
        simp only [hy4] at l4
        obtain ⟨y5, hy5⟩ : ∃ y, encAll [m] = y := ⟨_, rfl⟩
        rw [hy5] at e1 z5
        simp only [hy5] at l5
        first | simp only [decide_eq_true hneg] at l4 | simp only [decide_eq_false hneg] at l4
        have hrl : rowsLen [bs0, y1, y2, y3, y4, y5] ≤ 10000000 := by
          have hh := HB.out.2
          try simp only [List.length_cons, List.length_nil] at *
          simp only [rowsLen, List.map_cons, List.map_nil, List.sum_cons, List.sum_nil]
          omega
        have lall := fun wz b cs (hb : Blk wz b 22 cs) (hrr : RowsV wz (fun _ => True) cs.toList [bs0, y1, y2, y3, y4, y5]) => xall_any wz (fun _ => True) (some ⟨b, 0, none⟩) 6 cs.toList [bs0, y1, y2, y3, y4, y5] (blk_sl hb) hrr (by simp) hrl
        obtain ⟨y, hy⟩ : ∃ y, ([bs0, y1, y2, y3, y4, y5] : List (List UInt8)).flatten = y := ⟨_, rfl⟩
        simp only [hy] at lall
        have HY := Lib.hid (And.intro hy e1)
        clear hy e1 hrl z1 z2 z3 z4 z5 hy1 hy2 hy3 hy4 hy5
        go_upto_region 6 with (fail)
        rw [← HW3.out]
        go_upto_region 9 with (fail)
        rw [HM.out.1]
        have hlast : Lasts ([blkF W3.drew 4 3 #[I64 r.kind], bytesF W3.drew 5 y1, bytesF W3.drew 8 y2, bytesF W3.drew 11 y3, bytesF W3.drew 15 y4, blkF W3.drew 17 3 #[I64 m], bytesF W3.drew 18 y5, rowsF W3.drew 19 22 [bs0, y1, y2, y3, y4, y5] (fun _ => True), bytesF W3.drew 20 y]) := (by intro f hf; simp only [List.mem_cons, List.not_mem_nil, or_false] at hf; rcases hf with rfl | rfl | rfl | rfl | rfl | rfl | rfl | rfl | rfl <;> first | exact bytesF_lasts _ _ _ | exact blkF_lasts _ _ _ _ | exact rowsF_lasts _ _ _ _ _)
        refine wp_region_eff2 (RfC W3.drew ([blkF W3.drew 4 3 #[I64 r.kind], bytesF W3.drew 5 y1, bytesF W3.drew 8 y2, bytesF W3.drew 11 y3, bytesF W3.drew 15 y4, blkF W3.drew 17 3 #[I64 m], bytesF W3.drew 18 y5, rowsF W3.drew 19 22 [bs0, y1, y2, y3, y4, y5] (fun _ => True), bytesF W3.drew 20 y])) (fun _ => (0, none)) (by kernel_rfl) (by kernel_rfl) ⟨Fr.refl _ _, fun _ _ h => by cases h⟩ ?_
        apply wpEff2_cons
        focus
          intro B L wz hL hD hC
          refine .inl ⟨by rfl, ?_⟩
          obtain ⟨y_0, y_1, y_2, y_3⟩ := hS wz (((Fr.refl (fun _ => False) W3).drew).tr hC.nw)
          unfold effAt
          go_simp
          exact ⟨rfl, hC.keep _ (by rfl)⟩
        simp only [Act.put, List.setIfInBounds_toArray, List.set_cons_zero, List.set_cons_succ]
        apply wpEff2_cons
        focus
          intro B L wz hL hD hC
          refine .inl ⟨by rfl, ?_⟩
          obtain ⟨y_0, y_1, y_2, y_3⟩ := hS wz (((Fr.refl (fun _ => False) W3).drew).tr hC.nw)
          unfold effAt
          go_simp
          exact ⟨rfl, hC.keep _ (by rfl)⟩
        simp only [Act.put, List.setIfInBounds_toArray, List.set_cons_zero, List.set_cons_succ]
        apply wpEff2_cons
        focus
          intro B L wz hL hD hC
          refine .inl ⟨by rfl, ?_⟩
          obtain ⟨y_0, y_1, y_2, y_3⟩ := hS wz (((Fr.refl (fun _ => False) W3).drew).tr hC.nw)
          unfold effAt
          go_simp
          exact ⟨rfl, hC.keep _ (by rfl)⟩
        simp only [Act.put, List.setIfInBounds_toArray, List.set_cons_zero, List.set_cons_succ]
        apply wpEff2_cons
        focus
          intro B L wz hL hD hC
          refine .inl ⟨by rfl, ?_⟩
          obtain ⟨y_0, y_1, y_2, y_3⟩ := hS wz (((Fr.refl (fun _ => False) W3).drew).tr hC.nw)
          unfold effAt
          go_simp
          exact ⟨rfl, hC.keep _ (by rfl)⟩
        simp only [Act.put, List.setIfInBounds_toArray, List.set_cons_zero, List.set_cons_succ]
        refine wpEff2_free (fun b => .slice (some ⟨b.1, 0, none⟩) 1 1) ?_ ?_
        focus
          intro B L wz hL hD hC
          refine .inl ⟨by rfl, ?_⟩
          unfold effAt2
          go_simp
          exact ⟨(wz.heap.size, none), rfl, hC.put hlast ((Fr.refl (fun _ => False) wz).alloc _) _ _ (by intro f hf hk; simp only [List.mem_cons, List.not_mem_nil, or_false] at hf; rcases hf with rfl | rfl | rfl | rfl | rfl | rfl | rfl | rfl | rfl <;> first | exact ⟨Blk.new wz _ _, hC.nw.size⟩ | exact absurd hk (by simp [bytesF, blkF, rowsF]))⟩
        simp only [Act.put, List.setIfInBounds_toArray, List.set_cons_zero, List.set_cons_succ]
        refine wpEff2_free (fun b => .slice b.2 y1.length b.1) ?_ ?_
        focus
          intro B L wz hL hD hC
          have g0 := hC.get 0 _ rfl (hD 4 (by kernel_rfl))
          have hnw := hC.nw
          refine .inl ⟨by rfl, ?_⟩
          unfold effAt2
          go_simp
          refine ((l1 wz _ g0.1)).mono ?_
          rintro e w9 ⟨v, rfl, ho⟩
          obtain ⟨b, rfl, q9, f1, f2, f3⟩ := outB hnw ho
          exact ⟨b, rfl, hC.put hlast q9 _ b (by intro f hf hk; simp only [List.mem_cons, List.not_mem_nil, or_false] at hf; rcases hf with rfl | rfl | rfl | rfl | rfl | rfl | rfl | rfl | rfl <;> first | exact ⟨f1, f2, f3⟩ | exact absurd hk (by simp [bytesF, blkF, rowsF]))⟩
        simp only [Act.put, List.setIfInBounds_toArray, List.set_cons_zero, List.set_cons_succ]
        apply wpEff2_cons
        focus
          intro B L wz hL hD hC
          refine .inl ⟨by rfl, ?_⟩
          obtain ⟨y_0, y_1, y_2, y_3⟩ := hS wz (((Fr.refl (fun _ => False) W3).drew).tr hC.nw)
          unfold effAt
          go_simp
          exact ⟨rfl, hC.keep _ (by rfl)⟩
        simp only [Act.put, List.setIfInBounds_toArray, List.set_cons_zero, List.set_cons_succ]
        apply wpEff2_cons
        focus
          intro B L wz hL hD hC
          refine .inl ⟨by rfl, ?_⟩
          obtain ⟨y_0, y_1, y_2, y_3⟩ := hS wz (((Fr.refl (fun _ => False) W3).drew).tr hC.nw)
          unfold effAt
          go_simp
          exact ⟨rfl, hC.keep _ (by rfl)⟩
        simp only [Act.put, List.setIfInBounds_toArray, List.set_cons_zero, List.set_cons_succ]
        refine wpEff2_free (fun b => .slice b.2 y2.length b.1) ?_ ?_
        focus
          intro B L wz hL hD hC
          have hnw := hC.nw
          refine .inl ⟨by rfl, ?_⟩
          unfold effAt2
          go_simp
          refine ((l2 wz)).mono ?_
          rintro e w9 ⟨v, rfl, ho⟩
          obtain ⟨b, rfl, q9, f1, f2, f3⟩ := outB hnw ho
          exact ⟨b, rfl, hC.put hlast q9 _ b (by intro f hf hk; simp only [List.mem_cons, List.not_mem_nil, or_false] at hf; rcases hf with rfl | rfl | rfl | rfl | rfl | rfl | rfl | rfl | rfl <;> first | exact ⟨f1, f2, f3⟩ | exact absurd hk (by simp [bytesF, blkF, rowsF]))⟩
        simp only [Act.put, List.setIfInBounds_toArray, List.set_cons_zero, List.set_cons_succ]
        apply wpEff2_cons
        focus
          intro B L wz hL hD hC
          refine .inl ⟨by rfl, ?_⟩
          obtain ⟨y_0, y_1, y_2, y_3⟩ := hS wz (((Fr.refl (fun _ => False) W3).drew).tr hC.nw)
          unfold effAt
          go_simp
          exact ⟨rfl, hC.keep _ (by rfl)⟩
        simp only [Act.put, List.setIfInBounds_toArray, List.set_cons_zero, List.set_cons_succ]
        apply wpEff2_cons
        focus
          intro B L wz hL hD hC
          refine .inl ⟨by rfl, ?_⟩
          obtain ⟨y_0, y_1, y_2, y_3⟩ := hS wz (((Fr.refl (fun _ => False) W3).drew).tr hC.nw)
          unfold effAt
          go_simp
          exact ⟨rfl, hC.keep _ (by rfl)⟩
        simp only [Act.put, List.setIfInBounds_toArray, List.set_cons_zero, List.set_cons_succ]
        refine wpEff2_free (fun b => .slice b.2 y3.length b.1) ?_ ?_
        focus
          intro B L wz hL hD hC
          have hnw := hC.nw
          refine .inl ⟨by rfl, ?_⟩
          unfold effAt2
          go_simp
          refine ((l3 wz)).mono ?_
          rintro e w9 ⟨v, rfl, ho⟩
          obtain ⟨b, rfl, q9, f1, f2, f3⟩ := outB hnw ho
          exact ⟨b, rfl, hC.put hlast q9 _ b (by intro f hf hk; simp only [List.mem_cons, List.not_mem_nil, or_false] at hf; rcases hf with rfl | rfl | rfl | rfl | rfl | rfl | rfl | rfl | rfl <;> first | exact ⟨f1, f2, f3⟩ | exact absurd hk (by simp [bytesF, blkF, rowsF]))⟩
        simp only [Act.put, List.setIfInBounds_toArray, List.set_cons_zero, List.set_cons_succ]
        apply wpEff2_cons
        focus
          intro B L wz hL hD hC
          refine .inl ⟨by rfl, ?_⟩
          obtain ⟨y_0, y_1, y_2, y_3⟩ := hS wz (((Fr.refl (fun _ => False) W3).drew).tr hC.nw)
          unfold effAt
          go_simp
          exact ⟨rfl, hC.keep _ (by rfl)⟩
        simp only [Act.put, List.setIfInBounds_toArray, List.set_cons_zero, List.set_cons_succ]
        apply wpEff2_cons
        focus
          intro B L wz hL hD hC
          refine .inl ⟨by rfl, ?_⟩
          obtain ⟨y_0, y_1, y_2, y_3⟩ := hS wz (((Fr.refl (fun _ => False) W3).drew).tr hC.nw)
          unfold effAt
          go_simp
          exact ⟨rfl, hC.keep _ (by rfl)⟩
        simp only [Act.put, List.setIfInBounds_toArray, List.set_cons_zero, List.set_cons_succ]
        apply wpEff2_cons
        focus
          intro B L wz hL hD hC
          refine .inl ⟨by rfl, ?_⟩
          obtain ⟨y_0, y_1, y_2, y_3⟩ := hS wz (((Fr.refl (fun _ => False) W3).drew).tr hC.nw)
          unfold effAt
          go_simp
          exact ⟨rfl, hC.keep _ (by rfl)⟩
        simp only [Act.put, List.setIfInBounds_toArray, List.set_cons_zero, List.set_cons_succ]
        refine wpEff2_free (fun b => .slice b.2 y4.length b.1) ?_ ?_
        focus
          intro B L wz hL hD hC
          have hnw := hC.nw
          refine .inl ⟨by rfl, ?_⟩
          unfold effAt2
          go_simp
          refine ((l4 wz)).mono ?_
          rintro e w9 ⟨v, rfl, ho⟩
          obtain ⟨b, rfl, q9, f1, f2, f3⟩ := outB hnw ho
          exact ⟨b, rfl, hC.put hlast q9 _ b (by intro f hf hk; simp only [List.mem_cons, List.not_mem_nil, or_false] at hf; rcases hf with rfl | rfl | rfl | rfl | rfl | rfl | rfl | rfl | rfl <;> first | exact ⟨f1, f2, f3⟩ | exact absurd hk (by simp [bytesF, blkF, rowsF]))⟩
        simp only [Act.put, List.setIfInBounds_toArray, List.set_cons_zero, List.set_cons_succ]
        apply wpEff2_cons
        focus
          intro B L wz hL hD hC
          refine .inl ⟨by rfl, ?_⟩
          obtain ⟨y_0, y_1, y_2, y_3⟩ := hS wz (((Fr.refl (fun _ => False) W3).drew).tr hC.nw)
          unfold effAt
          go_simp
          exact ⟨rfl, hC.keep _ (by rfl)⟩
        simp only [Act.put, List.setIfInBounds_toArray, List.set_cons_zero, List.set_cons_succ]
        refine wpEff2_free (fun b => .slice (some ⟨b.1, 0, none⟩) 1 1) ?_ ?_
        focus
          intro B L wz hL hD hC
          refine .inl ⟨by rfl, ?_⟩
          unfold effAt2
          go_simp
          exact ⟨(wz.heap.size, none), rfl, hC.put hlast ((Fr.refl (fun _ => False) wz).alloc _) _ _ (by intro f hf hk; simp only [List.mem_cons, List.not_mem_nil, or_false] at hf; rcases hf with rfl | rfl | rfl | rfl | rfl | rfl | rfl | rfl | rfl <;> first | exact ⟨Blk.new wz _ _, hC.nw.size⟩ | exact absurd hk (by simp [bytesF, blkF, rowsF]))⟩
        simp only [Act.put, List.setIfInBounds_toArray, List.set_cons_zero, List.set_cons_succ]
        refine wpEff2_free (fun b => .slice b.2 y5.length b.1) ?_ ?_
        focus
          intro B L wz hL hD hC
          have g5 := hC.get 5 _ rfl (hD 17 (by kernel_rfl))
          have hnw := hC.nw
          refine .inl ⟨by rfl, ?_⟩
          unfold effAt2
          go_simp
          refine ((l5 wz _ g5.1)).mono ?_
          rintro e w9 ⟨v, rfl, ho⟩
          obtain ⟨b, rfl, q9, f1, f2, f3⟩ := outB hnw ho
          exact ⟨b, rfl, hC.put hlast q9 _ b (by intro f hf hk; simp only [List.mem_cons, List.not_mem_nil, or_false] at hf; rcases hf with rfl | rfl | rfl | rfl | rfl | rfl | rfl | rfl | rfl <;> first | exact ⟨f1, f2, f3⟩ | exact absurd hk (by simp [bytesF, blkF, rowsF]))⟩
        simp only [Act.put, List.setIfInBounds_toArray, List.set_cons_zero, List.set_cons_succ]
        refine wpEff2_free (fun b => .slice (some ⟨b.1, 0, none⟩) 6 6) ?_ ?_
        focus
          intro B L wz hL hD hC
          have g1 := hC.get 1 _ rfl (hD 5 (by kernel_rfl))
          have g2 := hC.get 2 _ rfl (hD 8 (by kernel_rfl))
          have g3 := hC.get 3 _ rfl (hD 11 (by kernel_rfl))
          have g4 := hC.get 4 _ rfl (hD 15 (by kernel_rfl))
          have g6 := hC.get 6 _ rfl (hD 18 (by kernel_rfl))
          have hnw := hC.nw
          have ha : Nw wz (wz.alloc (.cells #[.slice A0 n0 c0, .slice (B 5).2 y1.length (B 5).1, .slice (B 8).2 y2.length (B 8).1, .slice (B 11).2 y3.length (B 11).1, .slice (B 15).2 y4.length (B 15).1, .slice (B 18).2 y5.length (B 18).1] 22)) := (Fr.refl (fun _ => False) wz).alloc _
          have hrows := RowsV.cons ⟨A0, c0, (by rw [hn0i]), Nat.le_trans (Nat.le_of_eq hn0i) hc0.1, hc0.2, (h0 _ (hnw.tr ha)).mono (fun _ _ _ => trivial)⟩ (RowsV.cons ⟨_, _, rfl, g1.2.1, g1.2.2, (g1.1.fr ha (fun _ _ h => h)).mono (fun _ _ _ => trivial)⟩ (RowsV.cons ⟨_, _, rfl, g2.2.1, g2.2.2, (g2.1.fr ha (fun _ _ h => h)).mono (fun _ _ _ => trivial)⟩ (RowsV.cons ⟨_, _, rfl, g3.2.1, g3.2.2, (g3.1.fr ha (fun _ _ h => h)).mono (fun _ _ _ => trivial)⟩ (RowsV.cons ⟨_, _, rfl, g4.2.1, g4.2.2, (g4.1.fr ha (fun _ _ h => h)).mono (fun _ _ _ => trivial)⟩ (RowsV.cons ⟨_, _, rfl, g6.2.1, g6.2.2, (g6.1.fr ha (fun _ _ h => h)).mono (fun _ _ _ => trivial)⟩ (RowsV.nil _ _))))))
          refine .inl ⟨by rfl, ?_⟩
          unfold effAt2
          go_simp
          exact ⟨(wz.heap.size, none), rfl, hC.put hlast ha _ _ (by intro f hf hk; simp only [List.mem_cons, List.not_mem_nil, or_false] at hf; rcases hf with rfl | rfl | rfl | rfl | rfl | rfl | rfl | rfl | rfl <;> first | exact ⟨_, Blk.new wz _ _, hrows⟩ | exact absurd hk (by simp [bytesF, blkF, rowsF]))⟩
        simp only [Act.put, List.setIfInBounds_toArray, List.set_cons_zero, List.set_cons_succ]
        refine wpEff2_free (fun b => .slice b.2 y.length b.1) ?_ ?_
        focus
          intro B L wz hL hD hC
          have g7 := hC.get 7 _ rfl (hD 19 (by kernel_rfl))
          obtain ⟨cs7, hb, hrr⟩ := g7
          have hnw := hC.nw
          refine .inl ⟨by rfl, ?_⟩
          unfold effAt2
          go_simp
          refine ((lall wz _ cs7 hb hrr)).mono ?_
          rintro e w9 ⟨v, rfl, ho⟩
          obtain ⟨b, rfl, q9, f1, f2, f3⟩ := outB hnw ho
          exact ⟨b, rfl, hC.put hlast q9 _ b (by intro f hf hk; simp only [List.mem_cons, List.not_mem_nil, or_false] at hf; rcases hf with rfl | rfl | rfl | rfl | rfl | rfl | rfl | rfl | rfl <;> first | exact ⟨f1, f2, f3⟩ | exact absurd hk (by simp [bytesF, blkF, rowsF]))⟩
        simp only [Act.put, List.setIfInBounds_toArray, List.set_cons_zero, List.set_cons_succ]
        refine wpEff2_dep (fun B => .slice (B 20).2 y.length (B 20).1) (fun B B2 h => by have e := h 20 (by kernel_rfl); simp only [e]) ?_ ?_
        focus
          intro B L wz hL hD hC
          refine .inl ⟨by rfl, ?_⟩
          unfold effAt
          go_simp
          exact ⟨rfl, hC.keep _ (by rfl)⟩
        simp only [Act.put, List.setIfInBounds_toArray, List.set_cons_zero, List.set_cons_succ]
        refine wpEff2_nil fun B wz hC5 => ?_
        obtain ⟨f1, f2, f3⟩ := hC5.get 8 _ rfl rfl
        have hnw := hC5.nw
        go_wp2_with fail
        go_roundw
        case rel =>
          refine ⟨k + 1, by omega, rfl, (B 20), ?_, (Q3.drew).tr hnw, ?_, ?_⟩
          · have e : enc n ++ actsB (l.take (k + 1)) = y := by
              rw [HS.out, ← List.append_assoc, HB.out.1, ← HY.out.1, ← HY.out.2]
              simp
            simp only [e]
            try rfl
          · have e : enc n ++ actsB (l.take (k + 1)) = y := by
              rw [HS.out, ← List.append_assoc, HB.out.1, ← HY.out.1, ← HY.out.2]
              simp
            simp only [e]
            exact f1.mono (fun j hj _ => Nat.le_trans (Q3.drew).size hj)
          · have e : enc n ++ actsB (l.take (k + 1)) = y := by
              rw [HS.out, ← List.append_assoc, HB.out.1, ← HY.out.1, ← HY.out.2]
              simp
            simp only [e]
            exact ⟨f2, f3⟩
        case measure => simp [intOf]; omega
    · go_wp2_with fail
      go_ret
      have hkn : k = l.length := by have := HN.out; omega
      have e := HB.out.1
      rw [hkn, List.take_length] at e
      rw [e]
      have e2 := HB.out.2
      exact ⟨_, rfl, (c0, A0), by rw [e2]; rfl, hq, hs0, by rw [e2]; exact hc0⟩
end Go.Proofs.YtkjnlhidnkbelaaGreatDoor
