/- Lemmas of the walks: OlA. (Laid together by shake.py.) -/
import Derived.Test.YtkjnlhidnkbelaaGreatDoorOz23
import Derived.Test.YtkjnlhidnkbelaaGreatDoorOz24
import Derived.Test.YtkjnlhidnkbelaaGreatDoorOz25
import Derived.Test.YtkjnlhidnkbelaaGreatDoorOz26
set_option linter.unusedVariables false
set_option linter.unusedSimpArgs false
namespace Go.Proofs.YtkjnlhidnkbelaaGreatDoor
open Go Go.RowKit
set_option linter.unusedVariables false
set_option linter.unusedSimpArgs false
/-- Bytes in memory made since w. -/
def BsAt (w : World) (v : Value) (n : Nat) (wx : World) : Prop := ∃ (A : Option Addr) (c : Nat) (S : List UInt8), v = .slice A n c ∧ S.length = n ∧ n ≤ 1000000 ∧ n ≤ c ∧ c ≤ maxLen ∧ Sl wx (fun k => w.heap.size ≤ k) A (S.map B8) ∧ Nw w wx
theorem BsAt.nw {w wx wy : World} {v : Value} {n : Nat} (h : BsAt w v n wx) (f : Nw wx wy) : BsAt w v n wy := by
  obtain ⟨A, c, S, h1, h2, h3, h4, h5, h6, h7⟩ := h
  exact ⟨A, c, S, h1, h2, h3, h4, h5, h6.fr f (fun _ _ h => h), h7.tr f⟩
def KnA (w : World) (i : Value) (wx : World) : Prop := ∃ k : Nat, k ≤ 15 ∧ i = .int .i64 k ∧ Nw w wx
def KnB (w : World) (b j : Value) (wx : World) : Prop := ∃ k n : Nat, k ≤ 1024 ∧ j = .int .i64 k ∧ BsAt w b n wx
def KnC (w : World) (b : Value) (n : Nat) (i : Value) (wx : World) : Prop := ∃ k : Nat, k ≤ n ∧ i = .int .i64 k ∧ BsAt w b n wx
def KnD (w : World) (b : Value) (n : Nat) (i : Value) (wx : World) : Prop := ∃ z : Nat, z ≤ 260 ∧ i = .int .i64 z ∧ BsAt w b n wx
theorem SmO.sz {x : OrdF} (h : SmO x) : OrdSz x := ⟨h.kind, ⟨by have := h.acts.1; omega, h.acts.2⟩, ⟨by have := h.reads.1; omega, h.reads.2⟩, by have := h.bytes; omega, by have := h.lo; omega, by have := h.hi; omega⟩
theorem u8_nat (z : Nat) : (Value.int .u8 ((z : Int) % 256)) = B8 (UInt8.ofNat z) := by
  show _ = Value.int .u8 ((UInt8.ofNat z).toNat : Int)
  rw [UInt8.toNat_ofNat']
  congr 1
theorem Own.some_ {w : World} {E : TypeId} {n c : Nat} {A : Option Addr} {vs : List Value} (h : Own w E 1 A n c vs) (hn : 0 < n) : ∃ g, A = some ⟨g, 0, none⟩ := by
  rcases h.2 with ⟨_, h0, _⟩ | ⟨g, cur, h1, _⟩
  · omega
  · exact ⟨g, h1⟩
theorem put_most (x : OrdF) : (putOut (if ordOk x = true then some (ordB x) else none)).1.length ≤ 1000000 := by
  by_cases h : ordOk x = true
  · rw [if_pos h]; exact ordB_most h
  · rw [if_neg h]; exact Nat.zero_le _
set_option maxRecDepth 100000 in
set_option maxHeartbeats 16000000 in
theorem okinds_walk (w : World) : Calls Tryz.prog 3 #[] w fun e w' => e = .returned (.bool true) ∧ Nw w w' := by
  have haw := fun w => awake22_any w
  have hgets := fun (w' : World) (A : Option Addr) (c : Nat) (bs : List UInt8) (F : Nat → Prop) (h : Sl w' F A (bs.map B8)) (h1 : bs.length ≤ c) (h2 : c ≤ maxLen) => gets_walk w' A c bs (h.mono (fun _ _ h => h)) h1 h2
  have HGT := Lib.hid hgets
  clear hgets
  go_enter Tryz.func3, Tryz.ntmps3
  go_wp2_with fail
  go_loopw [1] (fun i wx => KnA w i wx) (fun i _ => 15 - (intOf i).toNat)
  case atStart => exact ⟨0, by omega, rfl, Fr.refl _ _⟩
  case round =>
    obtain ⟨k, hk, rfl, hq⟩ := hrel
    by_cases hlt : k < 15
    · have hb0 : BsAt w (.slice none 0 0) 0 wr := ⟨none, 0, [], rfl, rfl, by omega, Nat.le_refl _, Nat.zero_le _, .inl rfl, hq⟩
      have hkd : (0 : Int) ≤ k ∧ (k : Int) ≤ 255 := by omega
      go_wp2_with fail
      have hd1 : decide ((k : Int) < 15) = true := decide_eq_true (by omega)
      try rw [hd1]
      go_loopw [2, 3] (fun b j wx => KnB w b j wx) (fun _ j _ => 1024 - (intOf j).toNat)
      case atStart => exact ⟨0, 0, by omega, rfl, hb0⟩
      case round =>
        clear hb0 hq
        obtain ⟨j, n, hj, rfl, hbs⟩ := hrel
        by_cases hlt2 : j < 1024
        · obtain ⟨wB, hwB⟩ : ∃ wB, wB = wr := ⟨_, rfl⟩
          rw [← hwB] at hbs ⊢
          clear hwB
          have hkk := kinds_any wB k j hkd.1 hkd.2
          go_upto_region 9 with (go_at_call 8; refine hkk.mono ?_; rintro e w1 ⟨x, p, rfl, hsm, hi, q1⟩)
          obtain ⟨X, hX⟩ : ∃ X, X = w1.heap.size := ⟨_, rfl⟩
          obtain ⟨W1, hW1⟩ : ∃ W, W = w1.alloc (.cells (ofA (U8V x.kind) x p) 31) := ⟨_, rfl⟩
          have qv1 : Nw w1 W1 := by rw [hW1]; exact (Fr.refl (fun _ => False) w1).alloc _
          have x1 : Blk W1 X 31 (ofA (U8V x.kind) x p) := by rw [hW1, hX]; exact Blk.new w1 _ _
          have hi1 := hi.fr qv1 (fun _ _ h => h)
          have hp := puts_sm W1 x p hsm hi1.lt_
          have HX := Lib.hid hX
          have HW1 := Lib.hid hW1
          rw [← HX.out, ← HW1.out]
          have hbs1 := hbs.nw (q1.tr qv1)
          clear hX hW1 hi qv1 q1 hbs hkk
          go_upto_region 11 with (first | (refine wpList_load_row rfl 31 _ rfl X rfl 31 _ (0, 0) _ x1 Tryz.underlying31 rfl ord_size ?_) | (go_at_call 5; refine hp.mono ?_; rintro e w2 ⟨rfl, q2⟩))
          have x2 := x1.fr q2 (fun h => h)
          have hput := oput_any w2 _ x p (hi1.fr q2 (fun _ _ h => h)) hsm.sz
          have hmost := put_most x
          generalize (if ordOk x = true then some (ordB x) else none) = po at hput hmost
          obtain ⟨S, hS⟩ : ∃ S, (putOut po).1 = S := ⟨_, rfl⟩
          obtain ⟨es, hes⟩ : ∃ es, (putOut po).2 = es := ⟨_, rfl⟩
          obtain ⟨ns, hns⟩ : ∃ ns, S.length = ns := ⟨_, rfl⟩
          rw [hS, hns] at hmost
          have hp2 : Calls Tryz.prog 9 #[.agg (ofA (U8V x.kind) x p)] w2 fun e w' => ∃ A c, e = .returned (.tuple #[.slice A ns c, .int .i64 es]) ∧ Own w' 5 1 A ns c (S.map B8) ∧ Nw w2 w' ∧ ∀ k, inA A k → w2.heap.size ≤ k := hput.mono fun e w' h => by
            obtain ⟨A, c, h1, h2, h3, h4⟩ := h.out
            rw [hS, hes, hns] at h1
            rw [hS, hns] at h2
            exact ⟨A, c, h1, h2, h3, h4⟩
          have HNS := Lib.hid hns
          have hbs2 := hbs1.nw q2
          clear hput hS hes hns hp x1 hi1 hbs1
          by_cases her : es = 0
          · subst her
            go_wp2_with (first | (refine wpList_load_row rfl 31 _ rfl X rfl 31 _ (0, 0) _ x2 Tryz.underlying31 rfl ord_size ?_) | (go_at_call 9; refine hp2.mono ?_; rintro e w3 ⟨A3, c3, rfl, o3, q3, n3⟩))
            go_roundw
            case rel =>
              have hc3 := o3.cap_le
              obtain ⟨_, _, _, _, _, _, _, _, _, hqq⟩ := hbs2
              exact ⟨j + 1, ns, by omega, by go_num, A3, c3, S, rfl, HNS.out, hmost, hc3.1, hc3.2, o3.sl.mono (fun k hk _ => Nat.le_trans hqq.size (n3 k hk)), hqq.tr q3⟩
            case measure => simp [intOf]; omega
          · have herb : (es == 0) = false := beq_false_of_ne her
            go_wp2_with (first | (refine wpList_load_row rfl 31 _ rfl X rfl 31 _ (0, 0) _ x2 Tryz.underlying31 rfl ord_size ?_) | (go_at_call 9; refine hp2.mono ?_; rintro e w3 ⟨A3, c3, rfl, o3, q3, n3⟩))
            go_roundw
            case rel => exact ⟨j + 1, n, by omega, by go_num, hbs2.nw q3⟩
            case measure => simp [intOf]; omega
        · obtain ⟨A, c, S, rfl, hS, hn1, hnc, hcm, hsl, hq⟩ := hbs
          have hbs : BsAt w (.slice A n c) n wr := ⟨A, c, S, rfl, hS, hn1, hnc, hcm, hsl, hq⟩
          go_wp2_with fail
          have hd2 : decide ((j : Int) < 1024) = false := decide_eq_false (by omega)
          try rw [hd2]
          go_loopw [7] (fun i wx => KnC w (.slice A n c) n i wx) (fun i _ => n - (intOf i).toNat)
          case atStart => exact ⟨0, Nat.zero_le _, rfl, hbs⟩
          case round =>
            clear hbs hsl hq hS S
            obtain ⟨i, hi, rfl, hbs⟩ := hrel
            by_cases hlt3 : i < n
            · go_wp2_with fail
              have hd3 : decide ((i : Int) < (n : Int)) = true := decide_eq_true (by omega)
              try rw [hd3]
              go_loopw [8] (fun i wx => KnD w (.slice A n c) n i wx) (fun i _ => 260 - (intOf i).toNat)
              case atStart => exact ⟨0, by omega, rfl, hbs⟩
              case round =>
                clear hbs
                obtain ⟨z, hz, rfl, hbs⟩ := hrel
                have hbs' := hbs
                obtain ⟨A', c', S, he, hS, hn1, hnc, hcm, hsl, hq⟩ := hbs'
                injection he with he1 he2 he3
                subst he1; subst he3
                obtain ⟨wB, hwB⟩ : ∃ wB, wB = wr := ⟨_, rfl⟩
                rw [← hwB] at hbs hsl hq ⊢
                clear hwB
                by_cases hlt4 : z < 256
                · have hqa : Nw wB (wB.alloc (.cells #[] 5)) := (Fr.refl (fun _ => False) wB).alloc _
                  have hzi : (z : Int) < 256 := by omega
                  have hzm : (z : Int) % 256 = (z : Int) := by omega
                  go_upto_region 21 with (at_builtin; refine wl_append2 rfl _ _ _ rfl 1 (.int .u8 0) Tryz.underlying22 info_u8 rfl (by decide) rfl (Own.new wB 5 1 0 0 #[] (Nat.le_refl _) (by decide) rfl) rfl (hsl.alloc _) (by simp [hS]) (B8_oneCell S) (by omega) (by unfold maxLen; omega) ?_; intro A6 c6 w6 hap)
                  obtain ⟨o6, q6, f6⟩ := hap.newOwn hqa (fun k hk => by rw [(inA_some _ _).1 hk]; exact Nat.le_refl _)
                  simp only [Nat.zero_add, Nat.zero_mul, List.take_zero, List.nil_append] at o6
                  obtain ⟨g6, rfl⟩ := o6.some_ (by omega)
                  have cA := o6.cellAt (k := i) (by omega)
                  rw [List.getElem?_map, List.getElem?_eq_getElem (by omega)] at cA
                  simp only [Option.map_some] at cA
                  have fA := o6.frozenAt i
                  have e8 : B8 (UInt8.ofNat z) = Value.int .u8 (z : Int) := by rw [← u8_nat, hzm]
                  have o7 := o6.store i (B8 (UInt8.ofNat z))
                  rw [← List.map_set, e8] at o7
                  have q7 : Nw wB (w6.setCell ⟨g6, i, none⟩ (Value.int .u8 (z : Int))) := q6.setCell (p := ⟨g6, i, none⟩) (.inr (f6 g6 ((inA_some _ _).2 rfl))) _
                  have hc6 := o6.cap_le
                  have hlen : (S.set i (UInt8.ofNat z)).length = n := by rw [List.length_set, hS]
                  have hgt := fun w' (h : Sl w' (inA (some ⟨g6, 0, none⟩)) (some ⟨g6, 0, none⟩) ((S.set i (UInt8.ofNat z)).map B8)) => HGT.out w' (some ⟨g6, 0, none⟩) c6 (S.set i (UInt8.ofNat z)) _ h (by rw [hlen]; omega) hc6.2
                  rw [hlen] at hgt
                  have hii : (i : Int) < (n : Int) := by omega
                  have hi0 : (0 : Int) ≤ (i : Int) := by omega
                  go_wp2_with (go_at_call 7; refine (hgt _ o7.sl).mono ?_; rintro e w8 ⟨rfl, q8⟩)
                  go_roundw
                  case rel => exact ⟨z + 5, by omega, by go_num, hbs.nw (q7.tr q8)⟩
                  case measure => simp [intOf]; omega
                · have hzi : ¬ ((z : Int) < 256) := by omega
                  have hgi := fun w' (h : Nw wB w') => HGT.out w' A c (S.take i) _ (by rw [List.map_take]; exact (hsl.fr h (fun _ _ h => h)).pre) (by rw [List.length_take]; omega) hcm
                  have hti : (S.take i).length = i := by rw [List.length_take]; omega
                  rw [hti] at hgi
                  have hln : (S ++ [UInt8.ofNat i]).length = n + 1 := by rw [List.length_append, hS]; rfl
                  have hgm := fun w' A' c' F' (h : Sl w' F' A' ((S ++ [UInt8.ofNat i]).map B8)) (h1 : n + 1 ≤ c') (h2 : c' ≤ maxLen) => HGT.out w' A' c' (S ++ [UInt8.ofNat i]) F' h (by rw [hln]; exact h1) h2
                  rw [hln] at hgm
                  have hmp : S.map B8 ++ [Value.int .u8 ((i : Int) % 256)] = (S ++ [UInt8.ofNat i]).map B8 := by rw [u8_nat, List.map_append]; rfl
                  have hsl1 : ∀ w, (Instr.slice 22 (.slice A n c) none (some (.int .i64 (i : Int))) none).run Tryz.prog w = .ok (.slice A i c) w := slice_h (P := Tryz.prog) 22 under_bytes 1 size_bytes A n c i (by omega)
                  have HGM := Lib.hid hgm
                  have HMP := Lib.hid hmp
                  clear hgm hmp hln hti
                  go_wp2_with (first | (go_at_call 7; refine (HGM.out _ _ _ _ s12 hc12.1 hc12.2).mono ?_; rintro e w13 ⟨rfl, q13⟩) | (go_at_call 7; refine (hgi _ (Fr.refl _ _)).mono ?_; rintro e w9 ⟨rfl, q9⟩) | (at_builtin; refine wl_append2w (by kernel_rfl) _ _ _ rfl 1 (.int .u8 0) Tryz.underlying22 info_u8 rfl (by decide) rfl (o10.alloc _) rfl (sl_new w10 5 [.int .u8 ((i : Int) % 256)] _ rfl) rfl (by intro u hu; rw [List.mem_singleton.1 hu]; rfl) (by omega) (by unfold maxLen; omega) ?_; intro A12 c12 w12 hap2; obtain ⟨o12, q12, n12⟩ := hap2.newOwn (q10.alloc _) n10; have s12 : Sl w12 (inA A12) A12 ((S ++ [UInt8.ofNat i]).map B8) := (by have h := o12.sl; rwa [HMP.out] at h); have hc12 := o12.cap_le) | (at_builtin; refine wl_append2w (by kernel_rfl) _ _ _ rfl 1 (.int .u8 0) Tryz.underlying22 info_u8 rfl (by decide) rfl (Own.new w9 5 1 0 0 #[] (Nat.le_refl _) (by decide) rfl) rfl ((hsl.fr q9 (fun _ _ h => h)).alloc _) (by simp [hS]) (B8_oneCell S) (by omega) (by unfold maxLen; omega) ?_; intro A10 c10 w10 hap; obtain ⟨o10, q10, n10⟩ := hap.newOwn ((Fr.refl (fun _ => False) w9).alloc _) (fun k hk => by rw [(inA_some _ _).1 hk]; exact Nat.le_refl _); simp only [Nat.zero_mul, List.take_zero, List.nil_append] at o10; rw [Nat.zero_add n] at o10 ⊢))
                  go_roundw
                  case rel => exact ⟨i + 1, by omega, by go_num, hbs.nw ((q9.tr q12).tr q13)⟩
                  case measure => simp [intOf]; omega
            · obtain ⟨_, _, _, _, _, _, _, _, _, hqe⟩ := hbs
              go_wp2_with fail
              go_roundw
              case rel => exact ⟨k + 1, by omega, by go_num, hqe⟩
              case measure => simp [intOf]; omega
    · obtain rfl : k = 15 := by omega
      go_upto_region 26 with (fail)
      rename_i hK26
      exact okinds_loops w wr hq _ rfl _ hK26
end Go.Proofs.YtkjnlhidnkbelaaGreatDoor
