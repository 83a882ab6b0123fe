/- WireEnds: the walk, its first loop. -/
import Derived.Test.YtoapobgnfgfobaaL02E
import Derived.Test.YtoapobgnfgfobaaRefC
import Derived.Test.YtoapobgnfgfobaaL02X
import Derived.Test.YtoapobgnfgfobaaL02H
namespace Go.Proofs.Ytoapobgnfgfobaa
open Go Go.RowKit

/-- A list of integers, of what length, of the call's own. -/
def EndNs (w : World) (t : Value) (n : Nat) (wr : World) : Prop :=
  ∃ A c cs, t = .slice A n c ∧ Own wr 3 1 A n c cs ∧ (∀ u ∈ cs, ∃ v, u = I64 v) ∧ Nw w wr ∧ ∀ b, inA A b → w.heap.size ≤ b
def EndRel (w : World) (t i : Value) (wr : World) : Prop :=
  ∃ k : Nat, k ≤ 8 ∧ i = .int .i64 (7 + 7 * k : Nat) ∧ EndNs w t (7 + 3 * k) wr

/-- WireReads on two fresh lists. -/
theorem wr_new (w : World) (vs us : Array Value) (bs : List UInt8) (cs : List Nm) (n m : Nat) (hv : vs.toList = bs.map B8) (hu : us.toList = nmCells cs) (hn : bs.length = n) (hm : cs.length = m) (hn2 : n ≤ 1000) (hm2 : m ≤ 1000) :
    Calls Try.prog 7 #[.slice (some ⟨w.heap.size, 0, none⟩) n n, .slice (some ⟨w.heap.size + 1, 0, none⟩) m m] ((w.alloc (.cells vs 5)).alloc (.cells us 85)) fun e w' => e = .returned (.bool true) ∧ Nw w w' := by
  subst hn hm
  have q : Nw w ((w.alloc (.cells vs 5)).alloc (.cells us 85)) := ((Fr.refl _ w).alloc _).alloc _
  have a := sl_new w 5 vs.toList _ rfl
  have b := sl_new (w.alloc (.cells vs 5)) 85 us.toList (w.heap.size + 1) (by simp)
  rw [Array.toArray_toList] at a b
  have a2 := (a.fr (S := fun _ => False) ((Fr.refl _ _).alloc (.cells us 85)) (fun _ _ h => h)).mono (F' := fun x => x < ((w.alloc (.cells vs 5)).alloc (.cells us 85)).heap.size) fun b _ h => h
  have b2 := b.mono (F' := fun x => x < ((w.alloc (.cells vs 5)).alloc (.cells us 85)).heap.size) fun b _ h => h
  rw [hv] at a2
  rw [hu] at b2
  refine (wreads_walk _ _ _ _ _ bs cs a2 b2 (by omega) (by omega)).mono ?_
  rintro e w' ⟨rfl, q2⟩
  exact ⟨rfl, q.tr q2⟩

def EndsK (wB : World) (i : Value) (wv : World) : Prop := ∃ k : Nat, k ≤ 31 ∧ i = .int .i64 k ∧ Nw wB wv
def EndsL (wB : World) (i : Value) (wv : World) : Prop := ∃ k : Nat, k ≤ 256 ∧ i = .int .i64 k ∧ Nw wB wv
def EndsNo (wB : World) (j : Value) (wv : World) : Prop := j = .int .i64 (-1) ∧ wv = wB

set_option maxRecDepth 100000 in
set_option maxHeartbeats 4000000 in
theorem ends_walk (w : World) : Calls Try.prog 8 #[] w fun e w' => e = .returned (.bool true) ∧ Nw w w' := by
  go_enter Try.func8, Try.ntmps8
  go_wp2_with fail
  go_loopw [1, 2] (fun t i wr => EndRel w t i wr) (fun _ i _ => 63 - (intOf i).toNat)
  case atStart =>
    refine ⟨0, by omega, rfl, some ⟨w.heap.size, 0, none⟩, 7, _, rfl, Own.new w 3 1 7 7 _ (Nat.le_refl _) (by decide) rfl, ?_, (Fr.refl _ w).alloc _, fun b hb => by rw [(inA_some _ _).1 hb]; exact Nat.le_refl _⟩
    intro u hu
    simp at hu
    rcases hu with rfl | rfl | rfl | rfl | rfl | rfl | rfl <;> exact ⟨_, rfl⟩
  case round =>
    obtain ⟨k, hk, rfl, A, c, cs, rfl, ho, hcs, hq, hA⟩ := hrel
    by_cases hlt : k < 8
    · obtain ⟨j, hj⟩ : ∃ j, 7 + 7 * k = j := ⟨_, rfl⟩
      obtain ⟨n, hn⟩ : ∃ n, 7 + 3 * k = n := ⟨_, rfl⟩
      have hi0 : (j : Int) < 63 := by omega
      have hn2 : n ≤ 31 := by omega
      have hj2 : j ≤ 63 := by omega
      rw [hn] at ho
      rw [hj, hn]
      have HJ := Lib.hid hj
      have HN := Lib.hid hn
      have HK := Lib.hid hlt
      clear hj hn hk hlt
      go_wp2_with (at_builtin; refine wl_append2 rfl _ _ _ rfl 8 (.int .i64 0) Try.underlying57 info_i64 rfl (by decide) rfl (ho.alloc _) rfl (sl_new _ _ [I64 (wrap64 (wrap64 (2 ^ j) - 1)), I64 (wrap64 (2 ^ j)), I64 (wrap64 (wrap64 (2 ^ j) + 1))] _ rfl) rfl (I64_one [(wrap64 (wrap64 (2 ^ j) - 1)), (wrap64 (2 ^ j)), (wrap64 (wrap64 (2 ^ j) + 1))]) (by omega) (by unfold maxLen; omega) ?_; intro A' cap' w2 hap)
      go_roundw
      case rel =>
        have hj := HJ.out
        have hn := HN.out
        have hk := HK.out
        obtain ⟨ho2, q2, n2⟩ := hap.newOwn (hq.alloc _) hA
        refine ⟨k + 1, by omega, by rw [← hj]; go_num, A', cap', _, by rw [← hn]; congr 1, by rw [← hn] at ho2; exact ho2, ?_, q2, n2⟩
        intro u hu
        rcases List.mem_append.1 hu with h | h
        · exact hcs u h
        · simp at h
          rcases h with rfl | rfl | rfl <;> exact ⟨_, rfl⟩
      case measure =>
        have hj := HJ.out
        simp [intOf]
        omega
    · have : k = 8 := by omega
      subst this
      have e31 : (7 + 3 * 8 : Nat) = 31 := rfl
      have e63 : ((7 + 7 * 8 : Nat) : Int) = 63 := rfl
      rw [e31] at ho ⊢
      rw [e63]
      obtain ⟨ns, rfl⟩ : ∃ ns : List Int, cs = ns.map I64 := by
        clear ho
        induction cs with
        | nil => exact ⟨[], rfl⟩
        | cons u l ih =>
          obtain ⟨v, rfl⟩ := hcs u (by simp)
          obtain ⟨ns, rfl⟩ := ih (fun x hx => hcs x (by simp [hx]))
          exact ⟨v :: ns, rfl⟩
      have hnl : ns.length = 31 := by have := ho.1; simpa using this
      have hcap := ho.cap_le
      clear hcs hk hlt e31 e63
      obtain ⟨g, rfl⟩ : ∃ g, A = some ⟨g, 0, none⟩ := by
        rcases ho.2 with ⟨_, h, _⟩ | ⟨g, cur, e, _⟩
        · cases h
        · exact ⟨g, e⟩
      obtain ⟨wB, rfl⟩ : ∃ wB, wB = wr := ⟨_, rfl⟩
      go_wp2_with fail
      go_loopw [3] (fun i wv => EndsK wB i wv) (fun i _ => 31 - (intOf i).toNat)
      case atStart => exact ⟨0, by omega, rfl, Fr.refl _ _⟩
      case round =>
        obtain ⟨k, hk, rfl, hq2⟩ := hrel
        by_cases hlt : k < 31
        · have ho2 := ho.fr hq2 (fun _ _ h => h)
          have S0 := ho2.sl
          have hi0 : (k : Int) < 31 := by omega
          have hi1 : (k : Int) + 1 = ((k + 1 : Nat) : Int) := by omega
          have s1 := slice_lh (P := Try.prog) 57 Try.underlying57 1 (by intro w; kernel_rfl) (some ⟨g, 0, none⟩) 31 c k (k + 1) (by omega) (by omega)
          have s2 := slice_l (P := Try.prog) 57 Try.underlying57 1 (by intro w; kernel_rfl) (some ⟨g, 0, none⟩) 31 c k (by omega)
          simp only [show k + 1 - k = 1 from by omega, ← hi1] at s1
          have hx : ((ns.map I64).drop (k * 1)).take ((k + 1 - k) * 1) = [ns[k]].map I64 := by
            rw [show (k + 1 - k) * 1 = 1 by omega, Nat.mul_one, ← List.map_drop, ← List.map_take, List.drop_eq_getElem_cons (by omega), List.take_succ_cons, List.take_zero]
          have S1 := S0.cut (n := 31) (m := c) (s := 1) (l := k) (k := k + 1) (by simp [hnl]) (by omega) hcap.1 (by omega)
          rw [hx] at S1
          have S2 := S0.drop (n := 31) (m := c) (s := 1) (l := k) (by simp [hnl]) hcap.1 (by omega)
          rw [Nat.mul_one, ← List.map_drop] at S2
          have hw1 : Calls Try.prog 6 #[.slice (cutA (some ⟨g, 0, none⟩) c k 1) 1 (c - k), .slice none 0 0, .slice none 0 0, .slice none 0 0] wr fun e w' => e = .returned (.bool true) ∧ Nw wr w' := writes_walk wr (cutA (some ⟨g, 0, none⟩) c k 1) none none none (c - k) 0 0 0 [ns[k]] [] [] [] [] (S1.mono fun b _ h => h) (Sl.nil _ _ _) (Sl.nil _ _ _) (Sl.nil _ _ _) ⟨rfl, fun k h => absurd h (Nat.not_lt_zero _)⟩ (by simp) (by simp) (by simp) (by simp) (by simp) (by simp)
          clear hx hi1
          go_wp2_with fail
          refine hw1.mono ?_
          rintro e w1 ⟨rfl, q1⟩
          go_wp2_with fail
          have q2 : Nw w1 ((w1.alloc (.cells #[.bool true] 4)).alloc (.cells #[.string ⟨#[120]⟩] 9)) := ((Fr.refl _ w1).alloc _).alloc _
          have hdl : (ns.drop k).length = 31 - k := by simp [hnl]
          have hw2 : Calls Try.prog 6 #[.slice (cutA (some ⟨g, 0, none⟩) c k 1) (31 - k) (c - k), .slice (some ⟨w1.heap.size, 0, none⟩) 1 1, .slice (some ⟨w1.heap.size + 1, 0, none⟩) 1 1, .slice none 0 0] ((w1.alloc (.cells #[.bool true] 4)).alloc (.cells #[.string ⟨#[120]⟩] 9)) fun e w' => e = .returned (.bool true) ∧ Nw ((w1.alloc (.cells #[.bool true] 4)).alloc (.cells #[.string ⟨#[120]⟩] 9)) w' := by
            have h := writes_walk ((w1.alloc (.cells #[.bool true] 4)).alloc (.cells #[.string ⟨#[120]⟩] 9)) (cutA (some ⟨g, 0, none⟩) c k 1) (some ⟨w1.heap.size, 0, none⟩) (some ⟨w1.heap.size + 1, 0, none⟩) none (c - k) 1 1 0 (ns.drop k) [true] [⟨#[120]⟩] [] []
              ((S2.fr (q1.tr q2) (fun _ _ h => h)).mono fun b _ h => h)
              (((sl_new w1 4 [.bool true] _ rfl).fr (S := fun _ => False) ((Fr.refl _ _).alloc _) (fun _ _ h => h)).mono fun b _ h => h)
              ((sl_new (w1.alloc (.cells #[.bool true] 4)) 9 [.string ⟨#[120]⟩] _ (by simp)).mono fun b _ h => h)
              (Sl.nil _ _ _) ⟨rfl, fun k h => absurd h (Nat.not_lt_zero _)⟩ (by omega) (by simp) (by simp) (by simp) (by intro t ht; simp at ht; subst ht; decide) (by simp)
            rw [hdl] at h
            exact h
          refine hw2.mono ?_
          rintro e w3 ⟨rfl, q3⟩
          have q4 : Nw wr w3 := (q1.tr q2).tr q3
          have ho3 := ho2.fr q4 (fun _ _ h => h)
          clear hw1 hw2 S0 S1 S2 ho2
          have hc3 := ho3.cellAt (k := k) (by omega)
          have hx : (ns.map I64)[k]? = some (I64 ns[k]) := by rw [List.getElem?_map, List.getElem?_eq_getElem (by omega)]; rfl
          rw [hx] at hc3
          clear hx
          generalize ns[k] = x at hc3
          go_wp2_with fail
          by_cases hx : x < 0 ∨ 4611686018427387903 < x
          · refine (rnum_bad _ x hx).mono ?_
            rintro e w4 ⟨rfl, rfl⟩
            go_wp2_with fail
            go_loopw [6] (fun j wv => EndsNo w3 j wv) (fun _ _ => 0)
            case atStart => exact ⟨rfl, rfl⟩
            case round =>
              obtain ⟨rfl, rfl⟩ := hrel
              go_wp2_with fail
              go_roundw
              case rel => exact ⟨k + 1, by omega, by go_num, hq2.tr q4⟩
              case measure => simp [intOf]; omega
          · obtain ⟨wC, rfl⟩ : ∃ wC, wC = wr := ⟨_, rfl⟩
            obtain ⟨n, rfl⟩ : ∃ n : Nat, x = (n : Int) := ⟨x.toNat, by omega⟩
            have hn : n ≤ 4611686018427387903 := by omega
            clear hx
            refine (rnum_ok _ n hn).mono ?_
            rintro e w4 ⟨A1, c1, rfl, ho4, q5, n5⟩
            have hm1 : 1 ≤ (enc n).length := List.length_pos_iff.2 (enc_ne n)
            obtain ⟨ga, rfl⟩ : ∃ ga, A1 = some ⟨ga, 0, none⟩ := by
              rcases ho4.2 with ⟨_, h, _⟩ | ⟨g, cur, e, _⟩
              · omega
              · exact ⟨g, e⟩
            have hga : w3.heap.size ≤ ga := n5 ga ((inA_some _ _).2 rfl)
            have hm9 := enc_len n
            have hcm := ho4.cap_le
            have R4 : RowM w4 ga c1 (enc n).length := ⟨enc n, rfl, ho4⟩
            clear ho4 n5
            generalize (enc n).length = m at R4 hm9 hm1 hcm ⊢
            obtain ⟨p, hp⟩ : ∃ p, p + 1 = m := ⟨m - 1, by omega⟩
            have hmp : (m : Int) - 1 = (p : Int) := by omega
            have s1 := slice_h (P := Try.prog) 43 under_bytes 1 size_bytes (some ⟨ga, 0, none⟩) m c1 p (by omega)
            have hwm : wrap64 ((m : Int) - 1) = (p : Int) := by rw [hmp]; exact IntWalk.wrap64_in _ (by omega)
            have s2 : ∀ w, (Instr.slice 43 (.slice (some ⟨ga, 0, none⟩) m c1) none (some (.int .i64 (wrap64 ((m : Int) - 1)))) none).run Try.prog w = .ok (.slice (some ⟨ga, 0, none⟩) p c1) w := fun w => by rw [hwm]; exact s1 w
            rw [← hmp] at s1
            have HMP := Lib.hid hmp
            clear hmp hwm
            go_wp2_with fail
            go_loopw [6] (fun j wv => EndIn w3 ga c1 m j wv) (fun j _ => 3 - (intOf j + 1).toNat)
            case atStart => exact ⟨0, by omega, rfl, R4, q5⟩
            case round =>
              clear R4 q5
              obtain ⟨i, hi, rfl, R, q6⟩ := hrel
              obtain ⟨jv, hjv⟩ : ∃ jv : Int, (i : Int) - 1 = jv := ⟨_, rfl⟩
              rw [hjv]
              by_cases hlt : jv < 2
              · have hj0 : -1 ≤ jv := by omega
                have HJ := Lib.hid hjv
                have hj2 : jv + 1 = ((i + 1 : Nat) : Int) - 1 := by have := HJ.out; omega
                have HI := Lib.hid hi
                clear hjv hi
                have hgl := World.block_lt_of_cell? _ _ hc3
                have hc4 := (q6.cell hgl (fun h => h)).trans hc3
                obtain ⟨bs, hbs, hob⟩ := R
                go_wp2_with fail
                refine reg15 hi0 hc3 q6 hbs hob hga hp hm9 ?_
                clear hob q6
                intro _ _ _ _ _ _ _ _ _ _ _ _ _ _ _ _ _ _ _ _ _ _ _ _ _ _ _ _ _ _ _ _ _ _ _ _ w8 q8 ho8
                have R8 : RowM w8 ga c1 m := ⟨bs, hbs, ho8⟩
                clear ho8 hbs hc4
                obtain ⟨b8, hb8⟩ := R8.cell (m - 1) (by omega)
                have hf8 := R8.frozen (m - 1)
                have hv8 := or_byte b8
                have R9 := R8.store (m - 1) _ hv8.1 hv8.2
                have q9 : Nw w3 (w8.setCell ⟨ga, m - 1, none⟩ (.int .u8 (bits BinOp.or IntKind.u8 (b8.toNat : Int) 128))) := q8.setCell (.inr hga) _
                clear R8
                have hsz9 : (w8.setCell ⟨ga, m - 1, none⟩ (.int .u8 (bits BinOp.or IntKind.u8 (b8.toNat : Int) 128))).heap.size = w8.heap.size := by simp [World.setCell]
                obtain ⟨b9, hb9, ho9⟩ := R9
                have hgA : ∀ k, inA (some ⟨ga, 0, none⟩) k → w3.heap.size ≤ k := fun k hk => by rw [(inA_some _ _).1 hk]; exact hga
                have hap1 : (m + 1) * 1 ≤ 140737488355328 := by omega
                have hap2 : m + 1 ≤ maxLen := by unfold maxLen; omega
                have hone : ∀ (x : Int), ∀ u ∈ [Value.int .u8 x], u.oneCell' = true := fun x u hu => by rw [List.mem_singleton.1 hu]; rfl
                have hb1 : ∀ x, (b9 ++ [x]).length = m + 1 := fun x => by rw [List.length_append, hb9]; rfl
                have hk10 : m + 1 ≤ 1000 := by omega
                have e6 : b9.map B8 ++ [.int .u8 0] = (b9 ++ [0]).map B8 := by rw [List.map_append]; rfl
                have e7 : b9.map B8 ++ [.int .u8 1] = (b9 ++ [1]).map B8 := by rw [List.map_append]; rfl
                go_wp2_with (at_builtin; refine wl_append2 rfl _ _ _ rfl 1 (.int .u8 0) Try.underlying43 info_u8 rfl (by decide) rfl (ho9.alloc _) rfl (sl_new _ 5 [.int .u8 0] _ hsz9) rfl (hone 0) hap1 hap2 ?_; intro A6 c6 w6 hap6)
                have q10 : Nw w3 w6 := (hap6.newOwn (q9.alloc _) hgA).2.1
                have o6 : Sl w6 (inA A6) A6 ((b9 ++ [0]).map B8) := e6 ▸ hap6.1.sl
                have k6 := hap6.2.1
                clear hap6 ho9 q9
                go_wp2_with fail
                refine (wr_row1 w6 _ _ _ (b9 ++ [0]) o6 (m + 1) (hb1 0) hk10 _ _).mono ?_
                rintro e w7 ⟨rfl, r7⟩
                have k7 := k6.fr r7 (fun _ _ h => h)
                have q11 := q10.tr r7
                clear o6 k6 q10 r7
                go_wp2_with (at_builtin; refine wl_append2w (by rfl) _ _ _ rfl 1 (.int .u8 0) Try.underlying43 info_u8 rfl (by decide) rfl (k7.alloc _) rfl (sl_new _ 5 [.int .u8 1] _ rfl) rfl (hone 1) hap1 hap2 ?_; intro A10 c10 w10 hap10)
                have q12 : Nw w3 w10 := (hap10.newOwn (q11.alloc _) hgA).2.1
                have o10 : Sl w10 (inA A10) A10 ((b9 ++ [1]).map B8) := e7 ▸ hap10.1.sl
                have k10 := hap10.2.1
                clear hap10 k7 q11
                go_wp2_with fail
                refine (wr_row1 w10 _ _ _ (b9 ++ [1]) o10 (m + 1) (hb1 1) hk10 _ _).mono ?_
                rintro e w11 ⟨rfl, r11⟩
                have R12 : RowM w11 ga c1 m := ⟨b9, hb9, k10.fr r11 (fun _ _ h => h)⟩
                have q13 := q12.tr r11
                clear o10 k10 q12 r11 hb1 e6 e7 hb9
                obtain ⟨b12, hb12⟩ := R12.cell (m - 1) (by omega)
                have hf12 := R12.frozen (m - 1)
                have hv12 := and_byte b12
                have R13 := R12.store (m - 1) _ hv12.1 hv12.2
                have q14 : Nw w3 (w11.setCell ⟨ga, m - 1, none⟩ (.int .u8 (bits BinOp.and IntKind.u8 (b12.toNat : Int) 127))) := q13.setCell (.inr hga) _
                clear R12 q13
                go_wp2_with fail
                go_roundw
                case rel =>
                  have hj := HJ.out
                  exact ⟨i + 1, by omega, by congr 1; omega, R13, q14⟩
                case measure =>
                  simp [intOf]
                  omega
              · go_wp2_with fail
                go_roundw
                case rel => exact ⟨k + 1, by omega, by go_num, (hq2.tr q4).tr q6⟩
                case measure => simp [intOf]; omega
        · have : k = 31 := by omega
          subst this
          clear ho hnl hcap
          have HQ := Lib.hid (hq.tr hq2)
          clear hq hq2
          have e31 : ((31 : Nat) : Int) = 31 := rfl
          rw [e31]
          clear e31
          go_wp2_with fail
          go_loopw [7] (fun i wv => EndsL w i wv) (fun i _ => 256 - (intOf i).toNat)
          case atStart => exact ⟨0, by omega, rfl, HQ.out⟩
          case round =>
            clear HQ
            obtain ⟨k, hk, rfl, hq⟩ := hrel
            by_cases hlt : k < 256
            · have hi0 : (k : Int) < 256 := by omega
              have hb : ((UInt8.ofNat k).toNat : Int) = (k : Int) := by rw [UInt8.toNat_ofNat', Nat.mod_eq_of_lt (by omega)]
              have hb2 : B8 (UInt8.ofNat k) = .int .u8 (k : Int) := by show Value.int .u8 ((UInt8.ofNat k).toNat : Int) = _; rw [hb]
              go_wp2_with fail
              refine (wr_new wr _ _ [UInt8.ofNat k, 1] [(1, 0), (1, 0), (1, 0)] 2 3 (by rw [List.map_cons, hb2]; rfl) rfl rfl rfl (by omega) (by omega)).mono ?_
              rintro e w1 ⟨rfl, q1⟩
              go_wp2_with fail
              refine (wr_new w1 _ _ [UInt8.ofNat k, 65, 66] [(2, (k : Int) % 5), (3, 9)] 3 2 (by rw [List.map_cons, hb2]; rfl) rfl rfl rfl (by omega) (by omega)).mono ?_
              rintro e w2 ⟨rfl, q2⟩
              go_wp2_with fail
              go_roundw
              case rel => exact ⟨k + 1, by omega, by go_num, (hq.tr q1).tr q2⟩
              case measure => simp [intOf]; omega
            · have : k = 256 := by omega
              subst this
              go_wp2_with fail
              refine (numbers_no _ none (.inl rfl) _).mono ?_
              rintro e w' ⟨rfl, rfl⟩
              go_wp2_with fail
              refine (flags_no _ none (.inl rfl) _).mono ?_
              rintro e w' ⟨rfl, rfl⟩
              go_wp2_with fail
              refine (texts_no _ none (.inl rfl) _).mono ?_
              rintro e w' ⟨rfl, rfl⟩
              go_wp2_with fail
              refine (rows_no _ none (.inl rfl) _).mono ?_
              rintro e w' ⟨rfl, rfl⟩
              go_wp2_with fail
              refine (done_no _ none (.inl rfl)).mono ?_
              rintro e w' ⟨rfl, rfl⟩
              go_wp2_with fail
              have hbn : ∀ (W : World) n, W.heap.size = n → Blk (W.alloc (.cells #[.bool false, .bool false, .slice none 0 0] 95)) n 95 #[.bool false, .bool false, .slice none 0 0] := by
                intro W n h
                subst h
                exact Blk.new _ _ _
              refine (numbers_no _ (some ⟨wr.heap.size + 1 + 1 + 1 + 1, 0, none⟩) (.inr ⟨_, rfl, (hbn _ _ (by simp)).fr (S := fun _ => False) ((Fr.refl _ _).alloc _) (fun h => h)⟩) _).mono ?_
              rintro e w' ⟨rfl, rfl⟩
              go_wp2_with fail
              refine (rows_no _ (some ⟨wr.heap.size + 1 + 1 + 1 + 1, 0, none⟩) (.inr ⟨_, rfl, (hbn _ _ (by simp)).fr (S := fun _ => False) ((((Fr.refl _ _).alloc _).alloc _).alloc _) (fun h => h)⟩) _).mono ?_
              rintro e w' ⟨rfl, rfl⟩
              go_wp2_with fail
              refine (done_no _ (some ⟨wr.heap.size + 1 + 1 + 1 + 1, 0, none⟩) (.inr ⟨_, rfl, (hbn _ _ (by simp)).fr (S := fun _ => False) ((((Fr.refl _ _).alloc _).alloc _).alloc _) (fun h => h)⟩)).mono ?_
              rintro e w' ⟨rfl, rfl⟩
              go_wp2_with fail
              have hrn : ∀ (W : World) n, W.heap.size = n → NoRd (W.alloc (.cells #[.bool false, .bool false, .slice none 0 0] 99)) (some ⟨n, 0, none⟩) := by
                intro W n h
                subst h
                exact .inr ⟨_, rfl, Blk.new _ _ _⟩
              refine (number_no _ none (.inl rfl) _).mono ?_
              rintro e w' ⟨rfl, rfl⟩
              go_wp2_with fail
              refine (flag_no _ none (.inl rfl)).mono ?_
              rintro e w' ⟨rfl, rfl⟩
              go_wp2_with fail
              refine (text_no _ none (.inl rfl) _).mono ?_
              rintro e w' ⟨rfl, rfl⟩
              go_wp2_with fail
              refine (row_no _ none (.inl rfl) _).mono ?_
              rintro e w' ⟨rfl, rfl⟩
              go_wp2_with fail
              refine (left_no _ none (.inl rfl)).mono ?_
              rintro e w' ⟨rfl, rfl⟩
              go_wp2_with fail
              refine (end_no _ none (.inl rfl)).mono ?_
              rintro e w' ⟨rfl, rfl⟩
              go_wp2_with fail
              refine (number_no _ (some _) (hrn _ _ (by simp)) _).mono ?_
              rintro e w' ⟨rfl, rfl⟩
              go_wp2_with fail
              refine (left_no _ (some _) (hrn _ _ (by simp))).mono ?_
              rintro e w' ⟨rfl, rfl⟩
              go_wp2_with fail
              refine (end_no _ (some _) (hrn _ _ (by simp))).mono ?_
              rintro e w' ⟨rfl, rfl⟩
              go_wp2_with fail
              refine (awake02 _).mono ?_
              rintro e w9 ⟨rfl, q9⟩
              go_wp2_with fail
              go_ret
              refine ⟨rfl, Fr.tr ?_ q9⟩
              repeat (first | exact hq | apply Fr.alloc)
end Go.Proofs.Ytoapobgnfgfobaa
