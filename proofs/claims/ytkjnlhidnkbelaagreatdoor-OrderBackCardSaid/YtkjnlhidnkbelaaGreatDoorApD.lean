/- The statements' kit: a bag of lists of bytes alone. Its long walk is printed by program. -/
import Derived.Test.YtkjnlhidnkbelaaGreatDoorApB
import Derived.Test.YtkjnlhidnkbelaaGreatDoorApN
namespace Go.Proofs.YtkjnlhidnkbelaaGreatDoor
open Go Go.RowKit

/-- A bag that has lists of bytes alone. -/
def bagCells (v : Value) : Array Value := #[.slice none 0 0, .slice none 0 0, .slice none 0 0, .slice none 0 0, .slice none 0 0, v, .slice none 0 0, .slice none 0 0, .slice none 0 0, .slice none 0 0, .slice none 0 0, .slice none 0 0, .slice none 0 0, .slice none 0 0, .slice none 0 0, .slice none 0 0, .slice none 0 0, .slice none 0 0, .slice none 0 0, .slice none 0 0, .slice none 0 0, .slice none 0 0]
def IsBag (w : World) (g : Nat) (v : Value) : Prop := Blk w g 152 (bagCells v)

set_option maxRecDepth 100000 in
set_option maxHeartbeats 2000000 in
theorem bagApart_bytes (w : World) (g : Nat) (F0 : Nat → Prop) (B : Option Addr) (c : Nat) (m : Nat) (A : Nat → Option Addr) (N cp : Nat → Nat) (f : Nat → List UInt8) (hbag : IsBag w g (.slice B m c)) (hs : Sl w F0 B (hdrs m A N cp)) (hr : RowsAt w m A N cp f) (hfar : FarR m A) (h0 : ∀ b, F0 b → ¬ InR m A b) (hg : ¬ InR m A g)
    (hm : m ≤ 1000000000) (hN : ∀ k, k < m → N k ≤ 1000000000000) :
    Calls Tryz.prog 85 #[.pointer (some ⟨g, 0, none⟩)] w fun e w' => e = .returned (.bool true) ∧ Fr (InR m A) w w' := by
  unfold IsBag bagCells at hbag
  have HN := Lib.hid hN
  clear hN
  have c0 := hbag.cell 0
  simp at c0
  go_enter Tryz.func85, Tryz.ntmps85
  go_wp2_with fail
  refine (flatNilLimbs _).mono ?_
  rintro e w1 ⟨rfl, q1⟩
  have r1 := q1
  have b1 := hbag.fr r1 (fun h => h)
  clear c0
  have c1 := b1.cell 1
  simp at c1
  clear b1
  go_wp2_with fail
  refine (flatNilWords _).mono ?_
  rintro e w2 ⟨rfl, q2⟩
  have r2 := r1.tr q2
  have b2 := hbag.fr r2 (fun h => h)
  clear c1
  have c2 := b2.cell 2
  simp at c2
  clear b2
  go_wp2_with fail
  refine (flatNilInts _).mono ?_
  rintro e w3 ⟨rfl, q3⟩
  have r3 := r2.tr q3
  have b3 := hbag.fr r3 (fun h => h)
  clear c2
  have c3 := b3.cell 3
  simp at c3
  clear b3
  go_wp2_with fail
  refine (flatNilLongs _).mono ?_
  rintro e w4 ⟨rfl, q4⟩
  have r4 := r3.tr q4
  have b4 := hbag.fr r4 (fun h => h)
  clear c3
  have c4 := b4.cell 4
  simp at c4
  clear b4
  go_wp2_with fail
  refine (flatNilTexts _).mono ?_
  rintro e w5 ⟨rfl, q5⟩
  have r5 := r4.tr q5
  have b5 := hbag.fr r5 (fun h => h)
  clear c4
  have c5 := b5.cell 5
  simp at c5
  clear b5
  go_wp2_with fail
  refine (flatBytes_any _ F0 B c m A N cp f (hs.fr r5 (fun _ _ h => h)) (hr.nw r5) hfar h0 hm HN.out).mono ?_
  rintro e w6 ⟨rfl, f6⟩
  have r6 := (Nw.on r5).tr f6
  have b6 := hbag.fr r6 hg
  clear c5
  have c6 := b6.cell 6
  simp at c6
  clear b6
  go_wp2_with fail
  refine (flatNilTruths _).mono ?_
  rintro e w7 ⟨rfl, q7⟩
  have r7 := r6.tr (Nw.on q7)
  have b7 := hbag.fr r7 hg
  clear c6
  have c7 := b7.cell 7
  simp at c7
  clear b7
  go_wp2_with fail
  refine (flatNilSpans _).mono ?_
  rintro e w8 ⟨rfl, q8⟩
  have r8 := r7.tr (Nw.on q8)
  have b8 := hbag.fr r8 hg
  clear c7
  have c8 := b8.cell 8
  simp at c8
  clear b8
  go_wp2_with fail
  refine (flatNilShareRows _).mono ?_
  rintro e w9 ⟨rfl, q9⟩
  have r9 := r8.tr (Nw.on q9)
  have b9 := hbag.fr r9 hg
  clear c8
  have c9 := b9.cell 9
  simp at c9
  clear b9
  go_wp2_with fail
  refine (flatNilSharesRows _).mono ?_
  rintro e w10 ⟨rfl, q10⟩
  have r10 := r9.tr (Nw.on q10)
  have b10 := hbag.fr r10 hg
  clear c9
  have c10 := b10.cell 10
  simp at c10
  clear b10
  go_wp2_with fail
  refine (flatNilNames _).mono ?_
  rintro e w11 ⟨rfl, q11⟩
  have r11 := r10.tr (Nw.on q11)
  have b11 := hbag.fr r11 hg
  clear c10
  have c11 := b11.cell 11
  simp at c11
  clear b11
  go_wp2_with fail
  refine (flatNilActs _).mono ?_
  rintro e w12 ⟨rfl, q12⟩
  have r12 := r11.tr (Nw.on q12)
  have b12 := hbag.fr r12 hg
  clear c11
  have c12 := b12.cell 12
  simp at c12
  clear b12
  go_wp2_with fail
  refine (flatNilReads _).mono ?_
  rintro e w13 ⟨rfl, q13⟩
  have r13 := r12.tr (Nw.on q13)
  have b13 := hbag.fr r13 hg
  clear c12
  have c13 := b13.cell 13
  simp at c13
  clear b13
  go_wp2_with fail
  refine (flatNilLines _).mono ?_
  rintro e w14 ⟨rfl, q14⟩
  have r14 := r13.tr (Nw.on q14)
  have b14 := hbag.fr r14 hg
  clear c13
  have c14 := b14.cell 14
  simp at c14
  clear b14
  go_wp2_with fail
  refine (flatNilHolds _).mono ?_
  rintro e w15 ⟨rfl, q15⟩
  have r15 := r14.tr (Nw.on q15)
  have b15 := hbag.fr r15 hg
  clear c14
  have c15 := b15.cell 15
  simp at c15
  clear b15
  go_wp2_with fail
  refine (flatNilConfigs _).mono ?_
  rintro e w16 ⟨rfl, q16⟩
  have r16 := r15.tr (Nw.on q16)
  have b16 := hbag.fr r16 hg
  clear c15
  have c16 := b16.cell 16
  simp at c16
  clear b16
  go_wp2_with fail
  refine (flatNilEntries _).mono ?_
  rintro e w17 ⟨rfl, q17⟩
  have r17 := r16.tr (Nw.on q17)
  have b17 := hbag.fr r17 hg
  clear c16
  have c17 := b17.cell 17
  simp at c17
  clear b17
  go_wp2_with fail
  refine (flatNilBases _).mono ?_
  rintro e w18 ⟨rfl, q18⟩
  have r18 := r17.tr (Nw.on q18)
  have b18 := hbag.fr r18 hg
  clear c17
  have c18 := b18.cell 18
  simp at c18
  clear b18
  go_wp2_with fail
  refine (flatNilImages _).mono ?_
  rintro e w19 ⟨rfl, q19⟩
  have r19 := r18.tr (Nw.on q19)
  have b19 := hbag.fr r19 hg
  clear c18
  have c19 := b19.cell 19
  simp at c19
  clear b19
  go_wp2_with fail
  refine (flatNilLetters _).mono ?_
  rintro e w20 ⟨rfl, q20⟩
  have r20 := r19.tr (Nw.on q20)
  have b20 := hbag.fr r20 hg
  clear c19
  have c20 := b20.cell 20
  simp at c20
  clear b20
  go_wp2_with fail
  refine (flatNilStretches _).mono ?_
  rintro e w21 ⟨rfl, q21⟩
  have r21 := r20.tr (Nw.on q21)
  have b21 := hbag.fr r21 hg
  clear c20
  have c21 := b21.cell 21
  simp at c21
  clear b21
  go_wp2_with fail
  refine (flatNilPeers _).mono ?_
  rintro e w22 ⟨rfl, q22⟩
  have r22 := r21.tr (Nw.on q22)
  have b22 := hbag.fr r22 hg
  clear c21
  go_wp2_with fail
  go_ret
  exact ⟨rfl, r22⟩

theorem putBytes_any (w w0 : World) (g : Nat) (B : Option Addr) (c m : Nat) (cells : List Value) (X : Option Addr) (n cx : Nat) (hbag : IsBag w g (.slice B m c)) (ho : Own w 22 1 B m c cells) (hq : Nw w0 w) (hg : w0.heap.size ≤ g) (hB : ∀ k, inA B k → w0.heap.size ≤ k) (hm : m ≤ 1000000000) :
    Calls Tryz.prog 84 #[.pointer (some ⟨g, 0, none⟩), .slice X n cx] w fun e w' => ∃ B' c', e = .returned (.tuple #[]) ∧ IsBag w' g (.slice B' (m + 1) c') ∧ Own w' 22 1 B' (m + 1) c' (cells ++ [.slice X n cx]) ∧ Nw w0 w' ∧ ∀ k, inA B' k → w0.heap.size ≤ k := by
  unfold IsBag at hbag ⊢
  have c5 := hbag.cell 5
  simp [bagCells] at c5
  have hone : ∀ u ∈ [Value.slice X n cx], u.oneCell' = true := by simp [Value.oneCell']
  have HB := Lib.hid hbag
  clear hbag
  go_enter Tryz.func84, Tryz.ntmps84
  go_wp2_with (at_builtin; refine wl_append2 rfl _ _ _ rfl 24 (.slice none 0 0) Tryz.underlying71 info_bytes rfl (by decide) rfl (ho.alloc _) rfl (sl_new w 22 [.slice X n cx] _ rfl) rfl hone (by omega) (by unfold maxLen; omega) ?_; intro B' c' w1 hap; obtain ⟨ho1, q1, n1⟩ := hap.newOwn (hq.alloc _) hB; have hb1 := (HB.out.alloc (.cells #[.slice X n cx] 22)).fr hap.fr (fun h => (ho.alloc (.cells #[.slice X n cx] 22)).ne_ (HB.out.alloc _) (by decide) h); have c51 := hb1.cell 5; have f51 := hb1.frozen 5; simp [bagCells] at c51; have HB1 := Lib.hid hb1; clear hb1)
  go_end0
  refine ⟨B', c', rfl, ?_, ?_, q1.setCell (p := ⟨g, 5, none⟩) (.inr hg) _, n1⟩
  · have := HB1.out.set_ 5 (.slice B' (m + 1) c')
    simpa [bagCells] using this
  · exact ho1.setCell (p := ⟨g, 5, none⟩) (fun h => ho1.ne_ HB1.out (by decide) h) _

theorem hdrs_succ (m : Nat) (A : Nat → Option Addr) (N cp : Nat → Nat) (k : Nat) (h : k < m) : (hdrs m A N cp).take (k + 1) = (hdrs m A N cp).take k ++ [.slice (A k) (N k) (cp k)] := by
  rw [List.take_succ_eq_append_getElem (by rw [hdrs_len]; exact h)]
  simp [hdrs]

def ApBag (w : World) (m : Nat) (A : Nat → Option Addr) (N cp : Nat → Nat) (g : Nat) (i : Value) (wr : World) : Prop :=
  ∃ (k : Nat) (B : Option Addr) (c : Nat), k ≤ m ∧ i = .int .i64 k ∧ IsBag wr g (.slice B k c) ∧ Own wr 22 1 B k c ((hdrs m A N cp).take k) ∧ Nw w wr ∧ ∀ k, inA B k → w.heap.size ≤ k

set_option maxRecDepth 100000 in
theorem apartBytes_any (w : World) (F0 : Nat → Prop) (B : Option Addr) (c : Nat) (m : Nat) (A : Nat → Option Addr) (N cp : Nat → Nat) (f : Nat → List UInt8) (hs : Sl w F0 B (hdrs m A N cp)) (hr : RowsAt w m A N cp f) (hfar : FarR m A)
    (hm : m ≤ 1000000000) (hN : ∀ k, k < m → N k ≤ 1000000000000) :
    Calls Tryz.prog 32 #[.slice B m c] w fun e w' => e = .returned (.bool true) ∧ Fr (InR m A) w w' := by
  have HN := Lib.hid hN
  clear hN
  go_enter Tryz.func32, Tryz.ntmps32
  go_wp2_with fail
  obtain ⟨g, hg⟩ : ∃ g, w.heap.size = g := ⟨_, rfl⟩
  have hb0 : IsBag (w.alloc (.cells (bagCells (.slice none 0 0)) 152)) g (.slice none 0 0) := by rw [← hg]; exact Blk.new _ _ _
  have q0 : Nw w (w.alloc (.cells (bagCells (.slice none 0 0)) 152)) := (Fr.refl _ w).alloc _
  have hg2 : w.heap.size ≤ g := Nat.le_of_eq hg
  rw [hg]
  clear hg
  go_loopw [4] (fun i wr => ApBag w m A N cp g i wr) (fun i _ => m - (intOf i).toNat)
  case atStart => exact ⟨0, none, 0, Nat.zero_le _, rfl, hb0, Own.nil _ _ _, q0, fun k hk => (inA_none k hk).elim⟩
  case round =>
    obtain ⟨k, B2, c2, hk, rfl, hb, ho, hq, hB⟩ := hrel
    by_cases hlt : k < m
    · obtain ⟨b, o, rfl, hF, hc⟩ := (hs.fr hq (fun _ _ h => h)).hdr hlt
      go_wp2_with (go_at_call 84; refine (putBytes_any _ w g B2 c2 k _ (A k) (N k) (cp k) hb ho hq hg2 hB (by omega)).mono ?_; rintro e w1 ⟨B', c', rfl, hb1, ho1, q1, n1⟩)
      go_roundw
      case rel => exact ⟨k + 1, B', c', by omega, by go_num, hb1, by rw [hdrs_succ _ _ _ _ _ hlt]; exact ho1, q1, n1⟩
      case measure => simp [intOf]; omega
    · obtain rfl : m = k := by omega
      rw [List.take_of_length_le (by rw [hdrs_len]; omega)] at ho
      have hr2 := hr.nw hq
      go_wp2_with (go_at_call 85; refine (bagApart_bytes _ g _ B2 c2 m A N cp f hb ho.sl hr2 hfar (fun b h1 h2 => by have := hB b h1; have := hr.inlt h2; omega) (fun h => by have := hr.inlt h; omega) hm HN.out).mono ?_; rintro e w1 ⟨rfl, f1⟩)
      go_ret
      exact ⟨rfl, (Nw.on hq).tr f1⟩
end Go.Proofs.YtkjnlhidnkbelaaGreatDoor
