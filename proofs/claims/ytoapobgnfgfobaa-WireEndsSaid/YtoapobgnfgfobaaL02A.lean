/- Chapter 2's statements: the anchor. -/
import Derived.Test.YtoapobgnfgfobaaKitA
import Derived.Test.YtoapobgnfgfobaaOpen
namespace Go.Proofs.Ytoapobgnfgfobaa
open Go Go.RowKit

theorem ret_true (b : Bool) (h : b = true) : Ending.returned (.bool b) = .returned (.bool true) := by rw [h]

set_option maxRecDepth 100000 in
theorem awake02 (w : World) : Calls Try.prog 30 #[] w fun e w' => e = .returned (.bool true) ∧ Fr (fun _ => False) w w' := by
  go_enter Try.func30, Try.ntmps30
  go_wp2_with fail
  refine (newWriter_any _).mono ?_
  rintro e w1 ⟨rfl, i1, f1⟩
  go_wp2_with fail
  refine (numbers_any _ _ (· = w1.heap.size) _ _ (i1.alloc _) _ _ [300] ((Blk.new _ _ _).sl 0 1) (i1.apartNew _) (by decide) (by decide)).mono ?_
  rintro e w2 ⟨rfl, h2⟩
  obtain ⟨F2, i2, f2, n2⟩ := h2.alloc
  have q2 : Nw w w2 := f1.new f2 (fun b hb => by rw [hb]; exact Nat.le_refl _)
  have g2 : ∀ k, F2 k → w.heap.size ≤ k := fun k hk => (n2 k hk).elim (fun h => by rw [h]; exact Nat.le_refl _) (fun h => Nat.le_trans f1.size h)
  go_wp2_with fail
  refine (texts_any _ _ (· = w2.heap.size) _ _ (i2.alloc _) _ _ [⟨#[97, 98]⟩] ((Blk.new _ _ _).sl 0 1) (i2.apartNew _) (by decide)).mono ?_
  rintro e w3 ⟨rfl, h3⟩
  obtain ⟨F3, i3, f3, n3⟩ := h3.alloc
  have q3 : Nw w w3 := q2.new f3 g2
  go_wp2_with fail
  have hbs : (wrRows (List.map (fun x : ByteArray => x.data.toList) [(⟨#[97, 98]⟩ : ByteArray)]) (wrNums [300] ⟨true, []⟩)).bs = [172, 2, 2, 97, 98] := by decide
  have hdone := done_ok _ _ _ _ i3 (by decide) (by decide)
  rw [hbs] at hdone
  clear hbs
  refine hdone.mono ?_
  rintro e w4 ⟨A4, c4, rfl, o4, f4, n4⟩
  have q4 : Nw w w4 := q3.tr f4
  go_wp2_with fail
  refine (newReader_any _ _ _ _ [128, 0] ((Blk.new w4 5 #[.int .u8 128, .int .u8 0]).sl 0 2) (by decide)).mono ?_
  rintro e w5 ⟨g5, F5, rfl, i5, f5, l5, n5⟩
  have q5 : Nw w w5 := (q4.alloc _).tr f5
  have o5 := (o4.alloc (.cells #[.int .u8 128, .int .u8 0] 5)).fr f5 (fun _ _ h => h)
  go_wp2_with fail
  refine (rdnumber_any _ _ _ _ i5 9).mono ?_
  rintro e w6 ⟨rfl, h6⟩
  have q6 : Nw w w6 := q5.new h6.2 (fun b hb => by rw [hb]; have := q4.size; simp at l5; omega)
  have o6 := o5.fr h6.2 (fun k hk e => by subst e; have := o4.lt _ hk; simp at l5; omega)
  have hn : rdNum 9 (some [128, 0]) = (0, none) := by decide
  rw [hn] at h6 ⊢
  clear hn
  go_wp2_with fail
  refine (same_u8 _ (inA A4) (· = w6.heap.size) A4 (some ⟨w6.heap.size, 0, none⟩) _ 5 [172, 2, 2, 97, 98] [172, 2, 2, 97, 98] (o6.sl.alloc _) ((Blk.new w6 5 #[.int .u8 172, .int .u8 2, .int .u8 2, .int .u8 97, .int .u8 98]).sl 0 5) (by decide)).mono ?_
  rintro e w7 ⟨rfl, n7, rfl⟩
  have i7 : IsRd ((w6.alloc (.cells #[.int .u8 172, .int .u8 2, .int .u8 2, .int .u8 97, .int .u8 98] 5)).drewN n7) F5 g5 none := h6.1.fr (S := fun _ => False) ((Nw.on ((Fr.refl _ w6).alloc _)).drewN _) (fun h => h) (fun _ _ h => h)
  go_wp2_with (go_at_call 34; refine (rdend_any _ _ _ _ i7).mono ?_; rintro e w' ⟨rfl, rfl⟩)
  go_ret
  exact ⟨ret_true _ (by decide), (q6.alloc _).drewN _⟩
end Go.Proofs.Ytoapobgnfgfobaa
