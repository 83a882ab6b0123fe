/- The laws of letters: the chapter's example. (Printed by genla.py.) -/
import Derived.Test.YtippdjaakcgeoaaJwD
import Derived.Test.YtippdjaakcgeoaaLgA
import Derived.Test.YtippdjaakcgeoaaBld
import Derived.Test.YtippdjaakcgeoaaKitA
namespace Go.Proofs.Ytippdjaakcgeoaa
open Go Go.RowKit
set_option linter.unusedVariables false
set_option linter.unusedSimpArgs false
def voteM : LetM := ⟨2, 1, 2, 3, 4, 0, 0, 0, true, lsZ, basMZ, 0, 0, 0, lsZ⟩
theorem LetIn.vote (w : World) (F : Nat → Prop) : LetIn w F voteM := ⟨⟨by decide, by decide⟩, LsIn.nil w F entsC rfl, (by intro e he; cases he), CfgIn.zero w F, LsIn.nil w F bytesC rfl⟩
theorem LetSz.vote : LetSz voteM := ⟨by decide, (by intro e he; cases he), CfgSz.zero, by decide⟩
theorem vote_ok : letOk voteM.x = true := by decide
theorem vote_put : letsPut [voteM.x] = some [1, 2, 1, 2, 3, 4, 0, 0, 0, 1, 0, 0, 0, 0, 0, 0, 0, 0, 0, 0, 0] := by decide
theorem zero_ok : letOk letMZ.x = false := by decide
set_option maxRecDepth 100000 in
set_option maxHeartbeats 4000000 in
theorem vote_any (w : World) : Calls Try.prog 40 #[] w fun e w' => e = .returned (.agg (letA voteM)) ∧ Nw w w' := by
  obtain ⟨Y, hY⟩ : ∃ Y, Y = w.heap.size := ⟨_, rfl⟩
  obtain ⟨W0, hW0⟩ : ∃ W, W = w.alloc (.cells #[U8V 0, I64 0, I64 0, I64 0, I64 0, I64 0, I64 0, I64 0, .bool false, .slice none 0 0, I64 0, I64 0, .slice none 0 0, .slice none 0 0, .slice none 0 0, .slice none 0 0, I64 0, I64 0, I64 0, .slice none 0 0] 40) := ⟨_, rfl⟩
  have p0 : Nw w W0 := by rw [hW0]; exact (Fr.refl (fun _ => False) _).alloc _
  have y0 : Blk W0 Y 40 #[U8V 0, I64 0, I64 0, I64 0, I64 0, I64 0, I64 0, I64 0, .bool false, .slice none 0 0, I64 0, I64 0, .slice none 0 0, .slice none 0 0, .slice none 0 0, .slice none 0 0, I64 0, I64 0, I64 0, .slice none 0 0] := by rw [hW0, hY]; exact Blk.new _ _ _
  have th := Blk.there (l := [U8V 0, I64 0, I64 0, I64 0, I64 0, I64 0, I64 0, I64 0, .bool false, .slice none 0 0, I64 0, I64 0, .slice none 0 0, .slice none 0 0, .slice none 0 0, .slice none 0 0, I64 0, I64 0, I64 0, .slice none 0 0]) y0 0 20 (by show 0 + 20 ≤ 20; omega)
  have one := letA_one voteM
  obtain ⟨W1, hW1⟩ : ∃ W, W = W0.setCells Y 0 [U8V 2, I64 1, I64 2, I64 3, I64 4, I64 0, I64 0, I64 0, .bool true, .slice none 0 0, I64 0, I64 0, .slice none 0 0, .slice none 0 0, .slice none 0 0, .slice none 0 0, I64 0, I64 0, I64 0, .slice none 0 0] := ⟨_, rfl⟩
  have y1 : Blk W1 Y 40 #[U8V 2, I64 1, I64 2, I64 3, I64 4, I64 0, I64 0, I64 0, .bool true, .slice none 0 0, I64 0, I64 0, .slice none 0 0, .slice none 0 0, .slice none 0 0, .slice none 0 0, I64 0, I64 0, I64 0, .slice none 0 0] := by rw [hW1]; exact Blk.setCells (l := [U8V 0, I64 0, I64 0, I64 0, I64 0, I64 0, I64 0, I64 0, .bool false, .slice none 0 0, I64 0, I64 0, .slice none 0 0, .slice none 0 0, .slice none 0 0, .slice none 0 0, I64 0, I64 0, I64 0, .slice none 0 0]) y0 0 [U8V 2, I64 1, I64 2, I64 3, I64 4, I64 0, I64 0, I64 0, .bool true, .slice none 0 0, I64 0, I64 0, .slice none 0 0, .slice none 0 0, .slice none 0 0, .slice none 0 0, I64 0, I64 0, I64 0, .slice none 0 0]
  have m1 : Fr (· = Y) W0 W1 := by rw [hW1]; exact (Fr.refl (· = Y) _).setCells _ _
  have Q1 : Nw w W1 := p0.new m1 (fun b hb => by omega)
  have HY := Lib.hid hY
  have HW0 := Lib.hid hW0
  have HW1 := Lib.hid hW1
  clear hY hW0 hW1 p0 y0 m1
  go_enter Try.func40, Try.ntmps40
  go_upto_region 1 with (fail)
  rw [← HY.out, ← HW0.out]
  go_wp2_with (refine wpList_store_mid rfl 40 _ _ rfl Y 0 #[U8V 2, I64 1, I64 2, I64 3, I64 4, I64 0, I64 0, I64 0, .bool true, .slice none 0 0, I64 0, I64 0, .slice none 0 0, .slice none 0 0, .slice none 0 0, .slice none 0 0, I64 0, I64 0, I64 0, .slice none 0 0] rfl rfl th (by kernel_rfl) one ?_; rw [← HW1.out])
  refine bodyPost_ret (v := .agg #[U8V 2, I64 1, I64 2, I64 3, I64 4, I64 0, I64 0, I64 0, .bool true, .slice none 0 0, I64 0, I64 0, .slice none 0 0, .slice none 0 0, .slice none 0 0, .slice none 0 0, I64 0, I64 0, I64 0, .slice none 0 0]) ?_ rfl ?_
  · exact results_cell_row rfl _ _ Y 40 _ (0, 0) _ rfl y1 Try.underlying40 rfl (by kernel_rfl)
  exact ⟨rfl, Q1⟩
theorem one_sl (w : World) (x : LetM) : Sl (w.alloc (.cells (letA x) 40)) (· = w.heap.size) (some ⟨w.heap.size, 0, none⟩) (letsC [x]) := by
  have h := (Blk.new w 40 (letA x)).sl 0 20
  rw [List.drop_zero, List.take_of_length_le (by simp)] at h
  exact h
theorem one_nw (w : World) (t : TypeId) (cs : Array Value) : Nw w (w.alloc (.cells cs t)) := (Fr.refl (fun _ => False) w).alloc _
theorem bytes_lit {w : World} {g : Nat} (cs : Array Value) (bs : List UInt8) (hb : Blk w g 5 cs) (h : cs.toList = bs.map B8) : Sl w (· = g) (some ⟨g, 0, none⟩) (bs.map B8) := by
  have h1 := hb.sl 0 cs.size
  rw [List.drop_zero, List.take_of_length_le (by simp), h] at h1
  exact h1
set_option maxRecDepth 100000 in
set_option maxHeartbeats 8000000 in
theorem awake_any (w : World) : Calls Try.prog 21 #[] w fun e w' => e = .returned (.bool true) ∧ Nw w w' := by
  have cV : ∀ w1, _ := fun w1 => vote_any w1
  have cP : ∀ w1 (g : Nat), Sl w1 (· = g) (some ⟨g, 0, none⟩) (letsC [voteM]) → Calls Try.prog 25 #[.slice (some ⟨g, 0, none⟩) 1 1] w1 fun e w' => ∃ A c, e = .returned (.tuple #[.slice A 21 c, .int .i64 0]) ∧ Own w' 5 1 A 21 c (([1, 2, 1, 2, 3, 4, 0, 0, 0, 1, 0, 0, 0, 0, 0, 0, 0, 0, 0, 0, 0] : List UInt8).map B8) ∧ Nw w1 w' := fun w1 g h =>
    (lPut_any w1 (· = g) (some ⟨g, 0, none⟩) 1 [voteM] h (fun x hx => by rw [List.mem_singleton.1 hx]; exact LetIn.vote _ _) (fun x hx => by rw [List.mem_singleton.1 hx]; exact LetSz.vote) (by decide)).mono fun e w' hp => by
      have e1 : letsPut ([voteM].map LetM.x) = some [1, 2, 1, 2, 3, 4, 0, 0, 0, 1, 0, 0, 0, 0, 0, 0, 0, 0, 0, 0, 0] := vote_put
      rw [e1] at hp
      obtain ⟨A, c, h1, h2, h3, _⟩ := hp
      exact ⟨A, c, h1, h2, h3⟩
  have cR : ∀ w1 (g : Nat) (x : LetM), (x = voteM ∨ x = letMZ) → Sl w1 (· = g) (some ⟨g, 0, none⟩) (letsC [x]) → Calls Try.prog 24 #[.slice (some ⟨g, 0, none⟩) 1 1] w1 fun e w' => e = .returned (.bool (letOk x.x)) ∧ Nw w1 w' := fun w1 g x hx h =>
    (lRight_any w1 (· = g) (some ⟨g, 0, none⟩) 1 [x] h (fun y hy => by rw [List.mem_singleton.1 hy]; rcases hx with rfl | rfl; exact LetIn.vote _ _; exact LetIn.zero _ _) (fun y hy => by rw [List.mem_singleton.1 hy]; rcases hx with rfl | rfl; exact LetSz.vote; exact LetSz.zero) (by simp)).mono fun e w' h => ⟨by rw [h.1]; simp [letsOk], h.2⟩
  have cN : ∀ w1, Calls Try.prog 24 #[.slice none 0 0] w1 fun e w' => e = .returned (.bool true) ∧ Nw w1 w' := fun w1 =>
    lRight_any w1 (fun _ => False) none 0 [] (Sl.nil _ _ _) (by intro x hx; cases hx) (by intro x hx; cases hx) (by decide)
  have HV := Lib.hid cV
  have HP := Lib.hid cP
  have HR := Lib.hid cR
  have HN := Lib.hid cN
  clear cV cP cR cN
  go_enter Try.func21, Try.ntmps21
  go_upto_region 2 with (first | (go_at_call 40; refine (HV.out _).mono ?_; rintro e w1 ⟨rfl, q1⟩) | (go_at_call 25; refine (HP.out _ _ (one_sl w1 voteM)).mono ?_; rintro e w3 ⟨A3, c3, rfl, o3, q3⟩))
  have Q3 := (q1.tr (one_nw w1 40 (letA voteM))).tr q3
  have o3a := o3.alloc (.cells #[.int .u8 1, .int .u8 2, .int .u8 1, .int .u8 2, .int .u8 3, .int .u8 4, .int .u8 0, .int .u8 0, .int .u8 0, .int .u8 1, .int .u8 0, .int .u8 0, .int .u8 0, .int .u8 0, .int .u8 0, .int .u8 0, .int .u8 0, .int .u8 0, .int .u8 0, .int .u8 0, .int .u8 0] 5)
  go_wp2_with fail
  refine (same_u8 _ (inA A3) (· = w3.heap.size) A3 (some ⟨w3.heap.size, 0, none⟩) c3 21 [1, 2, 1, 2, 3, 4, 0, 0, 0, 1, 0, 0, 0, 0, 0, 0, 0, 0, 0, 0, 0] [1, 2, 1, 2, 3, 4, 0, 0, 0, 1, 0, 0, 0, 0, 0, 0, 0, 0, 0, 0, 0] o3a.sl (bytes_lit _ _ (Blk.new w3 5 _) rfl) (by decide)).mono ?_
  rintro e w4 ⟨he, hq4⟩
  have he2 : e = .returned (.bool true) := by rw [he]; simp
  subst he2
  clear he
  have Q4 := (Q3.tr (one_nw w3 5 _)).tr (hq4.fr (fun _ => False))
  clear o3a o3 hq4
  go_wp2_with fail
  refine (HV.out _).mono ?_
  rintro e w5 ⟨rfl, q5⟩
  go_wp2_with fail
  refine (HR.out _ _ voteM (.inl rfl) (one_sl w5 voteM)).mono ?_
  rw [vote_ok]
  rintro e w6 ⟨rfl, q6⟩
  have Q6 := (Q4.tr q5).tr ((one_nw w5 40 (letA voteM)).tr q6)
  go_wp2_with fail
  refine (HN.out _).mono ?_
  rintro e w7 ⟨rfl, q7⟩
  go_wp2_with fail
  refine (HR.out _ _ letMZ (.inr rfl) (one_sl w7 letMZ)).mono ?_
  rw [zero_ok]
  rintro e w8 ⟨rfl, q8⟩
  go_wp2_with fail
  go_ret
  exact ⟨rfl, (Q6.tr q7).tr ((one_nw w7 40 (letA letMZ)).tr q8)⟩
end Go.Proofs.Ytippdjaakcgeoaa
