/- Lemmas of the walks: LeDw, LeBw. (Laid together by shake.py.) -/
import Derived.Test.YtippdjaakcgeoaaGreatEa33
set_option linter.unusedVariables false
set_option linter.unusedSimpArgs false
set_option maxRecDepth 100000
set_option maxHeartbeats 16000000
namespace Go.Proofs.YtippdjaakcgeoaaGreat
open Go Go.RowKit
noncomputable def zkC : Code := zcZ [true, true, true, true, true, true, false] (Tryz.f7.body.getD .skip)
noncomputable def zks : Code := zcZ [true, true, true, true, true, true, true] (Tryz.f7.body.getD .skip)
theorem zlR (W wr : World) (X : Nat) (bX : Blk wr X 87 (entA e0M)) (hq2 : Nw W wr) {c0 c1 c2 c3 c4 c5 c7 c8 c9 c10 c11 c12 c13 c14 c15 c16 c17 c18 c19 c20 c21 c22 c23 c24 c25 c26 c27 c28 c29 c30 c31 c32 c33 c34 c35 c36 c37 c38 c39 c40 c41 c42 c43 c44 c45 c46 c47 c48 c49 c50 c51 c52 c53 c54 c55 c56 c57 c58 c59 c60 c61 c62 c63 c64 c65 c66 c67 c68 c69 c70 c71 c72 c73 c74 c75 c76 c77 c78 c79 c80 c81 c82 c83 c84 c85 c86 c87 c88 c89 c90 c91 c92 c93 c94 c95 c96 c97 c98 c99 c100 c101 c102 c103 c104 c105 c106 c107 c108 c109 c110 c111 c112 c113 c114 c115 c116 c117 c118 c119 c120 c121 c122 c123 c124 c125 c126 c127 c128 c129 c130 c131 c132 c133 c134 c135 c136 c137 c138 c139 c140 c141 c142 c143 c144 c145 c146 c147 c148 c149 c150 c151 c152 c153 c154 c155 c156 c157 c158 c159 c160 c161 c162 c163 c164 c165 c166 c167 c168 c169 c170 c171 c172 c173 c174 c175 c176 c177 c178 c179 c180 : Value} (Q : Exit → Act → World → Prop) (hQ : Q = (bodyPost Tryz.prog Tryz.f7 fun e w' => e = .returned (.bool true) ∧ Nw W w')) (K : Act → World → Prop) (hK : ∀ a w, Code.wp Tryz.prog zks Q a w → K a w) :
  Code.wp Tryz.prog zkC (Exit.then K Q) ⟨#[c0, c1, c2, c3, c4, c5, Value.pointer (some ⟨X, 0, none⟩), c7, c8, c9, c10, c11, c12, c13, c14, c15, c16, c17, c18, c19, c20, c21, c22, c23, c24, c25, c26, c27, c28, c29, c30, c31, c32, c33, c34, c35, c36, c37, c38, c39, c40, c41, c42, c43, c44, c45, c46, c47, c48, c49, c50, c51, c52, c53, c54, c55, c56, c57, c58, c59, c60, c61, c62, c63, c64, c65, c66, c67, c68, c69, c70, c71, c72, c73, c74, c75, c76, c77, c78, c79, c80, c81, c82, c83, c84, c85, c86, c87, c88, c89, c90, c91, c92, c93, c94, c95, c96, c97, c98, c99, c100, c101, c102, c103, c104, c105, c106, c107, c108, c109, c110, c111, c112, c113, c114, c115, c116, c117, c118, c119, c120, c121, c122, c123, c124, c125, c126, c127, c128, c129, c130, c131, c132, c133, c134, c135, c136, c137, c138, c139, c140, c141, c142, c143, c144, c145, c146, c147, c148, c149, c150, c151, c152, c153, c154, c155, c156, c157, c158, c159, c160, c161, c162, c163, c164, c165, c166, c167, c168, c169, c170, c171, c172, c173, c174, c175, c176, c177, c178, c179, c180], []⟩ wr := by
 conv => arg 2; whnf
 conv at hK => enter [a, w]; lhs; arg 2; whnf
 have HQ := Lib.hid hQ
 clear hQ
 go_wp2_with fail
 refine (zca _).mono ?_
 rintro e w3 ⟨rfl, q3⟩
 have Q3 : Nw W w3 := hq2.tr q3
 have bX3 := bX.fr q3 (fun h => h)
 clear bX
 obtain ⟨G, hG⟩ : ∃ G, G = w3.heap.size := ⟨_, rfl⟩
 obtain ⟨V0, hV0⟩ : ∃ V, V = w3.alloc (.cells zL9A 50) := ⟨_, rfl⟩
 have qv0 : Nw w3 V0 := by rw [hV0]; exact (Fr.refl (fun _ => False) _).alloc _
 have g0 : Blk V0 G 50 (letA zaP) := by rw [hV0, hG]; exact Blk.new _ _ _
 have hth := Blk.there (l := letL zaP) g0 0 20 (by show 0 + 20 ≤ 20; omega)
 obtain ⟨V1, hV1⟩ : ∃ V, V = V0.setCells G 0 (letL zag) := ⟨_, rfl⟩
 have m1 : Fr (· = G) V0 V1 := by rw [hV1]; exact (Fr.refl (· = G) _).setCells _ _
 have q4 : Nw w3 V1 := qv0.new m1 (fun b hb => by omega)
 have bG : Blk V1 G 50 (letA zag) := by
  have h := Blk.setCells (l := letL zaP) g0 0 (letL zag)
  rw [← hV1] at h
  exact h
 have hGle : w3.heap.size ≤ G := Nat.le_of_eq hG.symm
 have HG := Lib.hid hG
 have HV0 := Lib.hid hV0
 have HV1 := Lib.hid hV1
 clear hG hV0 hV1 qv0 g0 m1
 go_upto_region 28 with (rw [← HG.out, ← HV0.out]; refine wpList_store_mid rfl 50 _ _ rfl G 0 (letA zag) rfl rfl hth (by kernel_rfl) (zbc zag) ?_; rw [← HV1.out])
 clear hth HG HV0 HV1
 obtain ⟨n1, hn1⟩ : ∃ n : Nat, n = 131072 := ⟨_, rfl⟩
 have Hn1 := Lib.hid hn1
 clear hn1
 obtain ⟨R1, hR⟩ : ∃ R, R = V1.heap.size := ⟨_, rfl⟩
 have hRG : R1 ≠ G := by have := bG.lt; omega
 have hRle : w3.heap.size ≤ R1 := by have := q4.size; omega
 have HR := Lib.hid hR
 clear hR
 go_upto_region 29 with (at_make; refine ze6 rfl _ _ _ rfl 1 (.int .u8 0) Tryz.underlying48 zaL rfl .i64 .i64 131072 131072 n1 rfl rfl (by have := Hn1.out; omega) (by have := Hn1.out; omega) (by have := Hn1.out; omega) (by have := Hn1.out; unfold maxLen; omega) ?_; intro w4 ho2 q2; rw [← HR.out] at ho2 ⊢; have b2 := bG.fr q2 (fun h => h); have c19 : w4.cell? ⟨G, 19, none⟩ = some (.slice none 0 0) := (by rw [b2.cell]; rfl); have f19 := b2.frozen 19)
 obtain ⟨V2, hV2⟩ : ∃ V, V = w4.setCell ⟨G, 19, none⟩ (.slice (some ⟨R1, 0, none⟩) n1 n1) := ⟨_, rfl⟩
 have m2 : Fr (· = G) w4 V2 := by rw [hV2]; exact (Fr.refl (· = G) _).set1 _ _
 have bGb : Blk V2 G 50 (letA (zb3 R1 n1)) := by
  have h := b2.set_ 19 (.slice (some ⟨R1, 0, none⟩) n1 n1)
  rw [← hV2] at h
  have e : letA (zb3 R1 n1) = (letA zag).setIfInBounds 19 (.slice (some ⟨R1, 0, none⟩) n1 n1) := by
   have h9 : (List.replicate n1 (0 : UInt8)).length = n1 := List.length_replicate
   unfold zb3
   simp only [letA, Ls.v, h9]
   rfl
  rw [e]
  exact h
 have sn1 : Sl V2 (· = R1) (some ⟨R1, 0, none⟩) ((List.replicate n1 (0 : UInt8)).map B8) := by
  have h := (ho2.fr m2 (fun j hj e => by rw [(za9 _ _).1 hj] at e; exact hRG e)).sl
  rw [List.map_replicate]
  exact h.mono fun j hj _ => (za9 _ _).1 hj
 have pn1 : Nw w3 V2 := (q4.tr q2).new m2 (fun j hj => by omega)
 have HV2 := Lib.hid hV2
 clear hV2 m2 b2 c19 f19 ho2 q2 hRG hRle bG
 rw [← HV2.out]
 clear HV2 HR
 have bX4 := bX3.fr pn1 (fun h => h)
 have Q4 : Nw W V2 := Q3.tr pn1
 clear bX3 Q3 q4
 go_wp2_with fail
 refine (zca _).mono ?_
 rintro e w5 ⟨rfl, q5⟩
 have bGc := bGb.fr q5 (fun h => h)
 have sn1c := sn1.fr q5 (fun _ _ h => h)
 have bX5 := bX4.fr q5 (fun h => h)
 have Q5 : Nw W w5 := Q4.tr q5
 clear bGb sn1 bX4 Q4 q5
 obtain ⟨H, hG⟩ : ∃ G, G = w5.heap.size := ⟨_, rfl⟩
 obtain ⟨V3, hV0⟩ : ∃ V, V = w5.alloc (.cells zL9A 50) := ⟨_, rfl⟩
 have qv0 : Nw w5 V3 := by rw [hV0]; exact (Fr.refl (fun _ => False) _).alloc _
 have g0 : Blk V3 H 50 (letA zaP) := by rw [hV0, hG]; exact Blk.new _ _ _
 have hth := Blk.there (l := letL zaP) g0 0 20 (by show 0 + 20 ≤ 20; omega)
 obtain ⟨V4, hV1⟩ : ∃ V, V = V3.setCells H 0 (letL zag) := ⟨_, rfl⟩
 have m1 : Fr (· = H) V3 V4 := by rw [hV1]; exact (Fr.refl (· = H) _).setCells _ _
 have q6 : Nw w5 V4 := qv0.new m1 (fun b hb => by omega)
 have bH : Blk V4 H 50 (letA zag) := by
  have h := Blk.setCells (l := letL zaP) g0 0 (letL zag)
  rw [← hV1] at h
  exact h
 have hGle : w5.heap.size ≤ H := Nat.le_of_eq hG.symm
 have HG := Lib.hid hG
 have HV0 := Lib.hid hV0
 have HV1 := Lib.hid hV1
 clear hG hV0 hV1 qv0 g0 m1
 go_upto_region 30 with (rw [← HG.out, ← HV0.out]; refine wpList_store_mid rfl 50 _ _ rfl H 0 (letA zag) rfl rfl hth (by kernel_rfl) (zbc zag) ?_; rw [← HV1.out])
 clear hth HG HV0 HV1
 obtain ⟨n2, hn2⟩ : ∃ n : Nat, n = 131073 := ⟨_, rfl⟩
 have Hn2 := Lib.hid hn2
 clear hn2
 obtain ⟨R2, hR⟩ : ∃ R, R = V4.heap.size := ⟨_, rfl⟩
 have hRG : R2 ≠ H := by have := bH.lt; omega
 have hRle : w5.heap.size ≤ R2 := by have := q6.size; omega
 have HR := Lib.hid hR
 clear hR
 go_upto_region 31 with (at_make; refine ze6 rfl _ _ _ rfl 1 (.int .u8 0) Tryz.underlying48 zaL rfl .i64 .i64 131073 131073 n2 rfl rfl (by have := Hn2.out; omega) (by have := Hn2.out; omega) (by have := Hn2.out; omega) (by have := Hn2.out; unfold maxLen; omega) ?_; intro w6 ho2 q2; rw [← HR.out] at ho2 ⊢; have b2 := bH.fr q2 (fun h => h); have c19 : w6.cell? ⟨H, 19, none⟩ = some (.slice none 0 0) := (by rw [b2.cell]; rfl); have f19 := b2.frozen 19)
 obtain ⟨V5, hV2⟩ : ∃ V, V = w6.setCell ⟨H, 19, none⟩ (.slice (some ⟨R2, 0, none⟩) n2 n2) := ⟨_, rfl⟩
 have m2 : Fr (· = H) w6 V5 := by rw [hV2]; exact (Fr.refl (· = H) _).set1 _ _
 have bHb : Blk V5 H 50 (letA (zb3 R2 n2)) := by
  have h := b2.set_ 19 (.slice (some ⟨R2, 0, none⟩) n2 n2)
  rw [← hV2] at h
  have e : letA (zb3 R2 n2) = (letA zag).setIfInBounds 19 (.slice (some ⟨R2, 0, none⟩) n2 n2) := by
   have h9 : (List.replicate n2 (0 : UInt8)).length = n2 := List.length_replicate
   unfold zb3
   simp only [letA, Ls.v, h9]
   rfl
  rw [e]
  exact h
 have sn2 : Sl V5 (· = R2) (some ⟨R2, 0, none⟩) ((List.replicate n2 (0 : UInt8)).map B8) := by
  have h := (ho2.fr m2 (fun j hj e => by rw [(za9 _ _).1 hj] at e; exact hRG e)).sl
  rw [List.map_replicate]
  exact h.mono fun j hj _ => (za9 _ _).1 hj
 have pn2 : Nw w5 V5 := (q6.tr q2).new m2 (fun j hj => by omega)
 have HV2 := Lib.hid hV2
 clear hV2 m2 b2 c19 f19 ho2 q2 hRG hRle bH
 rw [← HV2.out]
 clear HV2 HR
 have bX6 := bX5.fr pn2 (fun h => h)
 have bGd := bGc.fr pn2 (fun h => h)
 have sn1d := sn1c.fr pn2 (fun _ _ h => h)
 have Q6 : Nw W V5 := Q5.tr pn2
 have nn1 : n1 ≤ 1000000 := by have := Hn1.out; omega
 have nn2 : n2 ≤ 1000000 := by have := Hn2.out; omega
 have d1 : decide (n1 ≤ 131072) = true := decide_eq_true (by have := Hn1.out; omega)
 have d2 : decide (n2 ≤ 131072) = false := decide_eq_false (by have := Hn2.out; omega)
 clear bX5 bGc sn1c Q5 q6 pn1 pn2
 obtain ⟨x, hx⟩ : ∃ x, x = zb3 R1 n1 := ⟨_, rfl⟩
 obtain ⟨y, hy⟩ : ∃ y, y = zb3 R2 n2 := ⟨_, rfl⟩
 have cR1 : ∀ w g, Nw V5 w → Sl w (· = g) (some ⟨g, 0, none⟩) (zai [x]) → Calls Tryz.prog 35 #[.slice (some ⟨g, 0, none⟩) 1 1] w fun e w' => e = .returned (.bool true) ∧ Nw w w' := fun w g q hs => by
  rw [hx] at hs
  have h := zhr w g R1 n1 hs (zi0 ((sn1d.fr q (fun _ _ h => h)).mono fun _ _ _ => trivial) (by unfold maxLen; omega)) nn1
  rwa [d1] at h
 have cR2 : ∀ w g, Nw V5 w → Sl w (· = g) (some ⟨g, 0, none⟩) (zai [y]) → Calls Tryz.prog 35 #[.slice (some ⟨g, 0, none⟩) 1 1] w fun e w' => e = .returned (.bool false) ∧ Nw w w' := fun w g q hs => by
  rw [hy] at hs
  have h := zhr w g R2 n2 hs (zi0 ((sn2.fr q (fun _ _ h => h)).mono fun _ _ _ => trivial) (by unfold maxLen; omega)) nn2
  rwa [d2] at h
 rw [← hx] at bGd
 rw [← hy] at bHb
 have lG := Blk.cells_at (l := letL x) bGd 0
 have CR1 := Lib.hid cR1
 have CR2 := Lib.hid cR2
 obtain ⟨P, hP⟩ : ∃ P, P = V5.heap.size := ⟨_, rfl⟩
 obtain ⟨V6, hV6⟩ : ∃ V, V = V5.alloc (.cells (letA x) 50) := ⟨_, rfl⟩
 have q7 : Nw V5 V6 := by rw [hV6]; exact (Fr.refl (fun _ => False) _).alloc _
 have sP : Sl V6 (· = P) (some ⟨P, 0, none⟩) (zai [x]) := zj7 V5 V6 P x hP hV6
 have HP := Lib.hid hP
 have HV6 := Lib.hid hV6
 clear hx hy cR1 cR2 sn1d sn2 nn1 nn2 d1 d2 hP hV6
 go_wp2_with (refine za5 rfl 50 _ rfl G 0 rfl (letL x) _ lG Tryz.underlying50 rfl (by kernel_rfl) ?_)
 rw [← HP.out]
 rw [← HV6.out]
 refine (CR1.out V6 P q7 sP).mono ?_
 rintro e w8 ⟨rfl, q8⟩
 have q58 : Nw V5 w8 := q7.tr q8
 have lH := Blk.cells_at (l := letL y) (bHb.fr q58 (fun h => h)) 0
 obtain ⟨P2, hP2⟩ : ∃ P, P = w8.heap.size := ⟨_, rfl⟩
 obtain ⟨V7, hV7⟩ : ∃ V, V = w8.alloc (.cells (letA y) 50) := ⟨_, rfl⟩
 have q9 : Nw w8 V7 := by rw [hV7]; exact (Fr.refl (fun _ => False) _).alloc _
 have sP2 : Sl V7 (· = P2) (some ⟨P2, 0, none⟩) (zai [y]) := zj7 w8 V7 P2 y hP2 hV7
 have HP2 := Lib.hid hP2
 have HV7 := Lib.hid hV7
 clear hP2 hV7 HP HV6 CR1 lG sP
 go_wp2_with (refine zaO (by kernel_rfl) 50 _ rfl H 0 rfl (letL y) _ lH Tryz.underlying50 rfl (by kernel_rfl) ?_)
 rw [← HP2.out]
 rw [← HV7.out]
 refine (CR2.out V7 P2 (q58.tr q9) sP2).mono ?_
 rintro e w10 ⟨rfl, q10⟩
 have Q10 : Nw W w10 := ((Q6.tr q58).tr q9).tr q10
 have bX10 := ((bX6.fr q58 (fun h => h)).fr q9 (fun h => h)).fr q10 (fun h => h)
 go_upto_region 33 with (fail)
 rename_i hK33
 exact zlC W w10 X bX10 Q10 Q HQ.out _ hK33
open Go Go.RowKit
theorem lends_walk (W : World) : Calls Tryz.prog 7 #[] W fun e w' => e = .returned (.bool true) ∧ Nw W w' := by
 obtain ⟨D, hD⟩ : ∃ D, D = W.heap.size := ⟨_, rfl⟩
 obtain ⟨W0, hW0⟩ : ∃ V, V = W.alloc (.cells #[.int .i64 (-9223372036854775808), .int .i64 (-1), .int .i64 (0), .int .i64 (1), .int .i64 (4), .int .i64 (5), .int .i64 (6), .int .i64 (8), .int .i64 (9), .int .i64 (255), .int .i64 (256), .int .i64 (1073741824), .int .i64 (1073741825), .int .i64 (4611686018427387903), .int .i64 (4611686018427387904)] 3) := ⟨_, rfl⟩
 have Q0 : Nw W W0 := by rw [hW0]; exact (Fr.refl (fun _ => False) _).alloc _
 have od : Blk W0 D 3 #[.int .i64 (-9223372036854775808), .int .i64 (-1), .int .i64 (0), .int .i64 (1), .int .i64 (4), .int .i64 (5), .int .i64 (6), .int .i64 (8), .int .i64 (9), .int .i64 (255), .int .i64 (256), .int .i64 (1073741824), .int .i64 (1073741825), .int .i64 (4611686018427387903), .int .i64 (4611686018427387904)] := by rw [hW0, hD]; exact Blk.new _ _ _
 have oc : ∀ w, Nw W0 w → ∀ i, i < 15 → w.cell? ⟨D, i, none⟩ = some (.int .i64 (zfB.getD i 0)) := fun w q i hi => by
  rw [(od.fr q (fun h => h)).cell]
  exact zmc i hi
 have OC := Lib.hid oc
 have HD := Lib.hid hD
 have HW0 := Lib.hid hW0
 clear hD hW0 oc od
 go_enter Tryz.func7, Tryz.ntmps7
 go_upto_region 2 with (fail)
 rw [← HD.out]
 rw [← HW0.out]
 go_wp2_with fail
 go_loopw [2] (fun i wr => zbt W0 15 i wr) (fun i _ => 15 - (intOf i).toNat)
 case atStart => exact ⟨0, Nat.zero_le _, rfl, Fr.refl _ _⟩
 case round =>
  obtain ⟨i, hi, rfl, hq⟩ := hrel
  by_cases hlt : i < 15
  ·have hi0 : (i : Int) < 15 := by omega
   have hi1 : decide ((i : Int) < 15) = true := decide_eq_true hi0
   have hi2 : decide (i < 15) = true := decide_eq_true hlt
   obtain ⟨wo, rfl⟩ : ∃ wo : World, wo = wr := ⟨_, rfl⟩
   go_wp2_with fail
   go_loopw [3] (fun k wx => zbt W0 14 k wx) (fun k _ => 14 - (intOf k).toNat)
   case atStart => exact ⟨0, Nat.zero_le _, rfl, hq⟩
   case round =>
    obtain ⟨k, hk, rfl, hq2⟩ := hrel
    by_cases hltk : k < 14
    ·have hk0 : (k : Int) < 14 := by omega
     have hk1 : decide ((k : Int) < 14) = true := decide_eq_true hk0
     have hk2 : decide (k < 14) = true := decide_eq_true hltk
     go_wp2_with fail
     refine (zca _).mono ?_
     rintro e w3 ⟨rfl, q3⟩
     have Q3 : Nw W0 w3 := hq2.tr q3
     obtain ⟨G, hG⟩ : ∃ G, G = w3.heap.size := ⟨_, rfl⟩
     obtain ⟨V0, hV0⟩ : ∃ V, V = w3.alloc (.cells zL9A 50) := ⟨_, rfl⟩
     have qv0 : Nw w3 V0 := by rw [hV0]; exact (Fr.refl (fun _ => False) _).alloc _
     have g0 : Blk V0 G 50 (letA zaP) := by rw [hV0, hG]; exact Blk.new _ _ _
     have hth := Blk.there (l := letL zaP) g0 0 20 (by show 0 + 20 ≤ 20; omega)
     obtain ⟨V1, hV1⟩ : ∃ V, V = V0.setCells G 0 (letL zag) := ⟨_, rfl⟩
     have m1 : Fr (· = G) V0 V1 := by rw [hV1]; exact (Fr.refl (· = G) _).setCells _ _
     have q4 : Nw w3 V1 := qv0.new m1 (fun b hb => by omega)
     have bG : Blk V1 G 50 (letA zag) := by
      have h := Blk.setCells (l := letL zaP) g0 0 (letL zag)
      rw [← hV1] at h
      exact h
     have hGle : w3.heap.size ≤ G := Nat.le_of_eq hG.symm
     have HG := Lib.hid hG
     have HV0 := Lib.hid hV0
     have HV1 := Lib.hid hV1
     clear hG hV0 hV1 qv0 g0 m1
     go_upto_region 9 with (rw [← HG.out, ← HV0.out]; refine wpList_store_mid rfl 50 _ _ rfl G 0 (letA zag) rfl rfl hth (by kernel_rfl) (zbc zag) ?_; rw [← HV1.out])
     clear hth HG HV0 HV1
     have Q4 : Nw W0 V1 := Q3.tr q4
     obtain ⟨P, hP⟩ : ∃ P, P = V1.heap.size := ⟨_, rfl⟩
     obtain ⟨V2, hV2⟩ : ∃ V, V = V1.alloc (.cells #[.pointer (some ⟨G, 1, none⟩), .pointer (some ⟨G, 2, none⟩), .pointer (some ⟨G, 3, none⟩), .pointer (some ⟨G, 4, none⟩), .pointer (some ⟨G, 5, none⟩), .pointer (some ⟨G, 6, none⟩), .pointer (some ⟨G, 7, none⟩), .pointer (some ⟨G, 16, none⟩), .pointer (some ⟨G, 17, none⟩), .pointer (some ⟨G, 18, none⟩), .pointer (some ⟨G, 10, none⟩), .pointer (some ⟨G, 11, none⟩)] 83) := ⟨_, rfl⟩
     have q5 : Nw V1 V2 := by rw [hV2]; exact (Fr.refl (fun _ => False) _).alloc _
     have bP : Blk V2 P 83 #[.pointer (some ⟨G, 1, none⟩), .pointer (some ⟨G, 2, none⟩), .pointer (some ⟨G, 3, none⟩), .pointer (some ⟨G, 4, none⟩), .pointer (some ⟨G, 5, none⟩), .pointer (some ⟨G, 6, none⟩), .pointer (some ⟨G, 7, none⟩), .pointer (some ⟨G, 16, none⟩), .pointer (some ⟨G, 17, none⟩), .pointer (some ⟨G, 18, none⟩), .pointer (some ⟨G, 10, none⟩), .pointer (some ⟨G, 11, none⟩)] := by rw [hV2, hP]; exact Blk.new _ _ _
     have Q5 : Nw W0 V2 := Q4.tr q5
     have bG2 := bG.fr q5 (fun h => h)
     have cO := OC.out V2 Q5 i hlt
     have HP := Lib.hid hP
     have HV2 := Lib.hid hV2
     clear hP hV2 bG
     go_upto_region 10 with (fail)
     rw [← HP.out]
     rw [← HV2.out]
     clear HP HV2
     by_cases hk12 : k < 12
     ·have hk3 : (k : Int) < 12 := by omega
      have hk4 : decide ((k : Int) < 12) = true := decide_eq_true hk3
      have hk5 : decide (k < 12) = true := decide_eq_true hk12
      have cP : V2.cell? ⟨P, k, none⟩ = some (.pointer (some ⟨G, zfD.getD k 0, none⟩)) := by rw [bP.cell]; exact zmB G k hk12
      obtain ⟨x, hx, hin, bd⟩ := zlu (zfB.getD i 0) k hk12
      have hof : zfD.getD k 0 < 20 := by
       have : ∀ k, k < 12 → zfD.getD k 0 < 20 := by decide
       exact this k hk12
      obtain ⟨of, hofe⟩ : ∃ of, zfD.getD k 0 = of := ⟨_, rfl⟩
      obtain ⟨z, hz⟩ : ∃ z, zfB.getD i 0 = z := ⟨_, rfl⟩
      rw [hofe] at cP hx hof
      rw [hz] at hx cO
      obtain ⟨u, hcu⟩ : ∃ u, V2.cell? ⟨G, of, none⟩ = some u := by
       rw [bG2.cell]
       exact ⟨_, Array.getElem?_eq_getElem (show of < (letA zag).size from hof)⟩
      have hfz := bG2.frozen of
      have bs := (bG2.set_ of (I64 z)).drew
      rw [← hx] at bs
      have m3 : Fr (· = G) V2 (V2.setCell ⟨G, of, none⟩ (I64 z)).drew := ((Fr.refl (· = G) V2).set1 _ _).drew
      obtain ⟨V3, hV3⟩ : ∃ V, V = (V2.setCell ⟨G, of, none⟩ (I64 z)).drew := ⟨_, rfl⟩
      rw [← hV3] at bs m3
      have q6 : Nw W0 V3 := Q5.new m3 (fun b hb => by have := Q3.size; omega)
      have HV3 := Lib.hid hV3
      clear hofe hz hx hV3 m3 bP bG2
      go_wp2_with fail
      refine zh0 9 (by kernel_rfl) (by kernel_rfl) ?_
      simp only [List.take_succ_cons, List.take_zero, List.drop_succ_cons, List.drop_zero]
      repeat (first | still_step)
      refine wpStill_nil ?_
      have bx : Blk V3 G 50 (letA x) := bs
      have hinl : za3 V3 (· < V3.heap.size) x := hin _ _
      have xb : ∀ w9, Nw V3 w9 → ∀ p u, (letL x)[p]? = some u → w9.cell? ⟨G, 0 + p, none⟩ = some u := fun w9 q => Blk.cells_at (l := letL x) (bx.fr q (fun h => h)) 0
      have cput : ∀ w9 g, Nw V3 w9 → Sl w9 (· = g) (some ⟨g, 0, none⟩) (zai [zag, x]) → Calls Tryz.prog 5 #[.slice (some ⟨g, 0, none⟩) 2 2, .agg (letA x), .agg (letA zag)] w9 fun e w' => e = .returned (.bool true) ∧ Nw w9 w' := fun w9 g q hs =>
       zfY w9 g x hs (hin _ _) bd ((hinl.nw q).mono fun k hk _ => Nat.lt_of_lt_of_le hk q.size)
      have XB := Lib.hid xb
      have CPUT := Lib.hid cput
      clear xb cput
      go_upto_region 15 with (fail)
      rw [← HV3.out]
      clear HV3
      refine zdq 2 99 V3 (zai [zag, x]) [] (by kernel_rfl) (by kernel_rfl) (Fr.refl _ _) ?_
      apply zak
      focus
       intro B L wz hL hD hC
       have HC := Lib.hid hC
       refine .inl ⟨by rfl, ?_⟩
       unfold za2
       go_simp
       refine (zca wz).mono ?_
       rintro e w9 ⟨rfl, q9⟩
       refine ⟨rfl, HC.out.1.step (by kernel_rfl) hD, ?_⟩
       have h9 := BlC.more HC.out.2 q9
       simpa [onL] using h9
      simp only [Act.put, sA9, sB9, sC9]
      apply zak
      focus
       intro B L wz hL hD hC
       have hlx := XB.out wz hC.2.1
       refine .inl ⟨by rfl, ?_⟩
       exact zaC 50 _ rfl G 0 rfl (letL x) _ hlx Tryz.underlying50 rfl (by kernel_rfl) ⟨hC.1.step (by kernel_rfl) hD, by simpa [onL] using hC.2⟩
      simp only [Act.put, sA9, sB9, sC9]
      refine zaU (fun b => .slice (some ⟨b.1, 0, none⟩) 2 2) ?_ ?_
      focus
       intro B L wz hL hD hC
       obtain ⟨q8, s8⟩ := zea (w := wz) [zag, x] rfl rfl
       have h9 := BlC.more hC.2 q8
       refine .inl ⟨by rfl, ?_⟩
       refine zdy 28 2 _ 20 [letL zag, letL x] (.agg zL9A) rfl Tryz.underlying28 (by kernel_rfl) rfl (by decide) (by decide) (by simp) (by decide) rfl ⟨(wz.heap.size, lsZ), rfl, hC.1.step (by kernel_rfl) hD, ?_⟩
       refine ⟨h9.1, fun _ => ?_, fun h => ?_⟩
       ·simpa [updT] using s8
       ·simpa [updT] using h9.2.2 (by simpa [onL] using h)
      simp only [Act.put, sA9, sB9, sC9]
      apply zak
      focus
       intro B L wz hL hD hC
       have hlx := XB.out wz hC.2.1
       refine .inl ⟨by rfl, ?_⟩
       exact zaC 50 _ rfl G 0 rfl (letL x) _ hlx Tryz.underlying50 rfl (by kernel_rfl) ⟨hC.1.step (by kernel_rfl) hD, by simpa [onL] using hC.2⟩
      simp only [Act.put, sA9, sB9, sC9]
      apply zak
      focus
       intro B L wz hL hD hC
       have HC := Lib.hid hC
       refine .inl ⟨by rfl, ?_⟩
       unfold za2
       go_simp
       refine (zca wz).mono ?_
       rintro e w9 ⟨rfl, q9⟩
       refine ⟨rfl, HC.out.1.step (by kernel_rfl) hD, ?_⟩
       have h9 := BlC.more HC.out.2 q9
       simpa [onL] using h9
      simp only [Act.put, sA9, sB9, sC9]
      apply zak
      focus
       intro B L wz hL hD hC
       have a2 := hD 2 (by kernel_rfl)
       have HC := Lib.hid hC
       have cp := CPUT.out wz (B 2).1 hC.2.1 (hC.2.2.1 a2)
       refine .inl ⟨by rfl, ?_⟩
       unfold za2
       go_simp
       refine cp.mono ?_
       rintro e w9 ⟨rfl, q9⟩
       refine ⟨rfl, HC.out.1.step (by kernel_rfl) hD, ?_⟩
       have h9 := BlC.more HC.out.2 q9
       simpa [onL] using h9
      simp only [Act.put, sA9, sB9, sC9]
      apply zak
      focus
       intro B L wz hL hD hC
       refine .inl ⟨by rfl, ?_⟩
       unfold za2
       go_simp
       exact ⟨rfl, hC.1.step (by kernel_rfl) hD, by simpa [onL] using hC.2⟩
      simp only [Act.put, sA9, sB9, sC9]
      refine zcH fun B w7 hC => ?_
      have q7 : Nw V3 w7 := hC.2.1
      clear hC XB CPUT
      generalize (B 2).1 = n2
      go_wp2_with fail
      go_roundw
      case rel => exact ⟨k + 1, by omega, by go_num, q6.tr q7⟩
      case measure => simp [intOf]; omega
     ·have hk4 : decide ((k : Int) < 12) = false := decide_eq_false (by omega)
      have hk5 : decide (k < 12) = false := decide_eq_false (by omega)
      have fG2 := bG2.frozen
      by_cases hk12e : k = 12
      ·subst hk12e
       obtain ⟨z, hz⟩ : ∃ z, zfB.getD i 0 = z := ⟨_, rfl⟩
       rw [hz] at cO
       have c0 : V2.cell? ⟨G, 0, none⟩ = some (U8V zag.kind) := by rw [bG2.cell]; rfl
       have f0 := bG2.frozen 0
       clear hz fG2 bP
       obtain ⟨kd, hkd⟩ : ∃ kd, bits BinOp.and IntKind.i64 z 255 % 256 = kd := ⟨_, rfl⟩
       have hkr : 0 ≤ kd ∧ kd ≤ 255 := by omega
       have HKD := Lib.hid hkd
       clear hkd
       obtain ⟨x, hx⟩ : ∃ x : LetM, x = { zag with kind := kd } := ⟨_, rfl⟩
       have hin : ∀ w F, za3 w F x := fun w F => by rw [hx]; exact ⟨hkr, (za3.vote w F).ents, (za3.vote w F).each, (za3.vote w F).cfg, (za3.vote w F).bytes⟩
       have bd : zd1 x := by rw [hx]; exact ⟨za8.vote.bd.ents, za8.vote.bd.each, za8.vote.bd.cfg, za8.vote.bd.bytes⟩
       obtain ⟨V3, hV3⟩ : ∃ V, V = V2.setCell ⟨G, 0, none⟩ (.int .u8 kd) := ⟨_, rfl⟩
       have m3 : Fr (· = G) V2 V3 := by rw [hV3]; exact (Fr.refl (· = G) V2).set1 _ _
       have bx : Blk V3 G 50 (letA x) := by
        have h := bG2.set_ 0 (.int .u8 kd)
        rw [← hV3] at h
        rw [hx]
        exact h
       have q6 : Nw W0 V3 := Q5.new m3 (fun b hb => by have := Q3.size; omega)
       have hinl : za3 V3 (· < V3.heap.size) x := hin _ _
       have HV3 := Lib.hid hV3
       clear hx hV3 m3 bG2
       obtain ⟨k, hk12⟩ : ∃ k : Nat, k = 12 := ⟨_, rfl⟩
       have xb : ∀ w9, Nw V3 w9 → ∀ p u, (letL x)[p]? = some u → w9.cell? ⟨G, 0 + p, none⟩ = some u := fun w9 q => Blk.cells_at (l := letL x) (bx.fr q (fun h => h)) 0
       have cput : ∀ w9 g, Nw V3 w9 → Sl w9 (· = g) (some ⟨g, 0, none⟩) (zai [zag, x]) → Calls Tryz.prog 5 #[.slice (some ⟨g, 0, none⟩) 2 2, .agg (letA x), .agg (letA zag)] w9 fun e w' => e = .returned (.bool true) ∧ Nw w9 w' := fun w9 g q hs =>
        zfY w9 g x hs (hin _ _) bd ((hinl.nw q).mono fun k hk _ => Nat.lt_of_lt_of_le hk q.size)
       have XB := Lib.hid xb
       have CPUT := Lib.hid cput
       clear xb cput
       go_upto_region 15 with (fail)
       rw [HKD.out]
       rw [← HV3.out]
       clear HV3
       refine zdq 2 99 V3 (zai [zag, x]) [] (by kernel_rfl) (by kernel_rfl) (Fr.refl _ _) ?_
       apply zak
       focus
        intro B L wz hL hD hC
        have HC := Lib.hid hC
        refine .inl ⟨by rfl, ?_⟩
        unfold za2
        go_simp
        refine (zca wz).mono ?_
        rintro e w9 ⟨rfl, q9⟩
        refine ⟨rfl, HC.out.1.step (by kernel_rfl) hD, ?_⟩
        have h9 := BlC.more HC.out.2 q9
        simpa [onL] using h9
       simp only [Act.put, sA9, sB9, sC9]
       apply zak
       focus
        intro B L wz hL hD hC
        have hlx := XB.out wz hC.2.1
        refine .inl ⟨by rfl, ?_⟩
        exact zaC 50 _ rfl G 0 rfl (letL x) _ hlx Tryz.underlying50 rfl (by kernel_rfl) ⟨hC.1.step (by kernel_rfl) hD, by simpa [onL] using hC.2⟩
       simp only [Act.put, sA9, sB9, sC9]
       refine zaU (fun b => .slice (some ⟨b.1, 0, none⟩) 2 2) ?_ ?_
       focus
        intro B L wz hL hD hC
        obtain ⟨q8, s8⟩ := zea (w := wz) [zag, x] rfl rfl
        have h9 := BlC.more hC.2 q8
        refine .inl ⟨by rfl, ?_⟩
        refine zdy 28 2 _ 20 [letL zag, letL x] (.agg zL9A) rfl Tryz.underlying28 (by kernel_rfl) rfl (by decide) (by decide) (by simp) (by decide) rfl ⟨(wz.heap.size, lsZ), rfl, hC.1.step (by kernel_rfl) hD, ?_⟩
        refine ⟨h9.1, fun _ => ?_, fun h => ?_⟩
        ·simpa [updT] using s8
        ·simpa [updT] using h9.2.2 (by simpa [onL] using h)
       simp only [Act.put, sA9, sB9, sC9]
       apply zak
       focus
        intro B L wz hL hD hC
        have hlx := XB.out wz hC.2.1
        refine .inl ⟨by rfl, ?_⟩
        exact zaC 50 _ rfl G 0 rfl (letL x) _ hlx Tryz.underlying50 rfl (by kernel_rfl) ⟨hC.1.step (by kernel_rfl) hD, by simpa [onL] using hC.2⟩
       simp only [Act.put, sA9, sB9, sC9]
       apply zak
       focus
        intro B L wz hL hD hC
        have HC := Lib.hid hC
        refine .inl ⟨by rfl, ?_⟩
        unfold za2
        go_simp
        refine (zca wz).mono ?_
        rintro e w9 ⟨rfl, q9⟩
        refine ⟨rfl, HC.out.1.step (by kernel_rfl) hD, ?_⟩
        have h9 := BlC.more HC.out.2 q9
        simpa [onL] using h9
       simp only [Act.put, sA9, sB9, sC9]
       apply zak
       focus
        intro B L wz hL hD hC
        have a2 := hD 2 (by kernel_rfl)
        have HC := Lib.hid hC
        have cp := CPUT.out wz (B 2).1 hC.2.1 (hC.2.2.1 a2)
        refine .inl ⟨by rfl, ?_⟩
        unfold za2
        go_simp
        refine cp.mono ?_
        rintro e w9 ⟨rfl, q9⟩
        refine ⟨rfl, HC.out.1.step (by kernel_rfl) hD, ?_⟩
        have h9 := BlC.more HC.out.2 q9
        simpa [onL] using h9
       simp only [Act.put, sA9, sB9, sC9]
       apply zak
       focus
        intro B L wz hL hD hC
        refine .inl ⟨by rfl, ?_⟩
        unfold za2
        go_simp
        exact ⟨rfl, hC.1.step (by kernel_rfl) hD, by simpa [onL] using hC.2⟩
       simp only [Act.put, sA9, sB9, sC9]
       refine zcH fun B w7 hC => ?_
       have q7 : Nw V3 w7 := hC.2.1
       clear hC XB CPUT
       generalize (B 2).1 = n2
       go_wp2_with fail
       go_roundw
       case rel => exact ⟨13, by omega, rfl, q6.tr q7⟩
       case measure => simp [intOf]
      ·obtain rfl : k = 13 := by omega
       have hk6 : decide ((13 : Int) = 12) = false := by decide
       obtain ⟨z, hz⟩ : ∃ z, zfB.getD i 0 = z := ⟨_, rfl⟩
       rw [hz] at cO
       have bal := bG2.alloc (.cells #[.int .i64 z] 3)
       have c0 : (V2.alloc (.cells #[.int .i64 z] 3)).cell? ⟨G, 14, none⟩ = some (.slice none 0 0) := by rw [bal.cell]; rfl
       have f0 := bal.frozen 14
       obtain ⟨R, hR⟩ : ∃ R, R = V2.heap.size := ⟨_, rfl⟩
       obtain ⟨Va, hVa⟩ : ∃ V, V = V2.alloc (.cells #[.int .i64 z] 3) := ⟨_, rfl⟩
       have qa : Nw V2 Va := by rw [hVa]; exact (Fr.refl (fun _ => False) _).alloc _
       have bGa := bG2.fr qa (fun h => h)
       have sR : Sl Va (· = R) (some ⟨R, 0, none⟩) (zac [z]) := by
        have h := zaI V2 3 [.int .i64 z] _ rfl
        rw [hVa, hR]
        exact h
       obtain ⟨x, hx⟩ : ∃ x : LetM, x = { zag with base := { zcP with cfg := { zcS with l := ⟨some ⟨R, 0, none⟩, 1, [z]⟩ } } } := ⟨_, rfl⟩
       obtain ⟨V3, hV3⟩ : ∃ V, V = Va.setCell ⟨G, 14, none⟩ (.slice (some ⟨R, 0, none⟩) 1 1) := ⟨_, rfl⟩
       have m3 : Fr (· = G) Va V3 := by rw [hV3]; exact (Fr.refl (· = G) Va).set1 _ _
       have hRG : R ≠ G := by have := bG2.lt; omega
       have hRV : R < V3.heap.size := by
        have h1 := m3.size
        have h2 : Va.heap.size = V2.heap.size + 1 := by rw [hVa]; simp
        omega
       have hinT : ∀ F : Nat → Prop, F R → za3 V3 F x := fun F hF => by
        rw [hx]
        refine ⟨(za3.vote V3 F).kind, (za3.vote V3 F).ents, (za3.vote V3 F).each, ⟨(za3.vote V3 F).cfg.v, (za3.vote V3 F).cfg.o, ⟨?_, by show 1 ≤ 1 ∧ 1 ≤ maxLen; exact ⟨Nat.le_refl _, by decide⟩⟩, (za3.vote V3 F).cfg.w⟩, (za3.vote V3 F).bytes⟩
        exact (sR.fr m3 (fun j hj e => by omega)).mono fun j hj _ => by rw [hj]; exact hF
       have bd : zd1 x := by rw [hx]; exact ⟨za8.vote.bd.ents, za8.vote.bd.each, ⟨za8.vote.bd.cfg.v, za8.vote.bd.cfg.o, by show 1 ≤ _; omega, za8.vote.bd.cfg.w⟩, za8.vote.bd.bytes⟩
       have bx : Blk V3 G 50 (letA x) := by
        have h := bGa.set_ 14 (.slice (some ⟨R, 0, none⟩) 1 1)
        rw [← hV3] at h
        rw [hx]
        exact h
       have q6 : Nw W0 V3 := (Q5.tr qa).new m3 (fun b hb => by have := Q3.size; omega)
       have hinl : za3 V3 (· < V3.heap.size) x := hinT _ hRV
       have hin0 : za3 V3 (fun _ => True) x := hinT _ trivial
       have HV3 := Lib.hid hV3
       have HVA := Lib.hid hVa
       have HR := Lib.hid hR
       clear hx hV3 m3 bG2 hVa hR hinT sR bGa fG2 bP hz hRG hRV
       obtain ⟨k, hk12⟩ : ∃ k : Nat, k = 13 := ⟨_, rfl⟩
       have xb : ∀ w9, Nw V3 w9 → ∀ p u, (letL x)[p]? = some u → w9.cell? ⟨G, 0 + p, none⟩ = some u := fun w9 q => Blk.cells_at (l := letL x) (bx.fr q (fun h => h)) 0
       have cput : ∀ w9 g, Nw V3 w9 → Sl w9 (· = g) (some ⟨g, 0, none⟩) (zai [zag, x]) → Calls Tryz.prog 5 #[.slice (some ⟨g, 0, none⟩) 2 2, .agg (letA x), .agg (letA zag)] w9 fun e w' => e = .returned (.bool true) ∧ Nw w9 w' := fun w9 g q hs =>
        zfY w9 g x hs (hin0.nw q) bd ((hinl.nw q).mono fun k hk _ => Nat.lt_of_lt_of_le hk q.size)
       have XB := Lib.hid xb
       have CPUT := Lib.hid cput
       clear xb cput
       go_upto_region 15 with (fail)
       rw [← HR.out]
       rw [← HVA.out]
       rw [← HV3.out]
       clear HV3 HVA HR
       refine zdq 2 99 V3 (zai [zag, x]) [] (by kernel_rfl) (by kernel_rfl) (Fr.refl _ _) ?_
       apply zak
       focus
        intro B L wz hL hD hC
        have HC := Lib.hid hC
        refine .inl ⟨by rfl, ?_⟩
        unfold za2
        go_simp
        refine (zca wz).mono ?_
        rintro e w9 ⟨rfl, q9⟩
        refine ⟨rfl, HC.out.1.step (by kernel_rfl) hD, ?_⟩
        have h9 := BlC.more HC.out.2 q9
        simpa [onL] using h9
       simp only [Act.put, sA9, sB9, sC9]
       apply zak
       focus
        intro B L wz hL hD hC
        have hlx := XB.out wz hC.2.1
        refine .inl ⟨by rfl, ?_⟩
        exact zaC 50 _ rfl G 0 rfl (letL x) _ hlx Tryz.underlying50 rfl (by kernel_rfl) ⟨hC.1.step (by kernel_rfl) hD, by simpa [onL] using hC.2⟩
       simp only [Act.put, sA9, sB9, sC9]
       refine zaU (fun b => .slice (some ⟨b.1, 0, none⟩) 2 2) ?_ ?_
       focus
        intro B L wz hL hD hC
        obtain ⟨q8, s8⟩ := zea (w := wz) [zag, x] rfl rfl
        have h9 := BlC.more hC.2 q8
        refine .inl ⟨by rfl, ?_⟩
        refine zdy 28 2 _ 20 [letL zag, letL x] (.agg zL9A) rfl Tryz.underlying28 (by kernel_rfl) rfl (by decide) (by decide) (by simp) (by decide) rfl ⟨(wz.heap.size, lsZ), rfl, hC.1.step (by kernel_rfl) hD, ?_⟩
        refine ⟨h9.1, fun _ => ?_, fun h => ?_⟩
        ·simpa [updT] using s8
        ·simpa [updT] using h9.2.2 (by simpa [onL] using h)
       simp only [Act.put, sA9, sB9, sC9]
       apply zak
       focus
        intro B L wz hL hD hC
        have hlx := XB.out wz hC.2.1
        refine .inl ⟨by rfl, ?_⟩
        exact zaC 50 _ rfl G 0 rfl (letL x) _ hlx Tryz.underlying50 rfl (by kernel_rfl) ⟨hC.1.step (by kernel_rfl) hD, by simpa [onL] using hC.2⟩
       simp only [Act.put, sA9, sB9, sC9]
       apply zak
       focus
        intro B L wz hL hD hC
        have HC := Lib.hid hC
        refine .inl ⟨by rfl, ?_⟩
        unfold za2
        go_simp
        refine (zca wz).mono ?_
        rintro e w9 ⟨rfl, q9⟩
        refine ⟨rfl, HC.out.1.step (by kernel_rfl) hD, ?_⟩
        have h9 := BlC.more HC.out.2 q9
        simpa [onL] using h9
       simp only [Act.put, sA9, sB9, sC9]
       apply zak
       focus
        intro B L wz hL hD hC
        have a2 := hD 2 (by kernel_rfl)
        have HC := Lib.hid hC
        have cp := CPUT.out wz (B 2).1 hC.2.1 (hC.2.2.1 a2)
        refine .inl ⟨by rfl, ?_⟩
        unfold za2
        go_simp
        refine cp.mono ?_
        rintro e w9 ⟨rfl, q9⟩
        refine ⟨rfl, HC.out.1.step (by kernel_rfl) hD, ?_⟩
        have h9 := BlC.more HC.out.2 q9
        simpa [onL] using h9
       simp only [Act.put, sA9, sB9, sC9]
       apply zak
       focus
        intro B L wz hL hD hC
        refine .inl ⟨by rfl, ?_⟩
        unfold za2
        go_simp
        exact ⟨rfl, hC.1.step (by kernel_rfl) hD, by simpa [onL] using hC.2⟩
       simp only [Act.put, sA9, sB9, sC9]
       refine zcH fun B w7 hC => ?_
       have q7 : Nw V3 w7 := hC.2.1
       clear hC XB CPUT
       generalize (B 2).1 = n2
       go_wp2_with fail
       go_roundw
       case rel => exact ⟨14, by omega, rfl, q6.tr q7⟩
       case measure => simp [intOf]
    ·obtain rfl : k = 14 := by omega
     go_wp2_with fail
     go_roundw
     case rel => exact ⟨i + 1, by omega, by go_num, hq2⟩
     case measure => simp [intOf]; omega
  ·obtain rfl : i = 15 := by omega
   obtain ⟨X, hX⟩ : ∃ X, X = wr.heap.size := ⟨_, rfl⟩
   obtain ⟨Va, hVa⟩ : ∃ V, V = wr.alloc (.cells zE9A 87) := ⟨_, rfl⟩
   have qa : Nw wr Va := by rw [hVa]; exact (Fr.refl (fun _ => False) _).alloc _
   have x0 : Blk Va X 87 (entA zcm) := by rw [hVa, hX]; exact Blk.new _ _ _
   have hth := Blk.there (l := entL zcm) x0 0 7 (by show 0 + 7 ≤ 7; omega)
   obtain ⟨Vb, hVb⟩ : ∃ V, V = Va.setCells X 0 (entL e0M) := ⟨_, rfl⟩
   have mb : Fr (· = X) Va Vb := by rw [hVb]; exact (Fr.refl (· = X) _).setCells _ _
   have xb : Blk Vb X 87 (entA e0M) := by
    have h := Blk.setCells (l := entL zcm) x0 0 (entL e0M)
    rw [← hVb] at h
    exact h
   have hXle : wr.heap.size ≤ X := Nat.le_of_eq hX.symm
   have Qb : Nw W0 Vb := (hq.tr qa).new mb (fun b hb => by have := hq.size; omega)
   have hXs : W0.heap.size ≤ X := Nat.le_trans hq.size hXle
   have HX := Lib.hid hX
   have HVA := Lib.hid hVa
   have HVB := Lib.hid hVb
   clear hX hVa hVb x0 mb qa
   go_upto_region 18 with (rw [← HX.out, ← HVA.out]; refine wpList_store_mid rfl 87 _ _ rfl X 0 (entA e0M) rfl rfl hth (by kernel_rfl) (zbo e0M) ?_; rw [← HVB.out])
   clear hth HX HVA HVB
   go_wp2_with fail
   go_loopw [7, 8] (fun v i wx => zkw W0 X v i wx) (fun _ i _ => 32 - (intOf i).toNat)
   case atStart => exact ⟨0, none, 0, by omega, rfl, rfl, Own.nil _ _ _, fun j hj => (zaH j hj).elim, Qb, xb⟩
   case round =>
    clear xb Qb
    obtain ⟨k, A, c, hk, rfl, rfl, ho, hA, hq2, bX⟩ := hrel
    have hcap := ho.cap_le
    by_cases hltk : k < 32
    ·have hk0 : (k : Int) < 32 := by omega
     have hk1 : decide ((k : Int) < 32) = true := decide_eq_true hk0
     have hk2 : decide (k < 32) = true := decide_eq_true hltk
     go_wp2_with fail
     refine (zca _).mono ?_
     rintro e w3 ⟨rfl, q3⟩
     obtain ⟨G, hG⟩ : ∃ G, G = w3.heap.size := ⟨_, rfl⟩
     obtain ⟨V0, hV0⟩ : ∃ V, V = w3.alloc (.cells zL9A 50) := ⟨_, rfl⟩
     have qv0 : Nw w3 V0 := by rw [hV0]; exact (Fr.refl (fun _ => False) _).alloc _
     have g0 : Blk V0 G 50 (letA zaP) := by rw [hV0, hG]; exact Blk.new _ _ _
     have hth := Blk.there (l := letL zaP) g0 0 20 (by show 0 + 20 ≤ 20; omega)
     obtain ⟨V1, hV1⟩ : ∃ V, V = V0.setCells G 0 (letL zag) := ⟨_, rfl⟩
     have m1 : Fr (· = G) V0 V1 := by rw [hV1]; exact (Fr.refl (· = G) _).setCells _ _
     have q4 : Nw w3 V1 := qv0.new m1 (fun b hb => by omega)
     have bG : Blk V1 G 50 (letA zag) := by
      have h := Blk.setCells (l := letL zaP) g0 0 (letL zag)
      rw [← hV1] at h
      exact h
     have hGle : w3.heap.size ≤ G := Nat.le_of_eq hG.symm
     have HG := Lib.hid hG
     have HV0 := Lib.hid hV0
     have HV1 := Lib.hid hV1
     clear hG hV0 hV1 qv0 g0 m1
     go_upto_region 23 with (rw [← HG.out, ← HV0.out]; refine wpList_store_mid rfl 50 _ _ rfl G 0 (letA zag) rfl rfl hth (by kernel_rfl) (zbc zag) ?_; rw [← HV1.out])
     clear hth HG HV0 HV1
     have ho1 := ho.fr (q3.tr q4) (fun _ _ h => h)
     have c9 : V1.cell? ⟨G, 9, none⟩ = some (.slice none 0 0) := by rw [bG.cell]; rfl
     have f9 := bG.frozen 9
     obtain ⟨V2, hV2⟩ : ∃ V, V = V1.setCell ⟨G, 9, none⟩ (.slice A k c) := ⟨_, rfl⟩
     have m2 : Fr (· = G) V1 V2 := by rw [hV2]; exact (Fr.refl (· = G) _).set1 _ _
     obtain ⟨x, hx⟩ : ∃ x, x = zge A c k := ⟨_, rfl⟩
     have bx : Blk V2 G 50 (letA x) := by
      have h := bG.set_ 9 (.slice A k c)
      rw [← hV2] at h
      rw [hx]
      have e : letA (zge A c k) = (letA zag).setIfInBounds 9 (.slice A k c) := by
       have h9 : (List.replicate k e0M).length = k := List.length_replicate
       unfold zge
       simp only [letA, Ls.v, h9]
       rfl
      rw [e]
      exact h
     have hAG : ∀ j, inA A j → j ≠ G := fun j hj => by have := ho.lt j hj; have := q3.size; omega
     have ho2 := ho1.fr m2 (fun j hj e => hAG j hj e)
     have hin : za3 V2 (· < V2.heap.size) x := by rw [hx]; exact zlo (ho2.sl.mono fun j hj hl => hl) hcap
     have bd : zd1 x := by rw [hx]; exact zlQ hk
     have hXG : X ≠ G := by have := bX.lt; have := q3.size; omega
     have bX2 := (bX.fr (q3.tr q4) (fun h => h)).fr m2 (fun e => hXG e)
     have q2 : Nw W0 V2 := ((hq2.tr q3).tr q4).new m2 (fun j hj => by have := hq2.size; have := q3.size; omega)
     have lG := Blk.cells_at (l := letL x) bx 0
     have HV2 := Lib.hid hV2
     have HX := Lib.hid hx
     clear hV2 hx m2 bG bX ho1
     go_upto_region 24 with (fail)
     rw [← HV2.out]
     obtain ⟨P, hP⟩ : ∃ P, P = V2.heap.size := ⟨_, rfl⟩
     obtain ⟨V3, hV3⟩ : ∃ V, V = V2.alloc (.cells (letA x) 50) := ⟨_, rfl⟩
     have q5 : Nw V2 V3 := by rw [hV3]; exact (Fr.refl (fun _ => False) _).alloc _
     have sP : Sl V3 (· = P) (some ⟨P, 0, none⟩) (zai [x]) := by rw [hV3, hP]; exact zff V2 x
     have cput := zlN V3 P x sP bd ((hin.nw q5).mono fun j hj _ => Nat.lt_of_lt_of_le hj q5.size)
     have lG3 := Blk.cells_at (l := letL x) (bx.fr q5 (fun h => h)) 0
     have CP := Lib.hid cput
     have HP := Lib.hid hP
     have HV3 := Lib.hid hV3
     clear hP hV3 cput sP
     go_wp2_with (refine za5 rfl 50 _ rfl G 0 rfl (letL x) _ (by first | exact lG | (rw [HV3.out] at lG3; exact lG3)) Tryz.underlying50 rfl (by kernel_rfl) ?_)
     rw [← HP.out]
     rw [← HV3.out]
     refine CP.out.mono ?_
     rintro e w4 ⟨rfl, q6⟩
     clear CP HP HV3 lG lG3
     have q26 : Nw V2 w4 := q5.tr q6
     have ho4 := ho2.fr q26 (fun _ _ h => h)
     have bX4 := bX2.fr q26 (fun h => h)
     have lX := Blk.cells_at (l := entL e0M) bX4 0
     have sln := zaI w4 87 (entL e0M) _ rfl
     have qe : Nw w4 (w4.alloc (.cells (entA e0M) 87)) := (Fr.refl (fun _ => False) _).alloc _
     have hoa := ho4.fr qe (fun _ _ h => h)
     obtain ⟨V4, hV4⟩ : ∃ V, V = w4.alloc (.cells (entA e0M) 87) := ⟨_, rfl⟩
     rw [← hV4] at sln qe hoa
     have HV4 := Lib.hid hV4
     have hcl := zcC e0M
     have hrel : ∀ (A' : Option Addr) (cap' : Nat) (w5 : World), zaM V4 87 7 A k c 1 (zal (List.replicate k e0M)) (entL e0M) A' cap' w5 → zkw W0 X (.slice A' (k + 1) cap') (.int .i64 ((k : Int) + 1)) w5 := fun A' cap' w5 hap => by
      have hin := hap.inA_
      have q4e : Nw V2 V4 := q26.tr qe
      refine ⟨k + 1, A', cap', by omega, by go_num, rfl, ?_, fun j hj => ?_, (q2.tr q4e).new hap.fr (fun j hj => (hA j hj).1), (bX4.fr qe (fun h => h)).fr hap.fr (fun hj => (hA _ hj).2 rfl)⟩
      ·have e : zal (List.replicate (k + 1) e0M) = zal (List.replicate k e0M) ++ entL e0M := by
        rw [List.replicate_succ', zcx, zdW]
       rw [e]
       exact hap.1
      ·rcases hin j hj with h | h
       ·exact hA j h
       ·have h1 := q2.size
        have h2 := q4e.size
        have h3 := bX4.lt
        have h4 := qe.size
        omega
     have HREL := Lib.hid hrel
     clear hrel hV4 ho4 bX4 ho2 bX2 bx hin bd
     go_wp2_with (first | (refine za5 rfl 87 _ rfl X 0 rfl (entL e0M) _ lX Tryz.underlying87 rfl (by kernel_rfl) ?_) | (at_builtin; rw [← HV4.out]; refine zay rfl _ _ _ rfl 136 (.agg zE9A) Tryz.underlying43 zfs rfl (by decide) rfl hoa rfl sln rfl hcl (by omega) (by unfold maxLen; omega) ?_; intro A' cap' w5 hap))
     have HR2 := Lib.hid (HREL.out _ _ _ hap)
     clear hap
     go_wp2_with fail
     go_roundw
     case rel => exact HR2.out
     case measure => simp [intOf]; omega
    ·obtain rfl : k = 32 := by omega
     clear ho hA hcap
     go_upto_region 27 with (fail)
     rename_i hK27
     exact zlR W wr X bX (Q0.tr hq2) _ rfl _ hK27
end Go.Proofs.YtippdjaakcgeoaaGreat
