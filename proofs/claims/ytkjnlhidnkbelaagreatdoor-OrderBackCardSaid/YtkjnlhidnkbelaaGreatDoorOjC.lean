/- Orders: put, and got as they were, the law's walk. (Printed by genjc.py.) -/
import Derived.Test.YtkjnlhidnkbelaaGreatDoorOjA
import Derived.Deep.DeepCutAuto
namespace Go.Proofs.YtkjnlhidnkbelaaGreatDoor
open Go Go.RowKit
set_option linter.unusedVariables false
set_option linter.unusedSimpArgs false
theorem snoc_of {α : Type} (l : List α) (m : Nat) (h : l.length = m + 1) : ∃ a c, l = a ++ [c] ∧ a.length = m := by
  have hne : l ≠ [] := by rintro rfl; simp at h
  exact ⟨l.dropLast, l.getLast hne, (List.dropLast_concat_getLast hne).symm, by simp [h]⟩
/-- Bytes put are got as they were; with one less, or one more, they are none. -/
structure BackO (x : OrdF) (S : List UInt8) : Prop where
  yes : ordGet S = some x
  less : ∀ a c, S = a ++ [c] → ordGet a = none
  more : ∀ c, ordGet (S ++ [c]) = none
theorem backO {x : OrdF} (h : ordOk x = true) : BackO x (ordB x) := ⟨ordGet_of h, fun a c e => ordGet_less h a c e, fun c => ordGet_more h c⟩
structure BackA (x : AnsF) (S : List UInt8) : Prop where
  yes : ansGet S = some x
  less : ∀ a c, S = a ++ [c] → ansGet a = none
  more : ∀ c, ansGet (S ++ [c]) = none
theorem backA {x : AnsF} (h : ansOk x = true) : BackA x (ansB x) := ⟨ansGet_of h, fun a c e => ansGet_less h a c e, fun c => ansGet_more h c⟩
theorem ordB_most2 {x : OrdF} (h : ordOk x = true) : (ordB x).length ≤ 1000000 := by
  have hs := ordOk_sm h
  have h1 := encAll_le [x.kind, x.nm.1, x.nm.2, x.epoch]
  have h2 := encAll_le [x.scheme, x.stage, x.to]
  have h3 := rdgs_most x.reads (rdgOks_sm hs.reads.2)
  have h4 := enc_len x.reads.length
  have h5 := rowB_most x.bytes
  have h6 := hs.bytes
  have h7 := hs.reads.1
  have h8 := acts_most x.acts hs.acts_
  have h9 := hs.acts.1
  have h10 := enc_len x.acts.length
  have h11 := rowB_most x.lo
  have h12 := rowB_most x.hi
  have h13 := hs.lo
  have h14 := hs.hi
  unfold ordB
  simp only [List.length_append, List.length_cons, List.length_nil, flagB] at *
  omega
theorem ansSz_of {x : AnsF} (h : ansOk x = true) : AnsSz x := by
  have hs := ansOk_sm h
  refine ⟨⟨by have := hs.reads.1; omega, fun a ha => ?_⟩, by have := hs.bytes; omega⟩
  obtain ⟨h1, h2⟩ := rdgOk_len (hs.reads.2 a ha)
  exact ⟨by omega, by omega⟩
theorem region_meet_bool {b : Bool} : (b != b) = false := by cases b <;> rfl
/-- A piece of a function's code, by the way to it. -/
def pickC : List Bool → Code → Code
  | [], c => c
  | false :: p, .seq a _ => pickC p a
  | true :: p, .seq _ b => pickC p b
  | _ :: p, .block _ c => pickC p c
  | _ :: p, .scope c => pickC p c
  | _ :: p, .loop c => pickC p c
  | false :: p, .cond _ a _ => pickC p a
  | true :: p, .cond _ _ b => pickC p b
  | _, c => c
/-- The statement of the order. -/
noncomputable def blkC1 : Code := pickC [true, true, true, true, true, true, false, true] (Tryz.f4.body.getD .skip)
set_option maxRecDepth 1000000 in
/-- What holds where the statement ends. -/
def back_blk1J (w : World) (As : Option Addr) (X : Nat) (cs : Nat) (es : Int) (ns : Nat) (c0 c1 c2 c4 c5 c9 c10 c17 c18 c20 c22 c23 c24 c25 c26 c27 c28 c29 c30 : Value) (a' : Act) (w' : World) : Prop := ∃ u6 u11 u12 u13 u14 u15 u16 u19 u21 u31 u32 u33 u34 u35 u36 u37 u38 u39 u40 u41 u42 u43 u44 u45 u46 u47 u48 u49 u50 u51 u52 u53 u54 u55 u56 u57 u58 u59 u60 u61 u62 u63 u64 u65 u66 u67 u68 u69 u70 u71 u72 u73 u74 u75 u76 u77 u78 u79 u80 u81 u82 u83 u84 u85 u86 u87 u88 u89 u90 u91 u92 u93 u94 u95 u96 u97 u98 u99 u100 u101 u102 u103 u104 u105 u106 u107 u108 u109 u110 u111 u112 u113 u114 u115 u116 u117 u118 u119 u120 u121 u122 u123 u124 u125 u126 u127 u128 u129 u130 u131 u132 u133 u134 u135 u136 u137 u138 u139 u140 u141 u142 u143 u144 u145 u146 u147 u148 u149 u150 u151 u152 u153 u154 u155 u156 u157 u158 u159 u160 u161 u162 u163 u164 u165 u166 u167 u168 u169 u170 u171 u172 u173 u174 u175 u176 u177 u178 u179 u180 u181 u182 u183 u184 u185 u186 u187 u188 u189 u190 u191 u192 u193 u194 u195 u196 u197 u198 u199 u200 u201 u202 u203 u204 u205 u206 u207 u208 u209 u210 u211 u212 u213 u214 u215 u216 u217 : Value, Nw w w' ∧ a' = ⟨#[c0, c1, c2, Value.pointer (some ⟨X, 0, none⟩), c4, c5, u6, Value.slice As ns cs, Value.int .i64 es, c9, c10, u11, u12, u13, u14, u15, u16, c17, c18, u19, c20, u21, c22, c23, c24, c25, c26, c27, c28, c29, c30, u31, u32, u33, u34, u35, u36, u37, u38, u39, u40, u41, u42, u43, u44, u45, u46, u47, u48, u49, u50, u51, u52, u53, u54, u55, u56, u57, u58, u59, u60, u61, u62, u63, u64, u65, u66, u67, u68, u69, u70, u71, u72, u73, u74, u75, u76, u77, u78, u79, u80, u81, u82, u83, u84, u85, u86, u87, u88, u89, u90, u91, u92, u93, u94, u95, u96, u97, u98, u99, u100, u101, u102, u103, u104, u105, u106, u107, u108, u109, u110, u111, u112, u113, u114, u115, u116, u117, u118, u119, u120, u121, u122, u123, u124, u125, u126, u127, u128, u129, u130, u131, u132, u133, u134, u135, u136, u137, u138, u139, u140, u141, u142, u143, u144, u145, u146, u147, u148, u149, u150, u151, u152, u153, u154, u155, u156, u157, u158, u159, u160, u161, u162, u163, u164, u165, u166, u167, u168, u169, u170, u171, u172, u173, u174, u175, u176, u177, u178, u179, u180, u181, u182, u183, u184, u185, u186, u187, u188, u189, u190, u191, u192, u193, u194, u195, u196, u197, u198, u199, u200, u201, u202, u203, u204, u205, u206, u207, u208, u209, u210, u211, u212, u213, u214, u215, u216, u217], []⟩
set_option maxRecDepth 1000000 in
set_option maxHeartbeats 16000000 in
theorem back_blk1 (w8 : World) (F : Nat → Prop) (x : OrdF) (p : Pl) (hkd : 0 ≤ x.kind ∧ x.kind ≤ 255) (X Y : Nat) (As : Option Addr) (ns cs : Nat) (es : Int) (S : List UInt8) (ok : Bool) (os8 : Own w8 5 1 As ns cs (S.map B8)) (x8 : Blk w8 X 31 (ofA (U8V x.kind) x p)) (i8 : OrdIn w8 F x p) (hszx : OrdSz x) (HNS : Hid (S.length = ns)) (FX : Hid ((ok = true → es = 0 ∧ 1 ≤ ns ∧ ns ≤ 1000000 ∧ BackO x S) ∧ (ok = false → es = 2 ∧ ns = 0))) {c0 c1 c2 c4 c5 c6 c9 c10 c11 c12 c13 c14 c15 c16 c17 c18 c19 c20 c21 c22 c23 c24 c25 c26 c27 c28 c29 c30 c31 c32 c33 c34 c35 c36 c37 c38 c39 c40 c41 c42 c43 c44 c45 c46 c47 c48 c49 c50 c51 c52 c53 c54 c55 c56 c57 c58 c59 c60 c61 c62 c63 c64 c65 c66 c67 c68 c69 c70 c71 c72 c73 c74 c75 c76 c77 c78 c79 c80 c81 c82 c83 c84 c85 c86 c87 c88 c89 c90 c91 c92 c93 c94 c97 c98 c99 c100 c101 c102 c103 c104 c105 c106 c107 c108 c109 c110 c111 c112 c113 c114 c115 c116 c117 c118 c119 c120 c121 c122 c123 c124 c125 c126 c127 c128 c129 c130 c131 c132 c133 c134 c135 c136 c137 c138 c139 c140 c141 c142 c143 c144 c145 c146 c147 c148 c149 c150 c151 c152 c153 c154 c155 c156 c157 c158 c159 c160 c161 c162 c163 c164 c165 c166 c167 c168 c169 c170 c171 c172 c173 c174 c175 c176 c177 c178 c179 c180 c181 c182 c183 c184 c185 c186 c187 c188 c189 c190 c191 c192 c193 c194 c195 c196 c197 c198 c199 c200 c201 c202 c203 c204 c205 c206 c207 c208 c209 c210 c211 c212 c213 c214 c215 c216 c217 : Value} (J K' : Act → World → Prop) (Q' : Exit → Act → World → Prop)
    (hJ : ∀ a' w', back_blk1J w8 As X cs es ns c0 c1 c2 c4 c5 c9 c10 c17 c18 c20 c22 c23 c24 c25 c26 c27 c28 c29 c30 a' w' → J a' w') (hK : ∀ a' w', Met J a' w' → K' a' w') :
    Code.wp Tryz.prog blkC1 (Exit.then K' Q') ⟨#[c0, c1, c2, Value.pointer (some ⟨X, 0, none⟩), c4, c5, c6, Value.slice As ns cs, Value.int .i64 es, c9, c10, c11, c12, c13, c14, c15, c16, c17, c18, c19, c20, c21, c22, c23, c24, c25, c26, c27, c28, c29, c30, c31, c32, c33, c34, c35, c36, c37, c38, c39, c40, c41, c42, c43, c44, c45, c46, c47, c48, c49, c50, c51, c52, c53, c54, c55, c56, c57, c58, c59, c60, c61, c62, c63, c64, c65, c66, c67, c68, c69, c70, c71, c72, c73, c74, c75, c76, c77, c78, c79, c80, c81, c82, c83, c84, c85, c86, c87, c88, c89, c90, c91, c92, c93, c94, Value.int .i64 es, Value.bool (es == 0), c97, c98, c99, c100, c101, c102, c103, c104, c105, c106, c107, c108, c109, c110, c111, c112, c113, c114, c115, c116, c117, c118, c119, c120, c121, c122, c123, c124, c125, c126, c127, c128, c129, c130, c131, c132, c133, c134, c135, c136, c137, c138, c139, c140, c141, c142, c143, c144, c145, c146, c147, c148, c149, c150, c151, c152, c153, c154, c155, c156, c157, c158, c159, c160, c161, c162, c163, c164, c165, c166, c167, c168, c169, c170, c171, c172, c173, c174, c175, c176, c177, c178, c179, c180, c181, c182, c183, c184, c185, c186, c187, c188, c189, c190, c191, c192, c193, c194, c195, c196, c197, c198, c199, c200, c201, c202, c203, c204, c205, c206, c207, c208, c209, c210, c211, c212, c213, c214, c215, c216, c217], []⟩ w8 := by
  conv => arg 2; whnf
  cases ok with
  | false =>
    obtain ⟨rfl, rfl⟩ := FX.out.2 rfl
    go_wp2_with fail
    refine Met.intro (hJ _ _ ?_)
    unfold back_blk1J
    (repeat apply Exists.intro)
    exact ⟨Fr.refl _ _, rfl⟩
  | true =>
    obtain ⟨rfl, hn1, hn2, hbk⟩ := FX.out.1 rfl
    obtain ⟨m, hm⟩ : ∃ m, ns = m + 1 := ⟨ns - 1, by omega⟩
    obtain ⟨S1, ch, hS1, hS1l⟩ := snoc_of S m (by rw [HNS.out, hm])
    have g1 : ∀ w', Nw w8 w' → Calls Tryz.prog 16 #[.slice As ns cs] w' fun e w'' => ∃ p', e = .returned (.tuple #[.agg (ofA (U8V x.kind) x p'), .int .i64 0]) ∧ OrdOwn w' w'' x p' ∧ Nw w' w'' := fun w' f => by
      have h := oget2 w' _ As cs S (os8.sl.fr f (fun _ _ h => h)) (by rw [HNS.out]; omega)
      rw [HNS.out, hbk.yes] at h
      exact h
    have g2 : ∀ w', Nw w8 w' → Calls Tryz.prog 16 #[.slice As m cs] w' fun e w'' => ∃ p', e = .returned (.tuple #[.agg (ofA (U8V (ordZ 0).kind) (ordZ 0) p'), .int .i64 4]) ∧ Nw w' w'' := fun w' f => by
      have hsl := (os8.sl.fr f (fun _ _ h => h)).pre (k := m)
      rw [hS1, List.map_append, List.take_left' (by rw [List.length_map]; exact hS1l)] at hsl
      have h := oget2 w' _ As cs S1 hsl (by omega)
      rw [hS1l, hbk.less S1 ch hS1] at h
      exact h.mono fun e w'' ⟨p', h1, _, h2⟩ => ⟨p', h1, h2⟩
    have g3 : ∀ w' (F' : Nat → Prop) A' c', Sl w' F' A' ((S ++ [0]).map B8) → Calls Tryz.prog 16 #[.slice A' (ns + 1) c'] w' fun e w'' => ∃ p', e = .returned (.tuple #[.agg (ofA (U8V (ordZ 0).kind) (ordZ 0) p'), .int .i64 4]) ∧ Nw w' w'' := fun w' F' A' c' hsl => by
      have h := oget2 w' _ A' c' (S ++ [0]) hsl (by rw [List.length_append, HNS.out]; simp; omega)
      rw [List.length_append, HNS.out, hbk.more 0] at h
      exact h.mono fun e w'' ⟨p', h1, _, h2⟩ => ⟨p', h1, h2⟩
    have hcp := fun w' (f : Nw w8 w') => copy_u8 w' _ As cs S (os8.sl.fr f (fun _ _ h => h)) (by rw [HNS.out]; omega)
    simp only [HNS.out] at hcp
    have hcap := os8.cap_le
    have hsl0 := slice_h (P := Tryz.prog) 22 under_bytes 1 size_bytes As ns cs m (by omega)
    have hsl1 : ∀ w, (Instr.slice 22 (.slice As ns cs) none (some (.int .i64 ((ns : Int) - 1))) none).run Tryz.prog w = .ok (.slice As m cs) w := fun w => by
      rw [show ((ns : Int) - 1) = (m : Int) by omega]
      exact hsl0 w
    have G1 := Lib.hid g1
    have G2 := Lib.hid g2
    have G3 := Lib.hid g3
    have HCP := Lib.hid hcp
    have HM := Lib.hid hm
    clear g1 g2 g3 hcp hsl0 hS1 hS1l hbk hm
    go_upto_region 11 with (go_at_call 16; refine (G1.out _ (Fr.refl _ _)).mono ?_; rintro e w9 ⟨pz, rfl, oz, q9⟩)
    obtain ⟨Z, hZ⟩ : ∃ Z, Z = w9.heap.size := ⟨_, rfl⟩
    obtain ⟨V9, hV9⟩ : ∃ V, V = w9.alloc (.cells (ofA (U8V x.kind) x pz) 31) := ⟨_, rfl⟩
    have qv9 : Nw w9 V9 := by rw [hV9]; exact (Fr.refl (fun _ => False) _).alloc _
    have zb9 : Blk V9 Z 31 (ofA (U8V x.kind) x pz) := by rw [hV9, hZ]; exact Blk.new _ _ _
    have HZ := Lib.hid hZ
    have HV9 := Lib.hid hV9
    rw [← HZ.out, ← HV9.out]
    clear hZ hV9
    have u9 := q9.tr qv9
    go_upto_region 12 with (go_at_call 16; refine (G2.out _ u9).mono ?_; rintro e w10 ⟨pl, rfl, q10⟩)
    obtain ⟨V10, hV10⟩ : ∃ V, V = w10.alloc (.cells (ofA (U8V (ordZ 0).kind) (ordZ 0) pl) 31) := ⟨_, rfl⟩
    have u10 : Nw V9 V10 := by rw [hV10]; exact q10.alloc _
    have HV10 := Lib.hid hV10
    rw [← HV10.out]
    clear hV10 hsl1
    go_upto_region 13 with (first | (go_at_call 17; refine (HCP.out _ (u9.tr u10)).mono ?_; rintro e w11 ⟨Ac, cc, rfl, occ, q11, nc⟩) | (at_builtin; refine wl_append2 rfl _ _ _ rfl 1 (.int .u8 0) Tryz.underlying22 info_u8 rfl (by decide) rfl (occ.alloc _) rfl (sl_new w11 5 [.int .u8 0] _ rfl) rfl (by intro u hu; rw [List.mem_singleton.1 hu]; rfl) (by omega) (by unfold maxLen; omega) ?_; intro A12 c12 w12 hap; obtain ⟨o12, q12, n12⟩ := hap.newOwn (q11.alloc _) nc; have s12 : Sl w12 (inA A12) A12 ((S ++ [0]).map B8) := (by have h := o12.sl; rwa [show S.map B8 ++ [Value.int .u8 0] = (S ++ [0]).map B8 from by rw [List.map_append]; rfl] at h)) | (go_at_call 16; refine (G3.out _ _ _ _ s12).mono ?_; rintro e w13 ⟨pm, rfl, q13⟩))
    obtain ⟨V13, hV13⟩ : ∃ V, V = w13.alloc (.cells (ofA (U8V (ordZ 0).kind) (ordZ 0) pm) 31) := ⟨_, rfl⟩
    have u13 : Nw V10 V13 := by rw [hV13]; exact (q12.tr q13).alloc _
    have HV13 := Lib.hid hV13
    rw [← HV13.out]
    clear hV13
    have u9d : Nw V9 V13.drew := (u10.tr u13).drew
    have u8d : Nw w8 V13.drew := u9.tr u9d
    have hSS : ∀ wz, Nw V13.drew wz → wz.cell? ⟨X, 0, none⟩ = some (U8V x.kind) ∧ wz.cell? ⟨X, 1, none⟩ = some (I64 x.nm.1) ∧ wz.cell? ⟨X, 2, none⟩ = some (I64 x.nm.2) ∧ wz.cell? ⟨X, 3, none⟩ = some (I64 x.epoch) ∧ wz.cell? ⟨X, 4, none⟩ = some (.slice p.a x.acts.length p.ca) ∧ wz.cell? ⟨X, 5, none⟩ = some (.bool x.commit) ∧ wz.cell? ⟨X, 6, none⟩ = some (.slice p.r x.reads.length p.cr) ∧ wz.cell? ⟨X, 7, none⟩ = some (I64 x.scheme) ∧ wz.cell? ⟨X, 8, none⟩ = some (I64 x.stage) ∧ wz.cell? ⟨X, 9, none⟩ = some (I64 x.to) ∧ wz.cell? ⟨X, 10, none⟩ = some (StrV x.lo) ∧ wz.cell? ⟨X, 11, none⟩ = some (StrV x.hi) ∧ wz.cell? ⟨X, 12, none⟩ = some (.slice p.b x.bytes.length p.cb) ∧ wz.cell? ⟨Z, 0, none⟩ = some (U8V x.kind) ∧ wz.cell? ⟨Z, 1, none⟩ = some (I64 x.nm.1) ∧ wz.cell? ⟨Z, 2, none⟩ = some (I64 x.nm.2) ∧ wz.cell? ⟨Z, 3, none⟩ = some (I64 x.epoch) ∧ wz.cell? ⟨Z, 4, none⟩ = some (.slice pz.a x.acts.length pz.ca) ∧ wz.cell? ⟨Z, 5, none⟩ = some (.bool x.commit) ∧ wz.cell? ⟨Z, 6, none⟩ = some (.slice pz.r x.reads.length pz.cr) ∧ wz.cell? ⟨Z, 7, none⟩ = some (I64 x.scheme) ∧ wz.cell? ⟨Z, 8, none⟩ = some (I64 x.stage) ∧ wz.cell? ⟨Z, 9, none⟩ = some (I64 x.to) ∧ wz.cell? ⟨Z, 10, none⟩ = some (StrV x.lo) ∧ wz.cell? ⟨Z, 11, none⟩ = some (StrV x.hi) ∧ wz.cell? ⟨Z, 12, none⟩ = some (.slice pz.b x.bytes.length pz.cb) := fun wz f => by
      have a := x8.fr (u8d.tr f) (fun h => h)
      have b := zb9.fr (u9d.tr f) (fun h => h)
      exact ⟨by simpa using a.cell 0, by simpa using a.cell 1, by simpa using a.cell 2, by simpa using a.cell 3, by simpa using a.cell 4, by simpa using a.cell 5, by simpa using a.cell 6, by simpa using a.cell 7, by simpa using a.cell 8, by simpa using a.cell 9, by simpa using a.cell 10, by simpa using a.cell 11, by simpa using a.cell 12, by simpa using b.cell 0, by simpa using b.cell 1, by simpa using b.cell 2, by simpa using b.cell 3, by simpa using b.cell 4, by simpa using b.cell 5, by simpa using b.cell 6, by simpa using b.cell 7, by simpa using b.cell 8, by simpa using b.cell 9, by simpa using b.cell 10, by simpa using b.cell 11, by simpa using b.cell 12⟩
    have l7 : ∀ wz, Nw V13.drew wz → Calls Tryz.prog 18 #[.agg (ofA (I64 x.kind) x pz), .agg (ofA (I64 x.kind) x p)] wz fun e w' => e = .returned (.bool true) ∧ Nw wz w' := fun wz f => by
      have f9 : Nw w9 wz := qv9.tr (u9d.tr f)
      have f8 : Nw w8 wz := u8d.tr f
      exact (rsame_any wz _ _ x x pz p (oz.in_.fr f9 (fun _ _ h => h)) (i8.fr f8 (fun _ _ h => h)) hszx).mono fun e w' h => ⟨by simpa using h.1, h.2⟩
    have hlast : Lasts ([] : List Fact) := fun f hf => by cases hf
    clear G1 G2 G3 HCP zb9 oz
    refine wp_region_eff2 (RfC V13.drew []) (fun _ => (0, none)) (by kernel_rfl) (by kernel_rfl) ⟨Fr.refl _ _, fun _ _ h => by cases h⟩ ?_
    apply wpEff2_cons
    focus
      intro B L wz hL hD hC
      refine .inl ⟨by rfl, ?_⟩
      obtain ⟨y_0, y_1, y_2, y_3, y_4, y_5, y_6, y_7, y_8, y_9, y_10, y_11, y_12, n_0, n_1, n_2, n_3, n_4, n_5, n_6, n_7, n_8, n_9, n_10, n_11, n_12⟩ := hSS wz hC.nw
      unfold effAt
      go_simp
      exact ⟨rfl, hC.keep _ (by rfl)⟩
    simp only [Act.put, List.setIfInBounds_toArray, List.set_cons_zero, List.set_cons_succ]
    apply wpEff2_cons
    focus
      intro B L wz hL hD hC
      refine .inl ⟨by rfl, ?_⟩
      obtain ⟨y_0, y_1, y_2, y_3, y_4, y_5, y_6, y_7, y_8, y_9, y_10, y_11, y_12, n_0, n_1, n_2, n_3, n_4, n_5, n_6, n_7, n_8, n_9, n_10, n_11, n_12⟩ := hSS wz hC.nw
      unfold effAt
      go_simp
      exact ⟨rfl, hC.keep _ (by rfl)⟩
    simp only [Act.put, List.setIfInBounds_toArray, List.set_cons_zero, List.set_cons_succ]
    apply wpEff2_cons
    focus
      intro B L wz hL hD hC
      refine .inl ⟨by rfl, ?_⟩
      obtain ⟨y_0, y_1, y_2, y_3, y_4, y_5, y_6, y_7, y_8, y_9, y_10, y_11, y_12, n_0, n_1, n_2, n_3, n_4, n_5, n_6, n_7, n_8, n_9, n_10, n_11, n_12⟩ := hSS wz hC.nw
      unfold effAt
      go_simp
      exact ⟨rfl, hC.keep _ (by rfl)⟩
    simp only [Act.put, List.setIfInBounds_toArray, List.set_cons_zero, List.set_cons_succ]
    apply wpEff2_cons
    focus
      intro B L wz hL hD hC
      refine .inl ⟨by rfl, ?_⟩
      obtain ⟨y_0, y_1, y_2, y_3, y_4, y_5, y_6, y_7, y_8, y_9, y_10, y_11, y_12, n_0, n_1, n_2, n_3, n_4, n_5, n_6, n_7, n_8, n_9, n_10, n_11, n_12⟩ := hSS wz hC.nw
      unfold effAt
      go_simp
      exact ⟨rfl, hC.keep _ (by rfl)⟩
    simp only [Act.put, List.setIfInBounds_toArray, List.set_cons_zero, List.set_cons_succ]
    apply wpEff2_cons
    focus
      intro B L wz hL hD hC
      have hnw := hC.nw
      refine .inl ⟨by rfl, ?_⟩
      unfold effAt
      go_simp
      refine (turned22_any wz x pz hkd).mono ?_
      rintro e w9 ⟨rfl, q9⟩
      exact ⟨rfl, (hC.go hlast q9).keep _ (by rfl)⟩
    simp only [Act.put, List.setIfInBounds_toArray, List.set_cons_zero, List.set_cons_succ]
    apply wpEff2_cons
    focus
      intro B L wz hL hD hC
      refine .inl ⟨by rfl, ?_⟩
      obtain ⟨y_0, y_1, y_2, y_3, y_4, y_5, y_6, y_7, y_8, y_9, y_10, y_11, y_12, n_0, n_1, n_2, n_3, n_4, n_5, n_6, n_7, n_8, n_9, n_10, n_11, n_12⟩ := hSS wz hC.nw
      unfold effAt
      go_simp
      exact ⟨rfl, hC.keep _ (by rfl)⟩
    simp only [Act.put, List.setIfInBounds_toArray, List.set_cons_zero, List.set_cons_succ]
    apply wpEff2_cons
    focus
      intro B L wz hL hD hC
      have hnw := hC.nw
      refine .inl ⟨by rfl, ?_⟩
      unfold effAt
      go_simp
      refine (turned22_any wz x p hkd).mono ?_
      rintro e w9 ⟨rfl, q9⟩
      exact ⟨rfl, (hC.go hlast q9).keep _ (by rfl)⟩
    simp only [Act.put, List.setIfInBounds_toArray, List.set_cons_zero, List.set_cons_succ]
    apply wpEff2_cons
    focus
      intro B L wz hL hD hC
      have hnw := hC.nw
      refine .inl ⟨by rfl, ?_⟩
      unfold effAt
      go_simp
      refine (l7 wz hnw).mono ?_
      rintro e w9 ⟨rfl, q9⟩
      exact ⟨rfl, (hC.go hlast q9).keep _ (by rfl)⟩
    simp only [Act.put, List.setIfInBounds_toArray, List.set_cons_zero, List.set_cons_succ]
    apply wpEff2_cons
    focus
      intro B L wz hL hD hC
      refine .inl ⟨by rfl, ?_⟩
      obtain ⟨y_0, y_1, y_2, y_3, y_4, y_5, y_6, y_7, y_8, y_9, y_10, y_11, y_12, n_0, n_1, n_2, n_3, n_4, n_5, n_6, n_7, n_8, n_9, n_10, n_11, n_12⟩ := hSS wz hC.nw
      unfold effAt
      go_simp
      exact ⟨rfl, hC.keep _ (by rfl)⟩
    simp only [Act.put, List.setIfInBounds_toArray, List.set_cons_zero, List.set_cons_succ]
    apply wpEff2_cons
    focus
      intro B L wz hL hD hC
      refine .inl ⟨by rfl, ?_⟩
      obtain ⟨y_0, y_1, y_2, y_3, y_4, y_5, y_6, y_7, y_8, y_9, y_10, y_11, y_12, n_0, n_1, n_2, n_3, n_4, n_5, n_6, n_7, n_8, n_9, n_10, n_11, n_12⟩ := hSS wz hC.nw
      unfold effAt
      go_simp
      exact ⟨rfl, hC.keep _ (by rfl)⟩
    simp only [Act.put, List.setIfInBounds_toArray, List.set_cons_zero, List.set_cons_succ]
    apply wpEff2_cons
    focus
      intro B L wz hL hD hC
      refine .inl ⟨by rfl, ?_⟩
      obtain ⟨y_0, y_1, y_2, y_3, y_4, y_5, y_6, y_7, y_8, y_9, y_10, y_11, y_12, n_0, n_1, n_2, n_3, n_4, n_5, n_6, n_7, n_8, n_9, n_10, n_11, n_12⟩ := hSS wz hC.nw
      unfold effAt
      go_simp
      exact ⟨rfl, hC.keep _ (by rfl)⟩
    simp only [Act.put, List.setIfInBounds_toArray, List.set_cons_zero, List.set_cons_succ]
    apply wpEff2_cons
    focus
      intro B L wz hL hD hC
      refine .inl ⟨by rfl, ?_⟩
      obtain ⟨y_0, y_1, y_2, y_3, y_4, y_5, y_6, y_7, y_8, y_9, y_10, y_11, y_12, n_0, n_1, n_2, n_3, n_4, n_5, n_6, n_7, n_8, n_9, n_10, n_11, n_12⟩ := hSS wz hC.nw
      unfold effAt
      go_simp
      exact ⟨rfl, hC.keep _ (by rfl)⟩
    simp only [Act.put, List.setIfInBounds_toArray, List.set_cons_zero, List.set_cons_succ]
    apply wpEff2_cons
    focus
      intro B L wz hL hD hC
      refine .inl ⟨by rfl, ?_⟩
      obtain ⟨y_0, y_1, y_2, y_3, y_4, y_5, y_6, y_7, y_8, y_9, y_10, y_11, y_12, n_0, n_1, n_2, n_3, n_4, n_5, n_6, n_7, n_8, n_9, n_10, n_11, n_12⟩ := hSS wz hC.nw
      unfold effAt
      go_simp
      exact ⟨rfl, hC.keep _ (by rfl)⟩
    simp only [Act.put, List.setIfInBounds_toArray, List.set_cons_zero, List.set_cons_succ]
    apply wpEff2_cons
    focus
      intro B L wz hL hD hC
      refine .inl ⟨by rfl, ?_⟩
      obtain ⟨y_0, y_1, y_2, y_3, y_4, y_5, y_6, y_7, y_8, y_9, y_10, y_11, y_12, n_0, n_1, n_2, n_3, n_4, n_5, n_6, n_7, n_8, n_9, n_10, n_11, n_12⟩ := hSS wz hC.nw
      unfold effAt
      go_simp
      exact ⟨rfl, hC.keep _ (by rfl)⟩
    simp only [Act.put, List.setIfInBounds_toArray, List.set_cons_zero, List.set_cons_succ]
    apply wpEff2_cons
    focus
      intro B L wz hL hD hC
      refine .inl ⟨by rfl, ?_⟩
      obtain ⟨y_0, y_1, y_2, y_3, y_4, y_5, y_6, y_7, y_8, y_9, y_10, y_11, y_12, n_0, n_1, n_2, n_3, n_4, n_5, n_6, n_7, n_8, n_9, n_10, n_11, n_12⟩ := hSS wz hC.nw
      unfold effAt
      go_simp
      exact ⟨rfl, hC.keep _ (by rfl)⟩
    simp only [Act.put, List.setIfInBounds_toArray, List.set_cons_zero, List.set_cons_succ]
    apply wpEff2_cons
    focus
      intro B L wz hL hD hC
      refine .inl ⟨by rfl, ?_⟩
      obtain ⟨y_0, y_1, y_2, y_3, y_4, y_5, y_6, y_7, y_8, y_9, y_10, y_11, y_12, n_0, n_1, n_2, n_3, n_4, n_5, n_6, n_7, n_8, n_9, n_10, n_11, n_12⟩ := hSS wz hC.nw
      unfold effAt
      go_simp
      exact ⟨rfl, hC.keep _ (by rfl)⟩
    simp only [Act.put, List.setIfInBounds_toArray, List.set_cons_zero, List.set_cons_succ]
    apply wpEff2_cons
    focus
      intro B L wz hL hD hC
      refine .inl ⟨by rfl, ?_⟩
      obtain ⟨y_0, y_1, y_2, y_3, y_4, y_5, y_6, y_7, y_8, y_9, y_10, y_11, y_12, n_0, n_1, n_2, n_3, n_4, n_5, n_6, n_7, n_8, n_9, n_10, n_11, n_12⟩ := hSS wz hC.nw
      unfold effAt
      go_simp
      exact ⟨rfl, hC.keep _ (by rfl)⟩
    simp only [Act.put, List.setIfInBounds_toArray, List.set_cons_zero, List.set_cons_succ]
    apply wpEff2_cons
    focus
      intro B L wz hL hD hC
      refine .inl ⟨by rfl, ?_⟩
      obtain ⟨y_0, y_1, y_2, y_3, y_4, y_5, y_6, y_7, y_8, y_9, y_10, y_11, y_12, n_0, n_1, n_2, n_3, n_4, n_5, n_6, n_7, n_8, n_9, n_10, n_11, n_12⟩ := hSS wz hC.nw
      unfold effAt
      go_simp
      exact ⟨rfl, hC.keep _ (by rfl)⟩
    simp only [Act.put, List.setIfInBounds_toArray, List.set_cons_zero, List.set_cons_succ]
    refine wpEff2_nil fun B wz hC5 => ?_
    have hnw := hC5.nw
    go_wp2_with fail
    refine Met.intro (hJ _ _ ?_)
    unfold back_blk1J
    (repeat apply Exists.intro)
    exact ⟨u8d.tr hnw, rfl⟩
/-- The statement of the answer. -/
noncomputable def blkC2 : Code := pickC [true, true, true, true, true, true, true, false, true] (Tryz.f4.body.getD .skip)
set_option maxRecDepth 1000000 in
/-- What holds where the statement ends. -/
def back_blk2J (w : World) (At : Option Addr) (Y : Nat) (ct : Nat) (et : Int) (nt : Nat) (c0 c1 c2 c3 c5 c7 c8 c11 c12 c14 c16 c23 c24 c25 c26 c27 c28 c29 c30 : Value) (a' : Act) (w' : World) : Prop := ∃ u6 u13 u15 u17 u18 u19 u20 u21 u22 u31 u32 u33 u34 u35 u36 u37 u38 u39 u40 u41 u42 u43 u44 u45 u46 u47 u48 u49 u50 u51 u52 u53 u54 u55 u56 u57 u58 u59 u60 u61 u62 u63 u64 u65 u66 u67 u68 u69 u70 u71 u72 u73 u74 u75 u76 u77 u78 u79 u80 u81 u82 u83 u84 u85 u86 u87 u88 u89 u90 u91 u92 u93 u94 u95 u96 u97 u98 u99 u100 u101 u102 u103 u104 u105 u106 u107 u108 u109 u110 u111 u112 u113 u114 u115 u116 u117 u118 u119 u120 u121 u122 u123 u124 u125 u126 u127 u128 u129 u130 u131 u132 u133 u134 u135 u136 u137 u138 u139 u140 u141 u142 u143 u144 u145 u146 u147 u148 u149 u150 u151 u152 u153 u154 u155 u156 u157 u158 u159 u160 u161 u162 u163 u164 u165 u166 u167 u168 u169 u170 u171 u172 u173 u174 u175 u176 u177 u178 u179 u180 u181 u182 u183 u184 u185 u186 u187 u188 u189 u190 u191 u192 u193 u194 u195 u196 u197 u198 u199 u200 u201 u202 u203 u204 u205 u206 u207 u208 u209 u210 u211 u212 u213 u214 u215 u216 u217 : Value, Nw w w' ∧ a' = ⟨#[c0, c1, c2, c3, Value.pointer (some ⟨Y, 0, none⟩), c5, u6, c7, c8, Value.slice At nt ct, Value.int .i64 et, c11, c12, u13, c14, u15, c16, u17, u18, u19, u20, u21, u22, c23, c24, c25, c26, c27, c28, c29, c30, u31, u32, u33, u34, u35, u36, u37, u38, u39, u40, u41, u42, u43, u44, u45, u46, u47, u48, u49, u50, u51, u52, u53, u54, u55, u56, u57, u58, u59, u60, u61, u62, u63, u64, u65, u66, u67, u68, u69, u70, u71, u72, u73, u74, u75, u76, u77, u78, u79, u80, u81, u82, u83, u84, u85, u86, u87, u88, u89, u90, u91, u92, u93, u94, u95, u96, u97, u98, u99, u100, u101, u102, u103, u104, u105, u106, u107, u108, u109, u110, u111, u112, u113, u114, u115, u116, u117, u118, u119, u120, u121, u122, u123, u124, u125, u126, u127, u128, u129, u130, u131, u132, u133, u134, u135, u136, u137, u138, u139, u140, u141, u142, u143, u144, u145, u146, u147, u148, u149, u150, u151, u152, u153, u154, u155, u156, u157, u158, u159, u160, u161, u162, u163, u164, u165, u166, u167, u168, u169, u170, u171, u172, u173, u174, u175, u176, u177, u178, u179, u180, u181, u182, u183, u184, u185, u186, u187, u188, u189, u190, u191, u192, u193, u194, u195, u196, u197, u198, u199, u200, u201, u202, u203, u204, u205, u206, u207, u208, u209, u210, u211, u212, u213, u214, u215, u216, u217], []⟩
set_option maxRecDepth 1000000 in
set_option maxHeartbeats 16000000 in
theorem back_blk2 (w9x : World) (F : Nat → Prop) (y : AnsF) (q : Pl) (X Y : Nat) (At : Option Addr) (nt ct : Nat) (et : Int) (T : List UInt8) (ak : Bool) (ot9 : Own w9x 5 1 At nt ct (T.map B8)) (y9 : Blk w9x Y 41 (afA y q)) (j9 : AnsIn w9x F y q) (hszy : AnsSz y) (HNT : Hid (T.length = nt)) (FY : Hid ((ak = true → et = 0 ∧ 1 ≤ nt ∧ nt ≤ 1000000 ∧ BackA y T) ∧ (ak = false → et = 2 ∧ nt = 0))) {c0 c1 c2 c3 c5 c6 c7 c8 c11 c12 c13 c14 c15 c16 c17 c18 c19 c20 c21 c22 c23 c24 c25 c26 c27 c28 c29 c30 c31 c32 c33 c34 c35 c36 c37 c38 c39 c40 c41 c42 c43 c44 c45 c46 c47 c48 c49 c50 c51 c52 c53 c54 c55 c56 c57 c58 c59 c60 c61 c62 c63 c64 c65 c66 c67 c68 c69 c70 c71 c72 c73 c74 c75 c76 c77 c78 c79 c80 c81 c82 c83 c84 c85 c86 c87 c88 c89 c90 c91 c92 c93 c94 c95 c96 c97 c98 c99 c100 c101 c102 c103 c104 c105 c106 c107 c108 c109 c110 c111 c112 c113 c114 c115 c116 c117 c118 c119 c120 c121 c122 c123 c124 c125 c126 c127 c128 c129 c130 c131 c132 c133 c134 c135 c136 c139 c140 c141 c142 c143 c144 c145 c146 c147 c148 c149 c150 c151 c152 c153 c154 c155 c156 c157 c158 c159 c160 c161 c162 c163 c164 c165 c166 c167 c168 c169 c170 c171 c172 c173 c174 c175 c176 c177 c178 c179 c180 c181 c182 c183 c184 c185 c186 c187 c188 c189 c190 c191 c192 c193 c194 c195 c196 c197 c198 c199 c200 c201 c202 c203 c204 c205 c206 c207 c208 c209 c210 c211 c212 c213 c214 c215 c216 c217 : Value} (J K' : Act → World → Prop) (Q' : Exit → Act → World → Prop)
    (hJ : ∀ a' w', back_blk2J w9x At Y ct et nt c0 c1 c2 c3 c5 c7 c8 c11 c12 c14 c16 c23 c24 c25 c26 c27 c28 c29 c30 a' w' → J a' w') (hK : ∀ a' w', Met J a' w' → K' a' w') :
    Code.wp Tryz.prog blkC2 (Exit.then K' Q') ⟨#[c0, c1, c2, c3, Value.pointer (some ⟨Y, 0, none⟩), c5, c6, c7, c8, Value.slice At nt ct, Value.int .i64 et, c11, c12, c13, c14, c15, c16, c17, c18, c19, c20, c21, c22, c23, c24, c25, c26, c27, c28, c29, c30, c31, c32, c33, c34, c35, c36, c37, c38, c39, c40, c41, c42, c43, c44, c45, c46, c47, c48, c49, c50, c51, c52, c53, c54, c55, c56, c57, c58, c59, c60, c61, c62, c63, c64, c65, c66, c67, c68, c69, c70, c71, c72, c73, c74, c75, c76, c77, c78, c79, c80, c81, c82, c83, c84, c85, c86, c87, c88, c89, c90, c91, c92, c93, c94, c95, c96, c97, c98, c99, c100, c101, c102, c103, c104, c105, c106, c107, c108, c109, c110, c111, c112, c113, c114, c115, c116, c117, c118, c119, c120, c121, c122, c123, c124, c125, c126, c127, c128, c129, c130, c131, c132, c133, c134, c135, c136, Value.int .i64 et, Value.bool (et == 0), c139, c140, c141, c142, c143, c144, c145, c146, c147, c148, c149, c150, c151, c152, c153, c154, c155, c156, c157, c158, c159, c160, c161, c162, c163, c164, c165, c166, c167, c168, c169, c170, c171, c172, c173, c174, c175, c176, c177, c178, c179, c180, c181, c182, c183, c184, c185, c186, c187, c188, c189, c190, c191, c192, c193, c194, c195, c196, c197, c198, c199, c200, c201, c202, c203, c204, c205, c206, c207, c208, c209, c210, c211, c212, c213, c214, c215, c216, c217], []⟩ w9x := by
  conv => arg 2; whnf
  cases ak with
  | false =>
    obtain ⟨rfl, rfl⟩ := FY.out.2 rfl
    go_wp2_with fail
    refine Met.intro (hJ _ _ ?_)
    unfold back_blk2J
    (repeat apply Exists.intro)
    exact ⟨Fr.refl _ _, rfl⟩
  | true =>
    obtain ⟨rfl, hn1, hn2, hbk⟩ := FY.out.1 rfl
    obtain ⟨m, hm⟩ : ∃ m, nt = m + 1 := ⟨nt - 1, by omega⟩
    obtain ⟨S1, ch, hS1, hS1l⟩ := snoc_of T m (by rw [HNT.out, hm])
    have g1 : ∀ w', Nw w9x w' → Calls Tryz.prog 20 #[.slice At nt ct] w' fun e w'' => ∃ p', e = .returned (.tuple #[.agg (afA y p'), .int .i64 0]) ∧ AnsOwn w' w'' y p' ∧ Nw w' w'' := fun w' f => by
      have h := ogetAns2 w' _ At ct T (ot9.sl.fr f (fun _ _ h => h)) (by rw [HNT.out]; omega)
      rw [HNT.out, hbk.yes] at h
      exact h
    have g2 : ∀ w', Nw w9x w' → Calls Tryz.prog 20 #[.slice At m ct] w' fun e w'' => ∃ p', e = .returned (.tuple #[.agg (afA ansZ p'), .int .i64 4]) ∧ Nw w' w'' := fun w' f => by
      have hsl := (ot9.sl.fr f (fun _ _ h => h)).pre (k := m)
      rw [hS1, List.map_append, List.take_left' (by rw [List.length_map]; exact hS1l)] at hsl
      have h := ogetAns2 w' _ At ct S1 hsl (by omega)
      rw [hS1l, hbk.less S1 ch hS1] at h
      exact h.mono fun e w'' ⟨p', h1, _, h2⟩ => ⟨p', h1, h2⟩
    have g3 : ∀ w' (F' : Nat → Prop) A' c', Sl w' F' A' ((T ++ [0]).map B8) → Calls Tryz.prog 20 #[.slice A' (nt + 1) c'] w' fun e w'' => ∃ p', e = .returned (.tuple #[.agg (afA ansZ p'), .int .i64 4]) ∧ Nw w' w'' := fun w' F' A' c' hsl => by
      have h := ogetAns2 w' _ A' c' (T ++ [0]) hsl (by rw [List.length_append, HNT.out]; simp; omega)
      rw [List.length_append, HNT.out, hbk.more 0] at h
      exact h.mono fun e w'' ⟨p', h1, _, h2⟩ => ⟨p', h1, h2⟩
    have hcp := fun w' (f : Nw w9x w') => copy_u8 w' _ At ct T (ot9.sl.fr f (fun _ _ h => h)) (by rw [HNT.out]; omega)
    simp only [HNT.out] at hcp
    have hcap := ot9.cap_le
    have hsl0 := slice_h (P := Tryz.prog) 22 under_bytes 1 size_bytes At nt ct m (by omega)
    have hsl1 : ∀ w, (Instr.slice 22 (.slice At nt ct) none (some (.int .i64 ((nt : Int) - 1))) none).run Tryz.prog w = .ok (.slice At m ct) w := fun w => by
      rw [show ((nt : Int) - 1) = (m : Int) by omega]
      exact hsl0 w
    have G1 := Lib.hid g1
    have G2 := Lib.hid g2
    have G3 := Lib.hid g3
    have HCP := Lib.hid hcp
    have HM := Lib.hid hm
    clear g1 g2 g3 hcp hsl0 hS1 hS1l hbk hm
    go_upto_region 17 with (go_at_call 20; refine (G1.out _ (Fr.refl _ _)).mono ?_; rintro e w9 ⟨pz, rfl, oz, q9⟩)
    obtain ⟨Z, hZ⟩ : ∃ Z, Z = w9.heap.size := ⟨_, rfl⟩
    obtain ⟨V9, hV9⟩ : ∃ V, V = w9.alloc (.cells (afA y pz) 41) := ⟨_, rfl⟩
    have qv9 : Nw w9 V9 := by rw [hV9]; exact (Fr.refl (fun _ => False) _).alloc _
    have zb9 : Blk V9 Z 41 (afA y pz) := by rw [hV9, hZ]; exact Blk.new _ _ _
    have HZ := Lib.hid hZ
    have HV9 := Lib.hid hV9
    rw [← HZ.out, ← HV9.out]
    clear hZ hV9
    have u9 := q9.tr qv9
    go_upto_region 18 with (go_at_call 20; refine (G2.out _ u9).mono ?_; rintro e w10 ⟨pl, rfl, q10⟩)
    obtain ⟨V10, hV10⟩ : ∃ V, V = w10.alloc (.cells (afA ansZ pl) 41) := ⟨_, rfl⟩
    have u10 : Nw V9 V10 := by rw [hV10]; exact q10.alloc _
    have HV10 := Lib.hid hV10
    rw [← HV10.out]
    clear hV10 hsl1
    go_upto_region 19 with (first | (go_at_call 17; refine (HCP.out _ (u9.tr u10)).mono ?_; rintro e w11 ⟨Ac, cc, rfl, occ, q11, nc⟩) | (at_builtin; refine wl_append2 rfl _ _ _ rfl 1 (.int .u8 0) Tryz.underlying22 info_u8 rfl (by decide) rfl (occ.alloc _) rfl (sl_new w11 5 [.int .u8 0] _ rfl) rfl (by intro u hu; rw [List.mem_singleton.1 hu]; rfl) (by omega) (by unfold maxLen; omega) ?_; intro A12 c12 w12 hap; obtain ⟨o12, q12, n12⟩ := hap.newOwn (q11.alloc _) nc; have s12 : Sl w12 (inA A12) A12 ((T ++ [0]).map B8) := (by have h := o12.sl; rwa [show T.map B8 ++ [Value.int .u8 0] = (T ++ [0]).map B8 from by rw [List.map_append]; rfl] at h)) | (go_at_call 20; refine (G3.out _ _ _ _ s12).mono ?_; rintro e w13 ⟨pm, rfl, q13⟩))
    obtain ⟨V13, hV13⟩ : ∃ V, V = w13.alloc (.cells (afA ansZ pm) 41) := ⟨_, rfl⟩
    have u13 : Nw V10 V13 := by rw [hV13]; exact (q12.tr q13).alloc _
    have HV13 := Lib.hid hV13
    rw [← HV13.out]
    clear hV13
    have u9d : Nw V9 V13.drew := (u10.tr u13).drew
    have u8d : Nw w9x V13.drew := u9.tr u9d
    have hSS : ∀ wz, Nw V13.drew wz → wz.cell? ⟨Y, 0, none⟩ = some (I64 y.err) ∧ wz.cell? ⟨Y, 1, none⟩ = some (I64 y.nm.1) ∧ wz.cell? ⟨Y, 2, none⟩ = some (I64 y.nm.2) ∧ wz.cell? ⟨Y, 3, none⟩ = some (.bool y.is) ∧ wz.cell? ⟨Y, 4, none⟩ = some (.bool y.commit) ∧ wz.cell? ⟨Y, 5, none⟩ = some (.slice q.r y.reads.length q.cr) ∧ wz.cell? ⟨Y, 6, none⟩ = some (I64 y.scheme) ∧ wz.cell? ⟨Y, 7, none⟩ = some (I64 y.stage) ∧ wz.cell? ⟨Y, 8, none⟩ = some (.slice q.b y.bytes.length q.cb) ∧ wz.cell? ⟨Z, 0, none⟩ = some (I64 y.err) ∧ wz.cell? ⟨Z, 1, none⟩ = some (I64 y.nm.1) ∧ wz.cell? ⟨Z, 2, none⟩ = some (I64 y.nm.2) ∧ wz.cell? ⟨Z, 3, none⟩ = some (.bool y.is) ∧ wz.cell? ⟨Z, 4, none⟩ = some (.bool y.commit) ∧ wz.cell? ⟨Z, 5, none⟩ = some (.slice pz.r y.reads.length pz.cr) ∧ wz.cell? ⟨Z, 6, none⟩ = some (I64 y.scheme) ∧ wz.cell? ⟨Z, 7, none⟩ = some (I64 y.stage) ∧ wz.cell? ⟨Z, 8, none⟩ = some (.slice pz.b y.bytes.length pz.cb) := fun wz f => by
      have a := y9.fr (u8d.tr f) (fun h => h)
      have b := zb9.fr (u9d.tr f) (fun h => h)
      exact ⟨by simpa using a.cell 0, by simpa using a.cell 1, by simpa using a.cell 2, by simpa using a.cell 3, by simpa using a.cell 4, by simpa using a.cell 5, by simpa using a.cell 6, by simpa using a.cell 7, by simpa using a.cell 8, by simpa using b.cell 0, by simpa using b.cell 1, by simpa using b.cell 2, by simpa using b.cell 3, by simpa using b.cell 4, by simpa using b.cell 5, by simpa using b.cell 6, by simpa using b.cell 7, by simpa using b.cell 8⟩
    have l7 : ∀ wz, Nw V13.drew wz → Calls Tryz.prog 21 #[.agg (afA y pz), .agg (afA y q)] wz fun e w' => e = .returned (.bool true) ∧ Nw wz w' := fun wz f => by
      have f9 : Nw w9 wz := qv9.tr (u9d.tr f)
      have f8 : Nw w9x wz := u8d.tr f
      exact (rsameAns_any wz _ _ y y pz q (oz.in_.fr f9 (fun _ _ h => h)) (j9.fr f8 (fun _ _ h => h)) hszy).mono fun e w' h => ⟨by simpa using h.1, h.2⟩
    have hlast : Lasts ([] : List Fact) := fun f hf => by cases hf
    clear G1 G2 G3 HCP zb9 oz
    refine wp_region_eff2 (RfC V13.drew []) (fun _ => (0, none)) (by kernel_rfl) (by kernel_rfl) ⟨Fr.refl _ _, fun _ _ h => by cases h⟩ ?_
    apply wpEff2_cons
    focus
      intro B L wz hL hD hC
      refine .inl ⟨by rfl, ?_⟩
      obtain ⟨y_0, y_1, y_2, y_3, y_4, y_5, y_6, y_7, y_8, n_0, n_1, n_2, n_3, n_4, n_5, n_6, n_7, n_8⟩ := hSS wz hC.nw
      unfold effAt
      go_simp
      exact ⟨rfl, hC.keep _ (by rfl)⟩
    simp only [Act.put, List.setIfInBounds_toArray, List.set_cons_zero, List.set_cons_succ]
    apply wpEff2_cons
    focus
      intro B L wz hL hD hC
      refine .inl ⟨by rfl, ?_⟩
      obtain ⟨y_0, y_1, y_2, y_3, y_4, y_5, y_6, y_7, y_8, n_0, n_1, n_2, n_3, n_4, n_5, n_6, n_7, n_8⟩ := hSS wz hC.nw
      unfold effAt
      go_simp
      exact ⟨rfl, hC.keep _ (by rfl)⟩
    simp only [Act.put, List.setIfInBounds_toArray, List.set_cons_zero, List.set_cons_succ]
    apply wpEff2_cons
    focus
      intro B L wz hL hD hC
      refine .inl ⟨by rfl, ?_⟩
      obtain ⟨y_0, y_1, y_2, y_3, y_4, y_5, y_6, y_7, y_8, n_0, n_1, n_2, n_3, n_4, n_5, n_6, n_7, n_8⟩ := hSS wz hC.nw
      unfold effAt
      go_simp
      exact ⟨rfl, hC.keep _ (by rfl)⟩
    simp only [Act.put, List.setIfInBounds_toArray, List.set_cons_zero, List.set_cons_succ]
    apply wpEff2_cons
    focus
      intro B L wz hL hD hC
      refine .inl ⟨by rfl, ?_⟩
      obtain ⟨y_0, y_1, y_2, y_3, y_4, y_5, y_6, y_7, y_8, n_0, n_1, n_2, n_3, n_4, n_5, n_6, n_7, n_8⟩ := hSS wz hC.nw
      unfold effAt
      go_simp
      exact ⟨rfl, hC.keep _ (by rfl)⟩
    simp only [Act.put, List.setIfInBounds_toArray, List.set_cons_zero, List.set_cons_succ]
    apply wpEff2_cons
    focus
      intro B L wz hL hD hC
      have hnw := hC.nw
      refine .inl ⟨by rfl, ?_⟩
      unfold effAt
      go_simp
      refine (told22_any wz y pz).mono ?_
      rintro e w9 ⟨rfl, q9⟩
      exact ⟨rfl, (hC.go hlast q9).keep _ (by rfl)⟩
    simp only [Act.put, List.setIfInBounds_toArray, List.set_cons_zero, List.set_cons_succ]
    apply wpEff2_cons
    focus
      intro B L wz hL hD hC
      refine .inl ⟨by rfl, ?_⟩
      obtain ⟨y_0, y_1, y_2, y_3, y_4, y_5, y_6, y_7, y_8, n_0, n_1, n_2, n_3, n_4, n_5, n_6, n_7, n_8⟩ := hSS wz hC.nw
      unfold effAt
      go_simp
      exact ⟨rfl, hC.keep _ (by rfl)⟩
    simp only [Act.put, List.setIfInBounds_toArray, List.set_cons_zero, List.set_cons_succ]
    apply wpEff2_cons
    focus
      intro B L wz hL hD hC
      have hnw := hC.nw
      refine .inl ⟨by rfl, ?_⟩
      unfold effAt
      go_simp
      refine (told22_any wz y q).mono ?_
      rintro e w9 ⟨rfl, q9⟩
      exact ⟨rfl, (hC.go hlast q9).keep _ (by rfl)⟩
    simp only [Act.put, List.setIfInBounds_toArray, List.set_cons_zero, List.set_cons_succ]
    apply wpEff2_cons
    focus
      intro B L wz hL hD hC
      have hnw := hC.nw
      refine .inl ⟨by rfl, ?_⟩
      unfold effAt
      go_simp
      refine (l7 wz hnw).mono ?_
      rintro e w9 ⟨rfl, q9⟩
      exact ⟨rfl, (hC.go hlast q9).keep _ (by rfl)⟩
    simp only [Act.put, List.setIfInBounds_toArray, List.set_cons_zero, List.set_cons_succ]
    apply wpEff2_cons
    focus
      intro B L wz hL hD hC
      refine .inl ⟨by rfl, ?_⟩
      obtain ⟨y_0, y_1, y_2, y_3, y_4, y_5, y_6, y_7, y_8, n_0, n_1, n_2, n_3, n_4, n_5, n_6, n_7, n_8⟩ := hSS wz hC.nw
      unfold effAt
      go_simp
      exact ⟨rfl, hC.keep _ (by rfl)⟩
    simp only [Act.put, List.setIfInBounds_toArray, List.set_cons_zero, List.set_cons_succ]
    apply wpEff2_cons
    focus
      intro B L wz hL hD hC
      refine .inl ⟨by rfl, ?_⟩
      obtain ⟨y_0, y_1, y_2, y_3, y_4, y_5, y_6, y_7, y_8, n_0, n_1, n_2, n_3, n_4, n_5, n_6, n_7, n_8⟩ := hSS wz hC.nw
      unfold effAt
      go_simp
      exact ⟨rfl, hC.keep _ (by rfl)⟩
    simp only [Act.put, List.setIfInBounds_toArray, List.set_cons_zero, List.set_cons_succ]
    apply wpEff2_cons
    focus
      intro B L wz hL hD hC
      refine .inl ⟨by rfl, ?_⟩
      obtain ⟨y_0, y_1, y_2, y_3, y_4, y_5, y_6, y_7, y_8, n_0, n_1, n_2, n_3, n_4, n_5, n_6, n_7, n_8⟩ := hSS wz hC.nw
      unfold effAt
      go_simp
      exact ⟨rfl, hC.keep _ (by rfl)⟩
    simp only [Act.put, List.setIfInBounds_toArray, List.set_cons_zero, List.set_cons_succ]
    apply wpEff2_cons
    focus
      intro B L wz hL hD hC
      refine .inl ⟨by rfl, ?_⟩
      obtain ⟨y_0, y_1, y_2, y_3, y_4, y_5, y_6, y_7, y_8, n_0, n_1, n_2, n_3, n_4, n_5, n_6, n_7, n_8⟩ := hSS wz hC.nw
      unfold effAt
      go_simp
      exact ⟨rfl, hC.keep _ (by rfl)⟩
    simp only [Act.put, List.setIfInBounds_toArray, List.set_cons_zero, List.set_cons_succ]
    apply wpEff2_cons
    focus
      intro B L wz hL hD hC
      refine .inl ⟨by rfl, ?_⟩
      obtain ⟨y_0, y_1, y_2, y_3, y_4, y_5, y_6, y_7, y_8, n_0, n_1, n_2, n_3, n_4, n_5, n_6, n_7, n_8⟩ := hSS wz hC.nw
      unfold effAt
      go_simp
      exact ⟨rfl, hC.keep _ (by rfl)⟩
    simp only [Act.put, List.setIfInBounds_toArray, List.set_cons_zero, List.set_cons_succ]
    apply wpEff2_cons
    focus
      intro B L wz hL hD hC
      refine .inl ⟨by rfl, ?_⟩
      obtain ⟨y_0, y_1, y_2, y_3, y_4, y_5, y_6, y_7, y_8, n_0, n_1, n_2, n_3, n_4, n_5, n_6, n_7, n_8⟩ := hSS wz hC.nw
      unfold effAt
      go_simp
      exact ⟨rfl, hC.keep _ (by rfl)⟩
    simp only [Act.put, List.setIfInBounds_toArray, List.set_cons_zero, List.set_cons_succ]
    apply wpEff2_cons
    focus
      intro B L wz hL hD hC
      refine .inl ⟨by rfl, ?_⟩
      obtain ⟨y_0, y_1, y_2, y_3, y_4, y_5, y_6, y_7, y_8, n_0, n_1, n_2, n_3, n_4, n_5, n_6, n_7, n_8⟩ := hSS wz hC.nw
      unfold effAt
      go_simp
      exact ⟨rfl, hC.keep _ (by rfl)⟩
    simp only [Act.put, List.setIfInBounds_toArray, List.set_cons_zero, List.set_cons_succ]
    apply wpEff2_cons
    focus
      intro B L wz hL hD hC
      refine .inl ⟨by rfl, ?_⟩
      obtain ⟨y_0, y_1, y_2, y_3, y_4, y_5, y_6, y_7, y_8, n_0, n_1, n_2, n_3, n_4, n_5, n_6, n_7, n_8⟩ := hSS wz hC.nw
      unfold effAt
      go_simp
      exact ⟨rfl, hC.keep _ (by rfl)⟩
    simp only [Act.put, List.setIfInBounds_toArray, List.set_cons_zero, List.set_cons_succ]
    apply wpEff2_cons
    focus
      intro B L wz hL hD hC
      refine .inl ⟨by rfl, ?_⟩
      obtain ⟨y_0, y_1, y_2, y_3, y_4, y_5, y_6, y_7, y_8, n_0, n_1, n_2, n_3, n_4, n_5, n_6, n_7, n_8⟩ := hSS wz hC.nw
      unfold effAt
      go_simp
      exact ⟨rfl, hC.keep _ (by rfl)⟩
    simp only [Act.put, List.setIfInBounds_toArray, List.set_cons_zero, List.set_cons_succ]
    apply wpEff2_cons
    focus
      intro B L wz hL hD hC
      refine .inl ⟨by rfl, ?_⟩
      obtain ⟨y_0, y_1, y_2, y_3, y_4, y_5, y_6, y_7, y_8, n_0, n_1, n_2, n_3, n_4, n_5, n_6, n_7, n_8⟩ := hSS wz hC.nw
      unfold effAt
      go_simp
      exact ⟨rfl, hC.keep _ (by rfl)⟩
    simp only [Act.put, List.setIfInBounds_toArray, List.set_cons_zero, List.set_cons_succ]
    refine wpEff2_nil fun B wz hC5 => ?_
    have hnw := hC5.nw
    go_wp2_with fail
    refine Met.intro (hJ _ _ ?_)
    unfold back_blk2J
    (repeat apply Exists.intro)
    exact ⟨u8d.tr hnw, rfl⟩
end Go.Proofs.YtkjnlhidnkbelaaGreatDoor
