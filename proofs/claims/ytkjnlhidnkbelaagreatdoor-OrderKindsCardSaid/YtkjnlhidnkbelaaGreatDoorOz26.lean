/- Lemmas of the walks: OmC, OmB. (Laid together by shake.py.) -/
import Derived.Test.YtkjnlhidnkbelaaGreatDoorOz22
import Derived.Test.YtkjnlhidnkbelaaGreatDoorOz24
import Derived.Test.YtkjnlhidnkbelaaGreatDoorOz25
set_option linter.unusedVariables false
set_option linter.unusedSimpArgs false
namespace Go.Proofs.YtkjnlhidnkbelaaGreatDoor
open Go Go.RowKit
set_option linter.unusedVariables false
set_option linter.unusedSimpArgs false
/-- A piece of a function's code, by the way to it. -/
def pickC : List Bool → Code → Code
  | [], c => c
  | false :: p, .seq a _ => pickC p a
  | true :: p, .seq _ b => pickC p b
  | _ :: p, .block _ c => pickC p c
  | _ :: p, .scope c => pickC p c
  | _ :: p, .loop c => pickC p c
  | false :: p, .cond _ a _ => pickC p a
  | true :: p, .cond _ _ b => pickC p b
  | _, c => c
/-- Two slices written out in one drawn region. -/
def Bl2 (ops : Array Oper) (k1 k2 : Nat) (W1 : World) (E1 E2 : TypeId) (c1 c2 : Array Value) (L : Nat → Bool) (B : BkT Nat) (w : World) : Prop :=
  DownK .any ops L ∧ Nw W1 w ∧ (L k1 = true → Blk w (B k1) E1 c1) ∧ (L k2 = true → Blk w (B k2) E2 c2)
section
variable {ops : Array Oper} {k1 k2 : Nat} {W1 w w' : World} {E1 E2 : TypeId} {c1 c2 : Array Value} {L : Nat → Bool} {B : BkT Nat} {o : Oper}
theorem onL_ne2 {j k : Nat} (h : (k != j) = true) : onL L j k = L k := if_neg (by simpa using h)
theorem updT_ne2 {T : Type} {B : BkT T} {j k : Nat} {b : T} (h : (k != j) = true) : updT B j b k = B k := if_neg (by simpa using h)
theorem Bl2.step (h : Bl2 ops k1 k2 W1 E1 E2 c1 c2 L B w) (q : Nw w w') {j : Nat} (ho : ops[j]? = some o) (hD : ∀ i, waitsFor .any o i = true → L i = true) (n1 : (k1 != j) = true) (n2 : (k2 != j) = true) : Bl2 ops k1 k2 W1 E1 E2 c1 c2 (onL L j) B w' :=
  ⟨h.1.step ho hD, h.2.1.tr q, by rw [onL_ne2 n1]; exact fun e => (h.2.2.1 e).fr q (fun h => h), by rw [onL_ne2 n2]; exact fun e => (h.2.2.2 e).fr q (fun h => h)⟩
theorem Bl2.keep (h : Bl2 ops k1 k2 W1 E1 E2 c1 c2 L B w) {j : Nat} (ho : ops[j]? = some o) (hD : ∀ i, waitsFor .any o i = true → L i = true) (n1 : (k1 != j) = true) (n2 : (k2 != j) = true) : Bl2 ops k1 k2 W1 E1 E2 c1 c2 (onL L j) B w := h.step (Fr.refl _ _) ho hD n1 n2
theorem Bl2.b1 (h : Bl2 ops k1 k2 W1 E1 E2 c1 c2 L B w) (q : Nw w w') (ho : ops[k1]? = some o) (hD : ∀ i, waitsFor .any o i = true → L i = true) (n2 : (k2 != k1) = true) {b : Nat} (hs : Blk w' b E1 c1) : Bl2 ops k1 k2 W1 E1 E2 c1 c2 (onL L k1) (updT B k1 b) w' :=
  ⟨h.1.step ho hD, h.2.1.tr q, fun _ => by rw [updT_at]; exact hs, by rw [onL_ne2 n2, updT_ne2 n2]; exact fun e => (h.2.2.2 e).fr q (fun h => h)⟩
theorem Bl2.b2 (h : Bl2 ops k1 k2 W1 E1 E2 c1 c2 L B w) (q : Nw w w') (ho : ops[k2]? = some o) (hD : ∀ i, waitsFor .any o i = true → L i = true) (n1 : (k1 != k2) = true) {b : Nat} (hs : Blk w' b E2 c2) : Bl2 ops k1 k2 W1 E1 E2 c1 c2 (onL L k2) (updT B k2 b) w' :=
  ⟨h.1.step ho hD, h.2.1.tr q, by rw [onL_ne2 n1, updT_ne2 n1]; exact fun e => (h.2.2.1 e).fr q (fun h => h), fun _ => by rw [updT_at]; exact hs⟩
end
theorem wp_region_bl2 {P : Program} {id : Nat} {Q : Exit → Act → World → Prop} {a : Act} {w : World} {l : List Oper} (k1 k2 : Nat) (W1 : World) (E1 E2 : TypeId) (c1 c2 : Array Value) (hm : P.follows .mixedOrders = true) (hB : effB .any l.toArray = true) (h0 : Nw W1 w)
    (h : wpEffT .any P l.toArray (Bl2 l.toArray k1 k2 W1 E1 E2 c1 c2) (fun B a' => ∀ w', Bl2 l.toArray k1 k2 W1 E1 E2 c1 c2 (fun j => decide (j < l.length)) B w' → Q .normal a' w') l 0 (fun _ => a)) : (Code.region id l.toArray true).wp P Q a w :=
  wp_region_effT (Bl2 l.toArray k1 k2 W1 E1 E2 c1 c2) (fun _ => 0) hm hB ⟨fun _ _ _ h => (by cases h), h0.drew, fun h => (by cases h), fun h => (by cases h)⟩ h
/-- A slice of structs written out, in a drawn region. -/
theorem effAtT_build1 {P : Program} {T : Type} {E : TypeId} {w : World} {o : Oper} {a : Act} {vf : T → Value} {K : T → World → Prop} (t : TypeId) (n : Nat) (ps : List (Nat × Operand)) (C : Nat) (vs : List (List Value)) (z : Value) (ho : o.op = .buildSlice t n ps.toArray) (ht : P.underlying t = some (.slice E)) (hinfo : (P.info? E).map (fun i => (i.zero, i.size)) = some (some z, C))
    (hn : vs.length = n) (hn0 : 0 < n) (hC : 0 < C) (hl : ∀ v ∈ vs, v.length = C) (hsz : n * C ≤ 16777216)
    (hp : (ps.map fun (i, x) => (i, a.eval x)) = (vs.zipIdx 0).map fun p => (p.2, Value.agg p.1.toArray))
    (h : ∃ b, .slice (some ⟨w.heap.size, 0, none⟩) n n = vf b ∧ K b (w.alloc (.cells vs.flatten.toArray E))) : effAtT P o a vf K w := by
  subst hn
  unfold effAtT execOp
  simp only [ho, List.map_toArray, hp]
  rw [Sem.run_bind, run_build w t E C vs z ht hinfo hn0 hC hl hsz]
  exact h
theorem effAt_load_cells {P : Program} {o : Oper} {a : Act} {w : World} {K : World → Prop} (ty : TypeId) (x : Operand) (ho : o.op = .load ty x) (g off : Nat) (hx : a.eval x = .pointer (some ⟨g, off, none⟩)) (cs : List Value) (d : TypeDesc) (hc : ∀ j v, cs[j]? = some v → w.cell? ⟨g, off + j, none⟩ = some v)
    (hu : P.underlying ty = some d) (hd : (match d with | .struct _ | .array _ _ => true | _ => false) = true) (hi : (P.info? ty).map (·.size) = some cs.length) (h : K w) : effAt P o a (.agg cs.toArray) K w := by
  unfold effAt execOp
  simp only [ho, hx, Instr.loadAt, Instr.sureAddr, Sem.run_bind, Sem.run_pure, Result.andThen_ok, run_loadVar_cells w g off ty cs d hc hu hd hi]
  exact ⟨rfl, h⟩
abbrev bO (A : Option Addr) (n c : Nat) : Array Value := #[U8V 5, I64 0, I64 0, I64 0, .slice none 0 0, .bool false, .slice none 0 0, I64 1, I64 0, I64 0, .string ⟨#[]⟩, .string ⟨#[]⟩, .slice A n c]
abbrev bA (A : Option Addr) (n c : Nat) : Array Value := #[I64 0, I64 0, I64 0, .bool false, .bool false, .slice none 0 0, I64 0, I64 0, .slice A n c]
def bigO (bs : List UInt8) : OrdF := ⟨5, (0, 0), 0, [], false, [], 1, 0, 0, [], [], bs⟩
def bigA (bs : List UInt8) : AnsF := ⟨0, (0, 0), false, false, [], 0, 0, bs⟩
theorem right_big (w : World) (F : Nat → Prop) (g : Nat) (A : Option Addr) (c n : Nat) (bs : List UInt8) (b : Bool) (hn : bs.length = n) (hb : decide (n ≤ 65536) = b) (h1 : n ≤ 1000000) (hc : n ≤ c ∧ c ≤ maxLen) (hk : Blk w g 31 (bO A n c)) (hs : Sl w F A (bs.map B8)) :
    Calls Tryz.prog 11 #[.slice (some ⟨g, 0, none⟩) 1 1] w fun e w' => e = .returned (.bool b) ∧ Nw w w' := by
  subst hn
  have h := oRight_any w F g (bigO bs) ⟨none, 0, none, 0, A, c⟩ hk ⟨.inl rfl, .inl rfl, hs, ⟨Nat.le_refl _, Nat.zero_le _⟩, ⟨Nat.le_refl _, Nat.zero_le _⟩, hc⟩ ⟨by show (0 : Int) ≤ 5 ∧ (5 : Int) ≤ 255; omega, ⟨Nat.zero_le _, act_nil⟩, ⟨Nat.zero_le _, rdg_nil⟩, by show bs.length ≤ _; omega, Nat.zero_le _, Nat.zero_le _⟩
  rw [show ordOk (bigO bs) = b from (big_ord bs).trans hb] at h
  exact h
theorem sound_big (w : World) (F : Nat → Prop) (g : Nat) (A : Option Addr) (c n : Nat) (bs : List UInt8) (b : Bool) (hn : bs.length = n) (hb : decide (n ≤ 131072) = b) (h1 : n ≤ 1000000) (hc : n ≤ c ∧ c ≤ maxLen) (hk : Blk w g 41 (bA A n c)) (hs : Sl w F A (bs.map B8)) :
    Calls Tryz.prog 12 #[.slice (some ⟨g, 0, none⟩) 1 1] w fun e w' => e = .returned (.bool b) ∧ Nw w w' := by
  subst hn
  have h := oSound_any w F g (bigA bs) ⟨none, 0, none, 0, A, c⟩ hk ⟨.inl rfl, hs, ⟨Nat.le_refl _, Nat.zero_le _⟩, hc⟩ ⟨⟨Nat.zero_le _, rdg_nil⟩, by show bs.length ≤ _; omega⟩
  rw [show ansOk (bigA bs) = b from (big_ans bs).trans hb] at h
  exact h
theorem app_one {w w' : World} {R n k : Nat} {A : Option Addr} {bs : List UInt8} (hap : AppTo w 5 1 (some ⟨R, 0, none⟩) n n 1 (bs.map B8) [U8V 0] A k w') (hn : bs.length = n) :
    Nw w w' ∧ A = some ⟨w.heap.size, 0, none⟩ ∧ Sl w' (inA A) A ((bs ++ [0]).map B8) ∧ n + 1 ≤ k ∧ k ≤ maxLen := by
  rcases hap.2.2 with ⟨h, _⟩ | ⟨_, hA, q⟩
  · omega
  · exact ⟨q, hA, by rw [List.map_append]; exact hap.1.sl, hap.1.cap_le⟩
noncomputable def okinds_endC : Code := pickC [true, true, true, true, false] (Tryz.f3.body.getD .skip)
noncomputable def okinds_endR : Code := pickC [true, true, true, true, true] (Tryz.f3.body.getD .skip)
set_option maxRecDepth 1000000 in
set_option maxHeartbeats 16000000 in
theorem okinds_end (W w0 : World) (hq : Nw W w0) {c0 c1 c2 c3 c4 c5 c6 c7 c8 c9 c10 c11 c12 c13 c14 c15 c16 c17 c18 c19 c20 c21 c22 c23 c24 c25 c26 c27 c28 c29 c30 c31 c32 c33 c34 c35 c36 c37 c38 c39 c40 c41 c42 c43 c44 c45 c46 c47 c48 c49 c50 c51 c52 c53 c54 c55 c56 c57 c58 c59 c60 c61 c62 c63 c64 c65 c66 c67 c68 c69 c70 c71 c72 c73 c74 c75 c76 c77 c78 c79 c80 c81 c82 c83 c84 c85 c86 c87 c88 c89 c90 c91 c92 c93 c94 c95 c96 c97 c98 c99 c100 c101 c102 c103 c104 c105 c106 c107 c108 c109 c110 c111 c112 c113 c114 c115 c116 c117 c118 c119 c120 c121 c122 c123 c124 c125 c126 c127 c128 c129 c130 c131 c132 c133 c134 c135 c136 c137 c138 c139 c140 c141 c142 c143 c144 c145 c146 c147 c148 c149 c150 c151 c152 c153 c154 c155 c156 c157 c158 c159 c160 c161 c162 c163 c164 c165 c166 c167 c168 c169 c170 c171 c172 c173 c174 c175 c176 c177 c178 c179 c180 c181 c182 c183 c184 c185 c186 c187 c188 c189 c190 c191 c192 c193 c194 c195 c196 c197 c198 c199 c200 c201 : Value} (Q : Exit → Act → World → Prop) (hQ : Q = (bodyPost Tryz.prog Tryz.f3 fun e w' => e = .returned (.bool true) ∧ Nw W w')) (K : Act → World → Prop) (hK : ∀ a w, Code.wp Tryz.prog okinds_endR Q a w → K a w) :
    Code.wp Tryz.prog okinds_endC (Exit.then K Q) ⟨#[c0, c1, c2, c3, c4, c5, c6, c7, c8, c9, c10, c11, c12, c13, c14, c15, c16, c17, c18, c19, c20, c21, c22, c23, c24, c25, c26, c27, c28, c29, c30, c31, c32, c33, c34, c35, c36, c37, c38, c39, c40, c41, c42, c43, c44, c45, c46, c47, c48, c49, c50, c51, c52, c53, c54, c55, c56, c57, c58, c59, c60, c61, c62, c63, c64, c65, c66, c67, c68, c69, c70, c71, c72, c73, c74, c75, c76, c77, c78, c79, c80, c81, c82, c83, c84, c85, c86, c87, c88, c89, c90, c91, c92, c93, c94, c95, c96, c97, c98, c99, c100, c101, c102, c103, c104, c105, c106, c107, c108, c109, c110, c111, c112, c113, c114, c115, c116, c117, c118, c119, c120, c121, c122, c123, c124, c125, c126, c127, c128, c129, c130, c131, c132, c133, c134, c135, c136, c137, c138, c139, c140, c141, c142, c143, c144, c145, c146, c147, c148, c149, c150, c151, c152, c153, c154, c155, c156, c157, c158, c159, c160, c161, c162, c163, c164, c165, c166, c167, c168, c169, c170, c171, c172, c173, c174, c175, c176, c177, c178, c179, c180, c181, c182, c183, c184, c185, c186, c187, c188, c189, c190, c191, c192, c193, c194, c195, c196, c197, c198, c199, c200, c201], []⟩ w0 := by
  conv => arg 2; whnf
  conv at hK => enter [a, w]; lhs; arg 2; whnf
  have HQ := Lib.hid hQ
  clear hQ
  obtain ⟨n1, hn1⟩ : ∃ n : Nat, n = 65536 := ⟨_, rfl⟩
  obtain ⟨n2, hn2⟩ : ∃ n : Nat, n = 131072 := ⟨_, rfl⟩
  obtain ⟨R1, hR1⟩ : ∃ R, R = w0.heap.size := ⟨_, rfl⟩
  have Hn1 := Lib.hid hn1
  have Hn2 := Lib.hid hn2
  have HR1 := Lib.hid hR1
  clear hn1 hn2 hR1
  go_upto_region 42 with (at_make; refine wl_make rfl _ _ _ rfl 1 (.int .u8 0) Tryz.underlying22 info_u8 rfl .i64 .i64 65536 65536 n1 rfl rfl (by have := Hn1.out; omega) (by have := Hn1.out; omega) (by have := Hn1.out; omega) (by have := Hn1.out; unfold maxLen; omega) ?_; intro w1 o1 q1; rw [← HR1.out] at o1 ⊢)
  obtain ⟨X, hX⟩ : ∃ X, X = w1.heap.size := ⟨_, rfl⟩
  obtain ⟨V1, hV1⟩ : ∃ V, V = w1.alloc (.cells (bO (some ⟨R1, 0, none⟩) n1 n1) 31) := ⟨_, rfl⟩
  have y1 : Nw w1 V1 := by rw [hV1]; exact (Fr.refl (fun _ => False) _).alloc _
  have bX1 : Blk V1 X 31 (bO (some ⟨R1, 0, none⟩) n1 n1) := by rw [hV1, hX]; exact Blk.new _ _ _
  have HX := Lib.hid hX
  have HX0 : RowKit.Hid (w0.heap.size ≤ X) := Lib.hid (by have := q1.size; omega)
  have HV1 := Lib.hid hV1
  clear hX hV1
  rw [← HX.out, ← HV1.out]
  obtain ⟨bs1, hb1⟩ : ∃ bs : List UInt8, bs = List.replicate n1 0 := ⟨_, rfl⟩
  have hl1 : bs1.length = n1 := by rw [hb1]; simp
  rw [show List.replicate n1 (Value.int .u8 0) = bs1.map B8 by rw [hb1, List.map_replicate]; rfl] at o1
  clear hb1
  obtain ⟨R2, hR2⟩ : ∃ R, R = V1.heap.size := ⟨_, rfl⟩
  have hR2X : R2 ≠ X := by have := bX1.lt; omega
  have HR2 := Lib.hid hR2
  clear hR2
  go_upto_region 43 with (at_make; refine wl_make rfl _ _ _ rfl 1 (.int .u8 0) Tryz.underlying22 info_u8 rfl .i64 .i64 131072 131072 n2 rfl rfl (by have := Hn2.out; omega) (by have := Hn2.out; omega) (by have := Hn2.out; omega) (by have := Hn2.out; unfold maxLen; omega) ?_; intro w2 o2 q2; rw [← HR2.out] at o2 ⊢)
  obtain ⟨Y, hY⟩ : ∃ Y, Y = w2.heap.size := ⟨_, rfl⟩
  obtain ⟨V3, hV3⟩ : ∃ V, V = w2.alloc (.cells (bA (some ⟨R2, 0, none⟩) n2 n2) 41) := ⟨_, rfl⟩
  have y3 : Nw w2 V3 := by rw [hV3]; exact (Fr.refl (fun _ => False) _).alloc _
  have bY4 : Blk V3 Y 41 (bA (some ⟨R2, 0, none⟩) n2 n2) := by rw [hV3, hY]; exact Blk.new _ _ _
  have HY := Lib.hid hY
  have HV3 := Lib.hid hV3
  have hXY : X ≠ Y := by have h1 := bX1.lt; have h2 := q2.size; omega
  have HY0 : RowKit.Hid (w0.heap.size ≤ Y) := Lib.hid (by have := q1.size; have := y1.size; have := q2.size; omega)
  clear hY hV3
  rw [← HY.out, ← HV3.out]
  obtain ⟨bs2, hb2⟩ : ∃ bs : List UInt8, bs = List.replicate n2 0 := ⟨_, rfl⟩
  have hl2 : bs2.length = n2 := by rw [hb2]; simp
  rw [show List.replicate n2 (Value.int .u8 0) = bs2.map B8 by rw [hb2, List.map_replicate]; rfl] at o2
  clear hb2
  have bX4 := (bX1.fr q2 (fun h => h)).fr y3 (fun h => h)
  have o1b := ((o1.fr y1 (fun _ _ h => h)).fr q2 (fun _ _ h => h)).fr y3 (fun _ _ h => h)
  have o2b := o2.fr y3 (fun _ _ h => h)
  have Q3 : Nw w0 V3 := ((q1.tr y1).tr q2).tr y3
  have hmx : n2 + 1 ≤ maxLen := by have := Hn2.out; unfold maxLen; omega
  have h12 : n1 ≤ n2 := by have := Hn1.out; have := Hn2.out; omega
  have hn2m : n2 + 1 ≤ 1000000 := by have := Hn2.out; omega
  have RB1 := Lib.hid (fun wz g (q : Nw V3 wz) (hb : Blk wz g 31 (bO (some ⟨R1, 0, none⟩) n1 n1)) => right_big wz _ g (some ⟨R1, 0, none⟩) n1 n1 bs1 true hl1 (decide_eq_true (by have := Hn1.out; omega)) (by omega) ⟨Nat.le_refl _, by omega⟩ hb (o1b.sl.fr q (fun _ _ h => h)))
  have SB1 := Lib.hid (fun wz g (q : Nw V3 wz) (hb : Blk wz g 41 (bA (some ⟨R2, 0, none⟩) n2 n2)) => sound_big wz _ g (some ⟨R2, 0, none⟩) n2 n2 bs2 true hl2 (decide_eq_true (by have := Hn2.out; omega)) (by omega) ⟨Nat.le_refl _, by omega⟩ hb (o2b.sl.fr q (fun _ _ h => h)))
  have HL1 := Lib.hid hl1
  have HL2 := Lib.hid hl2
  have H12 := Lib.hid h12
  have HM2 := Lib.hid hn2m
  have HMX := Lib.hid hmx
  clear hl1 hl2 h12 hn2m hmx bX1 o1 o2 y1 q1 q2 y3 HX HV1 HY HV3 HR1 HR2
  refine wp_region_bl2 1 4 V3 31 41 (bO (some ⟨R1, 0, none⟩) n1 n1) (bA (some ⟨R2, 0, none⟩) n2 n2) (by kernel_rfl) (by kernel_rfl) (Fr.refl _ _) ?_
  apply wpEffT_cons
  focus
    intro B L wz hL hD hC
    have lc : ∀ p u, ([U8V 5, I64 0, I64 0, I64 0, .slice none 0 0, .bool false, .slice none 0 0, I64 1, I64 0, I64 0, .string ⟨#[]⟩, .string ⟨#[]⟩, .slice (some ⟨R1, 0, none⟩) n1 n1] : List Value)[p]? = some u → wz.cell? ⟨X, 0 + p, none⟩ = some u := Blk.cells_at (l := [U8V 5, I64 0, I64 0, I64 0, .slice none 0 0, .bool false, .slice none 0 0, I64 1, I64 0, I64 0, .string ⟨#[]⟩, .string ⟨#[]⟩, .slice (some ⟨R1, 0, none⟩) n1 n1]) (bX4.fr hC.2.1 (fun h => h)) 0
    refine .inl ⟨by rfl, ?_⟩
    exact effAt_load_cells 31 _ rfl X 0 rfl ([U8V 5, I64 0, I64 0, I64 0, .slice none 0 0, .bool false, .slice none 0 0, I64 1, I64 0, I64 0, .string ⟨#[]⟩, .string ⟨#[]⟩, .slice (some ⟨R1, 0, none⟩) n1 n1]) _ lc Tryz.underlying31 rfl (by kernel_rfl) (hC.keep (by kernel_rfl) hD (by rfl) (by rfl))
  simp only [Act.put, List.setIfInBounds_toArray, List.set_cons_zero, List.set_cons_succ]
  refine wpEffT_free (fun g => .slice (some ⟨g, 0, none⟩) 1 1) ?_ ?_
  focus
    intro B L wz hL hD hC
    refine .inl ⟨by rfl, ?_⟩
    refine effAtT_build1 94 1 _ 13 [[U8V 5, I64 0, I64 0, I64 0, .slice none 0 0, .bool false, .slice none 0 0, I64 1, I64 0, I64 0, .string ⟨#[]⟩, .string ⟨#[]⟩, .slice (some ⟨R1, 0, none⟩) n1 n1]] (.agg #[U8V 0, I64 0, I64 0, I64 0, .slice none 0 0, .bool false, .slice none 0 0, I64 0, I64 0, I64 0, .string ⟨#[]⟩, .string ⟨#[]⟩, .slice none 0 0]) rfl Tryz.underlying94 (by kernel_rfl) rfl (by decide) (by decide) (by simp) (by decide) rfl ⟨wz.heap.size, rfl, hC.b1 ((Fr.refl (fun _ => False) wz).alloc _) (by kernel_rfl) hD (by rfl) (Blk.new wz 31 (bO (some ⟨R1, 0, none⟩) n1 n1))⟩
  simp only [Act.put, List.setIfInBounds_toArray, List.set_cons_zero, List.set_cons_succ]
  apply wpEffT_cons
  focus
    intro B L wz hL hD hC
    have HC := Lib.hid hC
    refine .inl ⟨by rfl, ?_⟩
    unfold effAt
    go_simp
    refine (RB1.out wz (B 1) hC.2.1 (hC.2.2.1 (hD 1 (by kernel_rfl)))).mono ?_
    rintro e w9 ⟨rfl, q9⟩
    exact ⟨rfl, HC.out.step q9 (by kernel_rfl) hD (by rfl) (by rfl)⟩
  simp only [Act.put, List.setIfInBounds_toArray, List.set_cons_zero, List.set_cons_succ]
  apply wpEffT_cons
  focus
    intro B L wz hL hD hC
    have lc : ∀ p u, ([I64 0, I64 0, I64 0, .bool false, .bool false, .slice none 0 0, I64 0, I64 0, .slice (some ⟨R2, 0, none⟩) n2 n2] : List Value)[p]? = some u → wz.cell? ⟨Y, 0 + p, none⟩ = some u := Blk.cells_at (l := [I64 0, I64 0, I64 0, .bool false, .bool false, .slice none 0 0, I64 0, I64 0, .slice (some ⟨R2, 0, none⟩) n2 n2]) (bY4.fr hC.2.1 (fun h => h)) 0
    refine .inl ⟨by rfl, ?_⟩
    exact effAt_load_cells 41 _ rfl Y 0 rfl ([I64 0, I64 0, I64 0, .bool false, .bool false, .slice none 0 0, I64 0, I64 0, .slice (some ⟨R2, 0, none⟩) n2 n2]) _ lc Tryz.underlying41 rfl (by kernel_rfl) (hC.keep (by kernel_rfl) hD (by rfl) (by rfl))
  simp only [Act.put, List.setIfInBounds_toArray, List.set_cons_zero, List.set_cons_succ]
  refine wpEffT_free (fun g => .slice (some ⟨g, 0, none⟩) 1 1) ?_ ?_
  focus
    intro B L wz hL hD hC
    refine .inl ⟨by rfl, ?_⟩
    refine effAtT_build1 96 1 _ 9 [[I64 0, I64 0, I64 0, .bool false, .bool false, .slice none 0 0, I64 0, I64 0, .slice (some ⟨R2, 0, none⟩) n2 n2]] (.agg #[I64 0, I64 0, I64 0, .bool false, .bool false, .slice none 0 0, I64 0, I64 0, .slice none 0 0]) rfl Tryz.underlying96 (by kernel_rfl) rfl (by decide) (by decide) (by simp) (by decide) rfl ⟨wz.heap.size, rfl, hC.b2 ((Fr.refl (fun _ => False) wz).alloc _) (by kernel_rfl) hD (by rfl) (Blk.new wz 41 (bA (some ⟨R2, 0, none⟩) n2 n2))⟩
  simp only [Act.put, List.setIfInBounds_toArray, List.set_cons_zero, List.set_cons_succ]
  apply wpEffT_cons
  focus
    intro B L wz hL hD hC
    have HC := Lib.hid hC
    refine .inl ⟨by rfl, ?_⟩
    unfold effAt
    go_simp
    refine (SB1.out wz (B 4) hC.2.1 (hC.2.2.2 (hD 4 (by kernel_rfl)))).mono ?_
    rintro e w9 ⟨rfl, q9⟩
    exact ⟨rfl, HC.out.step q9 (by kernel_rfl) hD (by rfl) (by rfl)⟩
  simp only [Act.put, List.setIfInBounds_toArray, List.set_cons_zero, List.set_cons_succ]
  apply wpEffT_cons
  focus
    intro B L wz hL hD hC
    refine .inl ⟨by rfl, ?_⟩
    unfold effAt
    go_simp
    exact ⟨rfl, hC.keep (by kernel_rfl) hD (by rfl) (by rfl)⟩
  simp only [Act.put, List.setIfInBounds_toArray, List.set_cons_zero, List.set_cons_succ]
  apply wpEffT_cons
  focus
    intro B L wz hL hD hC
    refine .inl ⟨by rfl, ?_⟩
    unfold effAt
    go_simp
    exact ⟨rfl, hC.keep (by kernel_rfl) hD (by rfl) (by rfl)⟩
  simp only [Act.put, List.setIfInBounds_toArray, List.set_cons_zero, List.set_cons_succ]
  refine wpEffT_nil fun B wf hC => ?_
  have qf := hC.2.1
  clear hC
  have bX5 := bX4.fr qf (fun h => h)
  have bY5 := bY4.fr qf (fun h => h)
  have o1c := o1b.fr qf (fun _ _ h => h)
  have o2c := o2b.fr qf (fun _ _ h => h)
  have Q4 := Q3.tr qf
  clear bX4 bY4 o1b o2b Q3 qf RB1 SB1
  have c12 : wf.cell? ⟨X, 12, none⟩ = some (.slice (some ⟨R1, 0, none⟩) n1 n1) := by rw [bX5.cell]; rfl
  have c12b : ∀ o, (wf.alloc o).cell? ⟨X, 12, none⟩ = some (.slice (some ⟨R1, 0, none⟩) n1 n1) := fun o => by rw [(bX5.alloc o).cell]; rfl
  go_upto_region 45 with (at_builtin; refine wl_append2 rfl _ _ _ rfl 1 (.int .u8 0) Tryz.underlying22 info_u8 rfl (by decide) rfl (o1c.alloc _) rfl (sl_new wf 5 [U8V 0] _ rfl) rfl (by intro u hu; rw [List.mem_singleton.1 hu]; rfl) (by have := Hn1.out; omega) (by have := HMX.out; have := H12.out; omega) ?_; intro A5 k5 w5 hap; obtain ⟨p5, hA5, s5, hk5⟩ := app_one hap HL1.out; have HA5 := Lib.hid hA5; have HK5 := Lib.hid hk5; clear hA5 hk5; have bX6 := (bX5.alloc _).fr p5 (fun h => h); have c12c : w5.cell? ⟨X, 12, none⟩ = some (.slice (some ⟨R1, 0, none⟩) n1 n1) := (by rw [bX6.cell]; rfl); have f12 := bX6.frozen 12)
  obtain ⟨V6, hV6⟩ : ∃ V, V = w5.setCell ⟨X, 12, none⟩ (.slice A5 (n1 + 1) k5) := ⟨_, rfl⟩
  have m6 : Fr (· = X) w5 V6 := by rw [hV6]; exact (Fr.refl (· = X) w5).set1 12 _
  have bX7 : Blk V6 X 31 (bO A5 (n1 + 1) k5) := by rw [hV6]; exact bX6.set_ 12 _
  have p5' : Nw wf w5 := ((Fr.refl (fun _ => False) wf).alloc _).tr p5
  have hA5X : ∀ k, inA A5 k → ¬ k = X := fun k hk => by
    rw [HA5.out] at hk
    have h1 := (inA_some _ _).1 hk
    have h2 := bX5.lt
    have h3 : wf.heap.size ≤ (wf.alloc (.cells #[U8V 0] 5)).heap.size := by simp
    show ¬ k = X
    rw [h1]
    intro e
    have e' : (wf.alloc (.cells #[U8V 0] 5)).heap.size = X := e
    omega
  have HA5Y : RowKit.Hid (∀ k, inA A5 k → ¬ k = Y) := Lib.hid fun k hk => by
    rw [HA5.out] at hk
    have h1 := (inA_some _ _).1 hk
    have h2 := bY5.lt
    have h3 : wf.heap.size ≤ (wf.alloc (.cells #[U8V 0] 5)).heap.size := by simp
    show ¬ k = Y
    rw [h1]
    intro e
    have e' : (wf.alloc (.cells #[U8V 0] 5)).heap.size = Y := e
    omega
  have s6 := s5.fr m6 hA5X
  have bY6 := (bY5.fr p5' (fun h => h)).fr m6 (fun e => hXY e.symm)
  have o2d := (o2c.fr p5' (fun _ _ h => h)).fr m6 (fun k hk e => hR2X (((inA_some _ _).1 hk).symm.trans e))
  have hX0 : w0.heap.size ≤ X := HX0.out
  have Q5 : Nw w0 V6 := (Q4.tr p5').new m6 (fun b hb => by have h : b = X := hb; omega)
  have HV6 := Lib.hid hV6
  clear hV6 m6 bX6 c12 c12b c12c f12 p5 p5' s5 bY5 o2c bX5 o1c hA5X Q4 hap hR2X
  rw [← HV6.out]
  clear HV6
  have c8b : ∀ o, (V6.alloc o).cell? ⟨Y, 8, none⟩ = some (.slice (some ⟨R2, 0, none⟩) n2 n2) := fun o => by rw [(bY6.alloc o).cell]; rfl
  have c8 : V6.cell? ⟨Y, 8, none⟩ = some (.slice (some ⟨R2, 0, none⟩) n2 n2) := by rw [bY6.cell]; rfl
  go_upto_region 46 with (at_builtin; refine wl_append2 rfl _ _ _ rfl 1 (.int .u8 0) Tryz.underlying22 info_u8 rfl (by decide) rfl (o2d.alloc _) rfl (sl_new V6 5 [U8V 0] _ rfl) rfl (by intro u hu; rw [List.mem_singleton.1 hu]; rfl) (by have := Hn2.out; omega) (by have := HMX.out; omega) ?_; intro A7 k7 w7 hap; obtain ⟨p7, hA7, s7, hk7⟩ := app_one hap HL2.out; have HA7 := Lib.hid hA7; have HK7 := Lib.hid hk7; clear hA7 hk7; have bY7 := (bY6.alloc _).fr p7 (fun h => h); have c8c : w7.cell? ⟨Y, 8, none⟩ = some (.slice (some ⟨R2, 0, none⟩) n2 n2) := (by rw [bY7.cell]; rfl); have f8 := bY7.frozen 8)
  obtain ⟨V8, hV8⟩ : ∃ V, V = w7.setCell ⟨Y, 8, none⟩ (.slice A7 (n2 + 1) k7) := ⟨_, rfl⟩
  have m8 : Fr (· = Y) w7 V8 := by rw [hV8]; exact (Fr.refl (· = Y) w7).set1 8 _
  have bY8 : Blk V8 Y 41 (bA A7 (n2 + 1) k7) := by rw [hV8]; exact bY7.set_ 8 _
  have p7' : Nw V6 w7 := ((Fr.refl (fun _ => False) V6).alloc _).tr p7
  have hA7Y : ∀ k, inA A7 k → ¬ k = Y := fun k hk => by
    rw [HA7.out] at hk
    have h1 := (inA_some _ _).1 hk
    have h2 := bY6.lt
    have h3 : V6.heap.size ≤ (V6.alloc (.cells #[U8V 0] 5)).heap.size := by simp
    show ¬ k = Y
    rw [h1]
    intro e
    have e' : (V6.alloc (.cells #[U8V 0] 5)).heap.size = Y := e
    omega
  have s8 := s7.fr m8 hA7Y
  have bX8 := (bX7.fr p7' (fun h => h)).fr m8 hXY
  have s6b := (s6.fr p7' (fun _ _ h => h)).fr m8 (fun k hk e => HA5Y.out k hk e)
  have hY0 : w0.heap.size ≤ Y := HY0.out
  have Q8 : Nw w0 V8 := (Q5.tr p7').new m8 (fun b hb => by have h : b = Y := hb; omega)
  have HV8 := Lib.hid hV8
  clear hV8 m8 bY7 c8 c8b c8c f8 p7 p7' s7 bY6 o2d bX7 hA7Y Q5 hap s6
  rw [← HV8.out]
  clear HV8
  have RB := Lib.hid (fun wz g (q : Nw V8 wz) (hb : Blk wz g 31 (bO A5 (n1 + 1) k5)) => right_big wz _ g A5 k5 (n1 + 1) (bs1 ++ [0]) false (by rw [List.length_append, HL1.out]; rfl) (decide_eq_false (by have := Hn1.out; omega)) (by have := HM2.out; have := H12.out; omega) HK5.out hb (s6b.fr q (fun _ _ h => h)))
  have SB := Lib.hid (fun wz g (q : Nw V8 wz) (hb : Blk wz g 41 (bA A7 (n2 + 1) k7)) => sound_big wz _ g A7 k7 (n2 + 1) (bs2 ++ [0]) false (by rw [List.length_append, HL2.out]; rfl) (decide_eq_false (by have := Hn2.out; omega)) HM2.out HK7.out hb (s8.fr q (fun _ _ h => h)))
  have LX := Lib.hid (Blk.cells_at (l := [U8V 5, I64 0, I64 0, I64 0, .slice none 0 0, .bool false, .slice none 0 0, I64 1, I64 0, I64 0, .string ⟨#[]⟩, .string ⟨#[]⟩, .slice A5 (n1 + 1) k5]) bX8 0)
  have LY := Lib.hid (fun w9 (q9 : Nw V8 w9) => Blk.cells_at (l := [I64 0, I64 0, I64 0, .bool false, .bool false, .slice none 0 0, I64 0, I64 0, .slice A7 (n2 + 1) k7]) (bY8.fr q9 (fun h => h)) 0)
  clear s6b s8 bX8 bY8
  go_wp2_with (first | (refine wl_cells_want (by kernel_rfl) 31 _ rfl X 0 rfl _ _ LX.out Tryz.underlying31 rfl (by kernel_rfl) ?_) | (refine wl_buildw (by kernel_rfl) 94 1 _ 13 [[U8V 5, I64 0, I64 0, I64 0, .slice none 0 0, .bool false, .slice none 0 0, I64 1, I64 0, I64 0, .string ⟨#[]⟩, .string ⟨#[]⟩, .slice A5 (n1 + 1) k5]] (.agg #[U8V 0, I64 0, I64 0, I64 0, .slice none 0 0, .bool false, .slice none 0 0, I64 0, I64 0, I64 0, .string ⟨#[]⟩, .string ⟨#[]⟩, .slice none 0 0]) rfl Tryz.underlying94 (by kernel_rfl) rfl (by decide) (by decide) (by simp) (by decide) rfl ?_; intro g9 w9 hg9 hw9; have q9 : Nw V8 w9 := (by rw [hw9]; exact (Fr.refl (fun _ => False) _).alloc _); have b9 : Blk w9 g9 31 (bO A5 (n1 + 1) k5) := (by rw [hw9, hg9]; exact Blk.new _ _ _); clear hg9 hw9) | (go_at_call 11; refine (RB.out w9 g9 q9 b9).mono ?_; rintro e w10 ⟨rfl, q10⟩; have Q10 := q9.tr q10) | (refine wl_cells_want (by kernel_rfl) 41 _ rfl Y 0 rfl _ _ (LY.out w10 Q10) Tryz.underlying41 rfl (by kernel_rfl) ?_) | (refine wl_buildw (by kernel_rfl) 96 1 _ 9 [[I64 0, I64 0, I64 0, .bool false, .bool false, .slice none 0 0, I64 0, I64 0, .slice A7 (n2 + 1) k7]] (.agg #[I64 0, I64 0, I64 0, .bool false, .bool false, .slice none 0 0, I64 0, I64 0, .slice none 0 0]) rfl Tryz.underlying96 (by kernel_rfl) rfl (by decide) (by decide) (by simp) (by decide) rfl ?_; intro g11 w11 hg11 hw11; have q11 : Nw V8 w11 := (by rw [hw11]; exact Q10.alloc _); have b11 : Blk w11 g11 41 (bA A7 (n2 + 1) k7) := (by rw [hw11, hg11]; exact Blk.new _ _ _); clear hg11 hw11) | (go_at_call 12; refine (SB.out w11 g11 q11 b11).mono ?_; rintro e w12 ⟨rfl, q12⟩; have Q12 := q11.tr q12) | (go_at_call 13; refine (awake22_any _).mono ?_; rintro e w13 ⟨rfl, q13⟩))
  rw [HQ.out]
  first
    | (go_ret; exact ⟨rfl, hq.tr (Q8.tr (Q12.tr q13))⟩)
    | exact ⟨rfl, hq.tr (Q8.tr (Q12.tr q13))⟩
end Go.Proofs.YtkjnlhidnkbelaaGreatDoor

namespace Go.Proofs.YtkjnlhidnkbelaaGreatDoor
open Go Go.RowKit
set_option linter.unusedVariables false
set_option linter.unusedSimpArgs false

def oddK : List Int := [-9223372036854775808, -1, 0, 1, 4, 5, 8, 9, 20, 21, 99, 100, 1073741824, 1073741825]
theorem Sl.cells_ {w : World} {F : Nat → Prop} {g : Nat} {l : List Int} (h : Sl w F (some ⟨g, 0, none⟩) (l.map I64)) (k : Nat) (z : Int) (hz : l[k]? = some z) : w.cell? ⟨g, k, none⟩ = some (I64 z) := by
  have hk : k < l.length := by
    rcases Nat.lt_or_ge k l.length with h | h
    · exact h
    · rw [List.getElem?_eq_none h] at hz; cases hz
  obtain ⟨b, o, hb, _, hc⟩ := h.get hk
  cases hb
  rw [List.getElem?_eq_getElem hk] at hz
  rw [Option.some.inj hz, Nat.zero_add] at hc
  exact hc
theorem koA_at (k : Nat) (hk : k < 7) : ∃ z, koA[k]? = some z ∧ 0 ≤ z ∧ z ≤ 255 := by
  match k, hk with
  | 0, _ | 1, _ | 2, _ | 3, _ | 4, _ | 5, _ | 6, _ => exact ⟨_, rfl, by decide, by decide⟩
theorem koB_at (k : Nat) (hk : k < 7) : ∃ z, koB[k]? = some z := ⟨_, List.getElem?_eq_getElem (show k < koB.length from hk)⟩
theorem oddK_at (k : Nat) (hk : k < 14) : ∃ z, oddK[k]? = some z := ⟨_, List.getElem?_eq_getElem (show k < oddK.length from hk)⟩
theorem ptrO_at (X k : Nat) (hk : k < 7) : (#[.pointer (some ⟨X, 1, none⟩), .pointer (some ⟨X, 2, none⟩), .pointer (some ⟨X, 7, none⟩), .pointer (some ⟨X, 3, none⟩), .pointer (some ⟨X, 8, none⟩), .pointer (some ⟨X, 9, none⟩), .pointer (some ⟨X, 3, none⟩)] : Array Value)[k]? = some (.pointer (some ⟨X, offO.getD k 0, none⟩)) := by
  match k, hk with
  | 0, _ | 1, _ | 2, _ | 3, _ | 4, _ | 5, _ | 6, _ => rfl
theorem ptrY_at (X k : Nat) (hk : k < 7) : (#[.pointer (some ⟨X, 1, none⟩), .pointer (some ⟨X, 2, none⟩), .pointer (some ⟨X, 6, none⟩), .pointer (some ⟨X, 6, none⟩), .pointer (some ⟨X, 7, none⟩), .pointer (some ⟨X, 7, none⟩), .pointer (some ⟨X, 6, none⟩)] : Array Value)[k]? = some (.pointer (some ⟨X, offY.getD k 0, none⟩)) := by
  match k, hk with
  | 0, _ | 1, _ | 2, _ | 3, _ | 4, _ | 5, _ | 6, _ => rfl
theorem offO_lt (k : Nat) (hk : k < 7) : offO.getD k 0 < 13 := by
  match k, hk with
  | 0, _ | 1, _ | 2, _ | 3, _ | 4, _ | 5, _ | 6, _ => decide
theorem offY_lt (k : Nat) (hk : k < 7) : offY.getD k 0 < 9 := by
  match k, hk with
  | 0, _ | 1, _ | 2, _ | 3, _ | 4, _ | 5, _ | 6, _ => decide
def ansE (z : Int) : AnsF := ⟨z, (0, 0), false, false, [], 0, 0, []⟩
theorem ansE_in (w : World) (z : Int) : AnsIn w (fun _ => False) (ansE z) plZ := ⟨.inl rfl, .inl rfl, ⟨Nat.le_refl _, Nat.zero_le _⟩, ⟨Nat.le_refl _, Nat.zero_le _⟩⟩
theorem puts_sm (w : World) (x : OrdF) (p : Pl) (h : SmO x) (hi : OrdIn w (fun k => k < w.heap.size) x p) : Calls Tryz.prog 5 #[.agg (ofA (U8V x.kind) x p)] w fun e w' => e = .returned (.bool true) ∧ Nw w w' :=
  puts_walk w _ (fun _ h => h) x p hi h.kind h.reads.2 h.acts.2 (by have := h.acts.1; omega) (by have := h.lo; omega) (by have := h.hi; omega)
theorem OrdIn.lt_ {w : World} {F : Nat → Prop} {x : OrdF} {p : Pl} (h : OrdIn w F x p) : OrdIn w (fun k => k < w.heap.size) x p := h.mono (fun _ _ h => h)
def ixK (w : World) (n : Nat) (i : Value) (wr : World) : Prop := ∃ k : Nat, k ≤ n ∧ i = .int .i64 (k : Nat) ∧ Nw w wr
/-- The code behind loop 1. -/
noncomputable def okinds_tailC : Code := pickC [true, true, false] (Tryz.f3.body.getD .skip)
noncomputable def okinds_tailR : Code := pickC [true, true, true] (Tryz.f3.body.getD .skip)
set_option maxRecDepth 1000000 in
set_option maxHeartbeats 16000000 in
theorem okinds_loops (W w0 : World) (hq : Nw W w0) {c0 c1 c2 c3 c4 c5 c6 c7 c8 c9 c10 c11 c12 c13 c14 c15 c16 c17 c18 c19 c20 c21 c22 c23 c24 c25 c26 c27 c28 c29 c30 c31 c32 c33 c34 c35 c36 c37 c38 c39 c40 c41 c42 c43 c44 c45 c46 c47 c48 c49 c50 c51 c52 c53 c54 c55 c56 c57 c58 c59 c60 c61 c62 c63 c64 c65 c66 c67 c68 c69 c70 c71 c72 c73 c74 c75 c76 c77 c78 c79 c80 c81 c82 c83 c84 c85 c86 c87 c88 c89 c90 c91 c92 c93 c94 c95 c96 c97 c98 c99 c100 c101 c102 c103 c104 c105 c106 c107 c108 c109 c110 c111 c112 c113 c114 c115 c116 c117 c118 c119 c120 c121 c122 c123 c124 c125 c126 c127 c128 c129 c130 c131 c132 c133 c134 c135 c136 c137 c138 c139 c140 c141 c142 c143 c144 c145 c146 c147 c148 c149 c150 c151 c152 c153 c154 c155 c156 c157 c158 c159 c160 c161 c162 c163 c164 c165 c166 c167 c168 c169 c170 c171 c172 c173 c174 c175 c176 c177 c178 c179 c180 c181 c182 c183 c184 c185 c186 c187 c188 c189 c190 c191 c192 c193 c194 c195 c196 c197 c198 c199 c200 c201 : Value} (Q : Exit → Act → World → Prop) (hQ : Q = (bodyPost Tryz.prog Tryz.f3 fun e w' => e = .returned (.bool true) ∧ Nw W w')) (K : Act → World → Prop) (hK : ∀ a w, Code.wp Tryz.prog okinds_tailR Q a w → K a w) :
    Code.wp Tryz.prog okinds_tailC (Exit.then K Q) ⟨#[c0, c1, c2, c3, c4, c5, c6, c7, c8, c9, c10, c11, c12, c13, c14, c15, c16, c17, c18, c19, c20, c21, c22, c23, c24, c25, c26, c27, c28, c29, c30, c31, c32, c33, c34, c35, c36, c37, c38, c39, c40, c41, c42, c43, c44, c45, c46, c47, c48, c49, c50, c51, c52, c53, c54, c55, c56, c57, c58, c59, c60, c61, c62, c63, c64, c65, c66, c67, c68, c69, c70, c71, c72, c73, c74, c75, c76, c77, c78, c79, c80, c81, c82, c83, c84, c85, c86, c87, c88, c89, c90, c91, c92, c93, c94, c95, c96, c97, c98, c99, c100, c101, c102, c103, c104, c105, c106, c107, c108, c109, c110, c111, c112, c113, c114, c115, c116, c117, c118, c119, c120, c121, c122, c123, c124, c125, c126, c127, c128, c129, c130, c131, c132, c133, c134, c135, c136, c137, c138, c139, c140, c141, c142, c143, c144, c145, c146, c147, c148, c149, c150, c151, c152, c153, c154, c155, c156, c157, c158, c159, c160, c161, c162, c163, c164, c165, c166, c167, c168, c169, c170, c171, c172, c173, c174, c175, c176, c177, c178, c179, c180, c181, c182, c183, c184, c185, c186, c187, c188, c189, c190, c191, c192, c193, c194, c195, c196, c197, c198, c199, c200, c201], []⟩ w0 := by
  conv => arg 2; whnf
  conv at hK => enter [a, w]; lhs; arg 2; whnf
  have HQ := Lib.hid hQ
  clear hQ
  obtain ⟨O, hO⟩ : ∃ O, O = w0.heap.size := ⟨_, rfl⟩
  obtain ⟨W1, hW1⟩ : ∃ W1, W1 = w0.alloc (.cells #[I64 (-9223372036854775808), I64 (-1), I64 0, I64 1, I64 4, I64 5, I64 8, I64 9, I64 20, I64 21, I64 99, I64 100, I64 1073741824, I64 1073741825] 3) := ⟨_, rfl⟩
  have q1 : Nw w0 W1 := by rw [hW1]; exact (Fr.refl (fun _ => False) _).alloc _
  have sO : Sl W1 (· = O) (some ⟨O, 0, none⟩) (oddK.map I64) := by rw [hW1]; exact sl_new w0 3 (oddK.map I64) _ hO.symm
  have OC := Lib.hid (fun w9 (q9 : Nw W1 w9) (j : Nat) (z : Int) (hz : oddK[j]? = some z) => (sO.fr q9 (fun _ _ h => h)).cells_ j z hz)
  have HO := Lib.hid hO
  have HW1 := Lib.hid hW1
  clear hO hW1 sO
  go_upto_region 27 with (fail)
  rw [← HO.out, ← HW1.out]
  go_wp2_with fail
  go_loopw [11] (fun i wr => ixK W1 14 i wr) (fun i _ => 14 - (intOf i).toNat)
  case atStart => exact ⟨0, by omega, rfl, Fr.refl _ _⟩
  case round =>
    obtain ⟨i, hi, rfl, hq5⟩ := hrel
    obtain ⟨w5, hw5⟩ : ∃ w5, w5 = wr := ⟨_, rfl⟩
    rw [← hw5] at hq5 ⊢
    clear hw5
    by_cases hlt : i < 14
    · have hi0 : (i : Int) < 14 := by omega
      have hib : decide ((i : Int) < 14) = true := decide_eq_true hi0
      go_wp2_with fail
      try rw [hib]
      go_loopw [12] (fun k wr => ixK W1 7 k wr) (fun k _ => 7 - (intOf k).toNat)
      case atStart => exact ⟨0, by omega, rfl, hq5⟩
      case round =>
        clear hq5
        obtain ⟨k, hk, rfl, hq6⟩ := hrel
        obtain ⟨w6, hw6⟩ : ∃ w6, w6 = wr := ⟨_, rfl⟩
        rw [← hw6] at hq6 ⊢
        clear hw6
        by_cases hlk : k < 7
        · have hk0 : (k : Int) < 7 := by omega
          obtain ⟨ca, cA, ha0⟩ := koA_at k hlk
          obtain ⟨cb, cB⟩ := koB_at k hlk
          obtain ⟨z, cZ⟩ := oddK_at i hlt
          have hkb : decide (k < 7) = true := decide_eq_true hlk
          go_upto_region 33 with (fail)
          refine wp_region_k33 w6 (by kernel_rfl) (by kernel_rfl) (Fr.refl _ _) ?_
          refine wpEffT_free (fun b => .slice (some ⟨b.1, 0, none⟩) 7 7) ?_ ?_
          focus
            intro B L wz hL hD hC
            have st := hC.2
            have ST := Lib.hid st
            have HS := Lib.hid hC
            clear st
            refine .inl ⟨by rfl, ?_⟩
            unfold effAtT
            go_simp
            refine ⟨kt0 wz.heap.size, rfl, HS.out.1.step (by kernel_rfl) hD, ?_⟩
            have h9 := ST.out.seta (b := kt0 wz.heap.size) ((Fr.refl (fun _ => False) wz).alloc _) ((show Sl (wz.alloc (.cells #[I64 1, I64 1, I64 3, I64 6, I64 12, I64 11, I64 1] 3)) (· = wz.heap.size) (some ⟨wz.heap.size, 0, none⟩) (koA.map I64) from sl_new wz 3 (koA.map I64) _ rfl).mono (F' := fun k => wz.heap.size ≤ k) (fun k hk _ => Nat.le_of_eq (Eq.symm hk)))
            simpa [onL, updT] using h9
          simp only [Act.put, List.setIfInBounds_toArray, List.set_cons_zero, List.set_cons_succ]
          apply wpEffT_cons
          focus
            intro B L wz hL hD hC
            refine .inl ⟨by rfl, ?_⟩
            unfold effAt
            go_simp
            exact ⟨rfl, hC.1.step (by kernel_rfl) hD, by simpa [onL] using hC.2⟩
          simp only [Act.put, List.setIfInBounds_toArray, List.set_cons_zero, List.set_cons_succ]
          refine wpEffT_dep (fun B => .pointer (some ⟨(B 0).1, k, none⟩)) (fun B B' h => by dsimp only; rw [h 0 (by kernel_rfl)]) ?_ ?_
          focus
            intro B L wz hL hD hC
            refine .inl ⟨by rfl, ?_⟩
            unfold effAt
            go_simp
            exact ⟨rfl, hC.1.step (by kernel_rfl) hD, by simpa [onL] using hC.2⟩
          simp only [Act.put, List.setIfInBounds_toArray, List.set_cons_zero, List.set_cons_succ]
          apply wpEffT_cons
          focus
            intro B L wz hL hD hC
            have c0 := (hC.2.pa (hC.1.of (a := 2) (b := 0) (by kernel_rfl) (hD 2 (by kernel_rfl)))).cells_ k ca cA
            refine .inl ⟨by rfl, ?_⟩
            unfold effAt
            go_simp
            exact ⟨rfl, hC.1.step (by kernel_rfl) hD, by simpa [onL] using hC.2⟩
          simp only [Act.put, List.setIfInBounds_toArray, List.set_cons_zero, List.set_cons_succ]
          refine wpEffT_free (fun b => .slice (some ⟨b.1, 0, none⟩) 7 7) ?_ ?_
          focus
            intro B L wz hL hD hC
            have st := hC.2
            have ST := Lib.hid st
            have HS := Lib.hid hC
            clear st
            refine .inl ⟨by rfl, ?_⟩
            unfold effAtT
            go_simp
            refine ⟨kt0 wz.heap.size, rfl, HS.out.1.step (by kernel_rfl) hD, ?_⟩
            have h9 := ST.out.setb (b := kt0 wz.heap.size) ((Fr.refl (fun _ => False) wz).alloc _) ((show Sl (wz.alloc (.cells #[I64 1016, I64 1016, I64 733, I64 989, I64 927, I64 639, I64 1016] 3)) (· = wz.heap.size) (some ⟨wz.heap.size, 0, none⟩) (koB.map I64) from sl_new wz 3 (koB.map I64) _ rfl).mono (F' := fun k => wz.heap.size ≤ k) (fun k hk _ => Nat.le_of_eq (Eq.symm hk)))
            simpa [onL, updT] using h9
          simp only [Act.put, List.setIfInBounds_toArray, List.set_cons_zero, List.set_cons_succ]
          apply wpEffT_cons
          focus
            intro B L wz hL hD hC
            refine .inl ⟨by rfl, ?_⟩
            unfold effAt
            go_simp
            exact ⟨rfl, hC.1.step (by kernel_rfl) hD, by simpa [onL] using hC.2⟩
          simp only [Act.put, List.setIfInBounds_toArray, List.set_cons_zero, List.set_cons_succ]
          refine wpEffT_dep (fun B => .pointer (some ⟨(B 4).1, k, none⟩)) (fun B B' h => by dsimp only; rw [h 4 (by kernel_rfl)]) ?_ ?_
          focus
            intro B L wz hL hD hC
            refine .inl ⟨by rfl, ?_⟩
            unfold effAt
            go_simp
            exact ⟨rfl, hC.1.step (by kernel_rfl) hD, by simpa [onL] using hC.2⟩
          simp only [Act.put, List.setIfInBounds_toArray, List.set_cons_zero, List.set_cons_succ]
          apply wpEffT_cons
          focus
            intro B L wz hL hD hC
            have c0 := (hC.2.pb (hC.1.of (a := 6) (b := 4) (by kernel_rfl) (hD 6 (by kernel_rfl)))).cells_ k cb cB
            refine .inl ⟨by rfl, ?_⟩
            unfold effAt
            go_simp
            exact ⟨rfl, hC.1.step (by kernel_rfl) hD, by simpa [onL] using hC.2⟩
          simp only [Act.put, List.setIfInBounds_toArray, List.set_cons_zero, List.set_cons_succ]
          refine wpEffT_free (fun b => .agg (ofA (U8V b.2.1.kind) b.2.1 b.2.2)) ?_ ?_
          focus
            intro B L wz hL hD hC
            have n17 := hC.1.no (a := 17) (b := 8) (by kernel_rfl) hL
            have st := hC.2
            rw [hL, n17] at st
            have ST := Lib.hid st
            have HS := Lib.hid hC
            clear st
            refine .inl ⟨by rfl, ?_⟩
            unfold effAtT
            go_simp
            refine (kinds_any wz ca cb (by omega) (by omega)).mono ?_
            rintro e w9 ⟨x, p, rfl, hsm, hi, q9⟩
            refine ⟨(0, x, p), rfl, HS.out.1.step (by kernel_rfl) hD, ?_⟩
            have h9 := ST.out.setk (b := (0, x, p)) q9 hsm hi
            simpa [onL, updT, n17] using h9
          simp only [Act.put, List.setIfInBounds_toArray, List.set_cons_zero, List.set_cons_succ]
          refine wpEffT_free (fun b => .agg (ofA (U8V 0) wholeO b.2.2)) ?_ ?_
          focus
            intro B L wz hL hD hC
            refine .inl ⟨by rfl, ?_⟩
            have HS := Lib.hid hC
            unfold effAtT
            go_simp
            refine (whole_any wz).mono ?_
            rintro e w9 ⟨p, rfl, hi, q9⟩
            refine ⟨(0, wholeO, p), rfl, HS.out.1.step (by kernel_rfl) hD, ?_⟩
            have h9 := HS.out.2.step q9
            simpa [onL, updT] using h9
          simp only [Act.put, List.setIfInBounds_toArray, List.set_cons_zero, List.set_cons_succ]
          refine wpEffT_cons (v := .agg #[I64 3, I64 300]) ?_ ?_
          focus
            intro B L wz hL hD hC
            refine .inl ⟨by rfl, ?_⟩
            unfold effAt
            go_simp
            exact ⟨by first | rfl | kernel_rfl, hC.1.step (by kernel_rfl) hD, by simpa [onL] using hC.2⟩
          simp only [Act.put, List.setIfInBounds_toArray, List.set_cons_zero, List.set_cons_succ]
          refine wpEffT_free (fun b => .agg (ofA (U8V 0) wholeO b.2.2)) ?_ ?_
          focus
            intro B L wz hL hD hC
            have n14 := hC.1.no (a := 14) (b := 12) (by kernel_rfl) (hC.1.no (a := 12) (b := 11) (by kernel_rfl) hL)
            have n18 := hC.1.no (a := 18) (b := 14) (by kernel_rfl) n14
            have st := hC.2
            rw [hL, n18] at st
            have ST := Lib.hid st
            have HS := Lib.hid hC
            clear st
            refine .inl ⟨by rfl, ?_⟩
            unfold effAtT
            go_simp
            refine (whole_any wz).mono ?_
            rintro e w9 ⟨p, rfl, hi, q9⟩
            refine ⟨(0, wholeO, p), rfl, HS.out.1.step (by kernel_rfl) hD, ?_⟩
            have h9 := ST.out.setw (b := (0, wholeO, p)) q9 hi
            simpa [onL, updT, n18] using h9
          simp only [Act.put, List.setIfInBounds_toArray, List.set_cons_zero, List.set_cons_succ]
          refine wpEffT_dep (fun B => .slice (B 11).2.2.r 2 (B 11).2.2.cr) (fun B B' h => by dsimp only; rw [h 11 (by kernel_rfl)]) ?_ ?_
          focus
            intro B L wz hL hD hC
            refine .inl ⟨by rfl, ?_⟩
            unfold effAt
            go_simp
            exact ⟨by first | rfl | kernel_rfl, hC.1.step (by kernel_rfl) hD, by simpa [onL] using hC.2⟩
          simp only [Act.put, List.setIfInBounds_toArray, List.set_cons_zero, List.set_cons_succ]
          refine wpEffT_free (fun b => .slice (some ⟨b.1, 0, none⟩) 1 1) ?_ ?_
          focus
            intro B L wz hL hD hC
            have n14 := hC.1.no (a := 14) (b := 13) (by kernel_rfl) hL
            have n18 := hC.1.no (a := 18) (b := 14) (by kernel_rfl) n14
            have st := hC.2
            rw [hL, n18] at st
            have ST := Lib.hid st
            have HS := Lib.hid hC
            clear st
            refine .inl ⟨by rfl, ?_⟩
            unfold effAtT
            go_simp
            refine ⟨kt0 wz.heap.size, rfl, HS.out.1.step (by kernel_rfl) hD, ?_⟩
            have h9 := ST.out.set3 (b := kt0 wz.heap.size) ((Fr.refl (fun _ => False) wz).alloc _) ((show Sl (wz.alloc (.cells #[U8V 1] 5)) (· = wz.heap.size) (some ⟨wz.heap.size, 0, none⟩) ([1].map B8) from sl_new wz 5 ([1].map B8) _ rfl).mono (F' := fun k => wz.heap.size ≤ k) (fun k hk _ => Nat.le_of_eq (Eq.symm hk)))
            simpa [onL, updT, n18] using h9
          simp only [Act.put, List.setIfInBounds_toArray, List.set_cons_zero, List.set_cons_succ]
          refine wpEffT_dep (fun B => .agg (afA ansY (plY (B 11).2.2 (B 13).1))) (fun B B' h => by dsimp only; rw [h 11 (by kernel_rfl), h 13 (by kernel_rfl)]) ?_ ?_
          focus
            intro B L wz hL hD hC
            refine .inl ⟨by rfl, ?_⟩
            unfold effAt
            go_simp
            exact ⟨by first | rfl | kernel_rfl, hC.1.step (by kernel_rfl) hD, by simpa [onL] using hC.2⟩
          simp only [Act.put, List.setIfInBounds_toArray, List.set_cons_zero, List.set_cons_succ]
          refine wpEffT_free (fun b => .pointer (some ⟨b.1, 0, none⟩)) ?_ ?_
          focus
            intro B L wz hL hD hC
            have n17 := hC.1.no (a := 17) (b := 15) (by kernel_rfl) hL
            have st := hC.2
            rw [hL, n17] at st
            have ST := Lib.hid st
            have HS := Lib.hid hC
            clear st
            refine .inl ⟨by rfl, ?_⟩
            unfold effAtT
            go_simp
            refine ⟨kt0 wz.heap.size, rfl, HS.out.1.step (by kernel_rfl) hD, ?_⟩
            have h9 := ST.out.alloc1
            simp [onL, updT, n17, kt0] at h9 ⊢
            exact h9
          simp only [Act.put, List.setIfInBounds_toArray, List.set_cons_zero, List.set_cons_succ]
          refine wpEffT_free (fun b => .pointer (some ⟨b.1, 0, none⟩)) ?_ ?_
          focus
            intro B L wz hL hD hC
            have n18 := hC.1.no (a := 18) (b := 16) (by kernel_rfl) hL
            have st := hC.2
            rw [hL, n18] at st
            have ST := Lib.hid st
            have HS := Lib.hid hC
            clear st
            refine .inl ⟨by rfl, ?_⟩
            unfold effAtT
            go_simp
            refine ⟨kt0 wz.heap.size, rfl, HS.out.1.step (by kernel_rfl) hD, ?_⟩
            have h9 := ST.out.alloc2
            simp [onL, updT, n18, kt0] at h9 ⊢
            exact h9
          simp only [Act.put, List.setIfInBounds_toArray, List.set_cons_zero, List.set_cons_succ]
          apply wpEffT_cons
          focus
            intro B L wz hL hD hC
            have a15 := hD 15 (by kernel_rfl)
            have a8 := hD 8 (by kernel_rfl)
            have st := hC.2
            rw [hL, a15, a8] at st
            obtain ⟨_, hb9⟩ := st.x1 rfl
            have h9 := st.store1
            have HS := Lib.hid hC
            refine .inl ⟨by rfl, ?_⟩
            exact effAt_store_row 31 _ _ rfl (B 15).1 (ofA (U8V (B 8).2.1.kind) (B 8).2.1 (B 8).2.2) rfl rfl 31 _ hb9 ord_size rfl (of_one _ rfl _ _) ⟨HS.out.1.step (by kernel_rfl) hD, by simpa [onL, a15, a8] using h9⟩
          simp only [Act.put, List.setIfInBounds_toArray, List.set_cons_zero, List.set_cons_succ]
          apply wpEffT_cons
          focus
            intro B L wz hL hD hC
            have a16 := hD 16 (by kernel_rfl)
            have a14 := hD 14 (by kernel_rfl)
            have a13 := hC.1.of (a := 14) (b := 13) (by kernel_rfl) a14
            have a12 := hC.1.of (a := 14) (b := 12) (by kernel_rfl) a14
            have a11 := hC.1.of (a := 12) (b := 11) (by kernel_rfl) a12
            have st := hC.2
            rw [hL, a16, a13, a11] at st
            obtain ⟨_, hb9⟩ := st.x2 rfl
            have h9 := st.store2
            have HS := Lib.hid hC
            refine .inl ⟨by rfl, ?_⟩
            exact effAt_store_row 41 _ _ rfl (B 16).1 (afA ansY (plY (B 11).2.2 (B 13).1)) rfl rfl 41 _ hb9 ans_size rfl (af_one _ _) ⟨HS.out.1.step (by kernel_rfl) hD, by simpa [onL, a16, a13, a11] using h9⟩
          simp only [Act.put, List.setIfInBounds_toArray, List.set_cons_zero, List.set_cons_succ]
          refine wpEffT_nil fun B wf hC => ?_
          have st : KS w6 true true true true true true true true true (B 0) (B 4) (B 8) (B 11) (B 13) (B 15).1 (B 16).1 wf := hC.2
          clear hC
          obtain ⟨X, hX⟩ : ∃ X, X = (B 15).1 := ⟨_, rfl⟩
          obtain ⟨Y, hY⟩ : ∃ Y, Y = (B 16).1 := ⟨_, rfl⟩
          rw [← hX, ← hY] at st ⊢
          clear hX hY
          obtain ⟨hX0, bX⟩ := st.x1 rfl
          obtain ⟨hY0, bY⟩ := st.x2 rfl
          obtain ⟨smx, iX⟩ := st.pk rfl
          have iY : AnsIn wf (kq w6 true true X Y) ansY (plY (B 11).2.2 (B 13).1) := ⟨(st.pw rfl).reads, st.p3 rfl, (st.pw rfl).cr, ⟨Nat.le_refl _, by show 1 ≤ maxLen; unfold maxLen; omega⟩⟩
          rw [if_pos rfl] at bX bY
          have hXY := st.ne rfl rfl
          have qf := st.nw
          obtain ⟨x, hx⟩ : ∃ x, x = (B 8).2.1 := ⟨_, rfl⟩
          obtain ⟨p, hp⟩ : ∃ p, p = (B 8).2.2 := ⟨_, rfl⟩
          obtain ⟨py, hpy⟩ : ∃ p, p = plY (B 11).2.2 (B 13).1 := ⟨_, rfl⟩
          rw [← hx] at bX smx iX
          rw [← hp] at bX iX
          rw [← hpy] at bY iY
          clear st hx hp hpy
          have HXY := Lib.hid hXY
          clear hXY
          obtain ⟨P1, hP1⟩ : ∃ P, P = wf.heap.size := ⟨_, rfl⟩
          obtain ⟨V1, hV1⟩ : ∃ V, V = wf.alloc (.cells #[.pointer (some ⟨X, 1, none⟩), .pointer (some ⟨X, 2, none⟩), .pointer (some ⟨X, 7, none⟩), .pointer (some ⟨X, 3, none⟩), .pointer (some ⟨X, 8, none⟩), .pointer (some ⟨X, 9, none⟩), .pointer (some ⟨X, 3, none⟩)] 42) := ⟨_, rfl⟩
          have bP1 : Blk V1 P1 42 #[.pointer (some ⟨X, 1, none⟩), .pointer (some ⟨X, 2, none⟩), .pointer (some ⟨X, 7, none⟩), .pointer (some ⟨X, 3, none⟩), .pointer (some ⟨X, 8, none⟩), .pointer (some ⟨X, 9, none⟩), .pointer (some ⟨X, 3, none⟩)] := by rw [hV1, hP1]; exact Blk.new _ _ _
          have e1 : Nw wf V1 := by rw [hV1]; exact (Fr.refl (fun _ => False) _).alloc _
          have HP1 := Lib.hid hP1
          have HV1 := Lib.hid hV1
          clear hP1 hV1
          go_upto_region 35 with (fail)
          rw [← HP1.out, ← HV1.out]
          clear HP1 HV1
          obtain ⟨P2, hP2⟩ : ∃ P, P = V1.heap.size := ⟨_, rfl⟩
          obtain ⟨V2, hV2⟩ : ∃ V, V = V1.alloc (.cells #[.pointer (some ⟨Y, 1, none⟩), .pointer (some ⟨Y, 2, none⟩), .pointer (some ⟨Y, 6, none⟩), .pointer (some ⟨Y, 6, none⟩), .pointer (some ⟨Y, 7, none⟩), .pointer (some ⟨Y, 7, none⟩), .pointer (some ⟨Y, 6, none⟩)] 42) := ⟨_, rfl⟩
          have bP2 : Blk V2 P2 42 #[.pointer (some ⟨Y, 1, none⟩), .pointer (some ⟨Y, 2, none⟩), .pointer (some ⟨Y, 6, none⟩), .pointer (some ⟨Y, 6, none⟩), .pointer (some ⟨Y, 7, none⟩), .pointer (some ⟨Y, 7, none⟩), .pointer (some ⟨Y, 6, none⟩)] := by rw [hV2, hP2]; exact Blk.new _ _ _
          have e2 : Nw V1 V2 := by rw [hV2]; exact (Fr.refl (fun _ => False) _).alloc _
          have hP2X : ¬ P2 = X := by have h1 := bX.lt; have h2 := e1.size; omega
          have HP2 := Lib.hid hP2
          have HV2 := Lib.hid hV2
          clear hP2 hV2
          go_upto_region 36 with (fail)
          rw [← HP2.out, ← HV2.out]
          clear HP2 HV2
          have bX2 := (bX.fr e1 (fun h => h)).fr e2 (fun h => h)
          have bY2 := (bY.fr e1 (fun h => h)).fr e2 (fun h => h)
          have iX2 := (iX.fr e1 (fun _ _ h => h)).fr e2 (fun _ _ h => h)
          have iY2 := (iY.fr e1 (fun _ _ h => h)).fr e2 (fun _ _ h => h)
          have bP1b := bP1.fr e2 (fun h => h)
          have q2 : Nw w6 V2 := (qf.tr e1).tr e2
          clear bX bY iX iY bP1 qf e1 e2
          have cO := OC.out V2 (hq6.tr q2) i z cZ
          have cP : V2.cell? ⟨P1, k, none⟩ = some (.pointer (some ⟨X, offO.getD k 0, none⟩)) := by rw [bP1b.cell]; exact ptrO_at X k hlk
          obtain ⟨hsx, hix, hmx⟩ := setO_cells x p z k hlk
          have hof := offO_lt k hlk
          obtain ⟨of, hofe⟩ : ∃ of, offO.getD k 0 = of := ⟨_, rfl⟩
          rw [hofe] at cP hsx hof
          obtain ⟨u, hcu⟩ : ∃ u, V2.cell? ⟨X, of, none⟩ = some u := by
            rw [bX2.cell]
            exact ⟨_, Array.getElem?_eq_getElem (show of < (ofA (U8V x.kind) x p).size from hof)⟩
          have hfz := bX2.frozen of
          have bs := (bX2.set_ of (I64 z)).drew
          rw [hsx] at bs
          have m3 : Fr (· = X) V2 (V2.setCell ⟨X, of, none⟩ (I64 z)).drew := ((Fr.refl (· = X) V2).set1 _ _).drew
          obtain ⟨V3, hV3⟩ : ∃ V, V = (V2.setCell ⟨X, of, none⟩ (I64 z)).drew := ⟨_, rfl⟩
          rw [← hV3] at bs m3
          have hkX : ∀ k, kq w6 true true X Y k → ¬ k = X := fun k hk => hk.2.1 rfl
          have q3 : Nw w6 V3 := q2.new m3 (fun b hb => by omega)
          have iX3 := hix _ _ (iX2.fr m3 hkX)
          have smx3 := hmx smx
          have bY3 := bY2.fr m3 (fun e => HXY.out e.symm)
          have iY3 := iY2.fr m3 hkX
          have bP2b := bP2.fr m3 hP2X
          obtain ⟨x', hx'⟩ : ∃ x', x' = setO x k z := ⟨_, rfl⟩
          rw [← hx'] at bs iX3 smx3
          have HV3 := Lib.hid hV3
          clear hofe hV3 m3 bX2 hsx hix hmx hx' bP1b
          go_wp2_with fail
          refine wp_region_tail 9 (by kernel_rfl) (by kernel_rfl) ?_
          simp only [List.take_succ_cons, List.take_zero, List.drop_succ_cons, List.drop_zero]
          repeat (first | still_step)
          refine wpStill_nil ?_
          go_upto_region 37 with (fail)
          rw [← HV3.out]
          clear HV3 cO cP hcu hfz hof
          have cO := OC.out V3 (hq6.tr q3) i z cZ
          have cP : V3.cell? ⟨P2, k, none⟩ = some (.pointer (some ⟨Y, offY.getD k 0, none⟩)) := by rw [bP2b.cell]; exact ptrY_at Y k hlk
          obtain ⟨hsy, hiy, hry⟩ := setY_cells ansY py z k hlk
          have hof := offY_lt k hlk
          obtain ⟨of2, hofe⟩ : ∃ of, offY.getD k 0 = of := ⟨_, rfl⟩
          rw [hofe] at cP hsy hof
          obtain ⟨u2, hcu⟩ : ∃ u, V3.cell? ⟨Y, of2, none⟩ = some u := by
            rw [bY3.cell]
            exact ⟨_, Array.getElem?_eq_getElem (show of2 < (afA ansY py).size from hof)⟩
          have hfz := bY3.frozen of2
          have bt := (bY3.set_ of2 (I64 z)).drew
          rw [hsy] at bt
          have m4 : Fr (· = Y) V3 (V3.setCell ⟨Y, of2, none⟩ (I64 z)).drew := ((Fr.refl (· = Y) V3).set1 _ _).drew
          obtain ⟨V4, hV4⟩ : ∃ V, V = (V3.setCell ⟨Y, of2, none⟩ (I64 z)).drew := ⟨_, rfl⟩
          rw [← hV4] at bt m4
          have hkY : ∀ k, kq w6 true true X Y k → ¬ k = Y := fun k hk => hk.2.2 rfl
          have q4 : Nw w6 V4 := q3.new m4 (fun b hb => by omega)
          have iY4 := hiy _ _ (iY3.fr m4 hkY)
          have iX4 := iX3.fr m4 hkY
          have bX4 := bs.fr m4 HXY.out
          have hry4 : RdgSz (setY ansY k z).reads := by rw [hry]; exact wholeO_sm.reads.2
          obtain ⟨y', hy'⟩ : ∃ y', y' = setY ansY k z := ⟨_, rfl⟩
          rw [← hy'] at bt iY4 hry4
          have HV4 := Lib.hid hV4
          clear hofe hV4 m4 bY3 hsy hiy hry hy' bs iX3 iY3 bP2b bP2 bY2 iX2 iY2
          go_wp2_with fail
          refine wp_region_tail 9 (by kernel_rfl) (by kernel_rfl) ?_
          simp only [List.take_succ_cons, List.take_zero, List.drop_succ_cons, List.drop_zero]
          repeat (first | still_step)
          refine wpStill_nil ?_
          go_upto_region 38 with (fail)
          rw [← HV4.out]
          clear HV4 cO cP hcu hfz hof
          have cO := OC.out V4 (hq6.tr q4) i z cZ
          obtain ⟨Z, hZ⟩ : ∃ Z, Z = V4.heap.size := ⟨_, rfl⟩
          obtain ⟨V5, hV5⟩ : ∃ V, V = V4.alloc (.cells zAf 41) := ⟨_, rfl⟩
          have bZ5 : Blk V5 Z 41 zAf := by rw [hV5, hZ]; exact Blk.new _ _ _
          have e5 : Nw V4 V5 := by rw [hV5]; exact (Fr.refl (fun _ => False) _).alloc _
          obtain ⟨V6, hV6⟩ : ∃ V, V = V5.setRow Z (afA (ansE z) plZ) := ⟨_, rfl⟩
          have m6 : Fr (· = Z) V5 V6 := by rw [hV6]; exact (Fr.refl (· = Z) V5).setRow (.inl rfl) _
          have e6 : Nw V4 V6 := e5.new m6 (fun b hb => by omega)
          have bZ6 : Blk V6 Z 41 (afA (ansE z) plZ) := by rw [hV6]; exact bZ5.row _
          have bX6 := bX4.fr e6 (fun h => h)
          have bY6 := bt.fr e6 (fun h => h)
          have iX6 := iX4.fr e6 (fun _ _ h => h)
          have iY6 := iY4.fr e6 (fun _ _ h => h)
          have q6 := q4.tr e6
          have HZ := Lib.hid hZ
          have HV5 := Lib.hid hV5
          have HV6 := Lib.hid hV6
          clear hZ hV5 hV6 e5 m6 e6 bX4 bt iX4 iY4
          go_upto_region 39 with (rw [← HZ.out, ← HV5.out]; refine wpList_store_row rfl 41 _ _ rfl Z (afA (ansE z) plZ) rfl rfl 41 _ bZ5 ans_size rfl (af_one _ _) ?_; rw [← HV6.out])
          clear HZ HV5 HV6 bZ5 cO
          have hpx := puts_sm V6 x' p smx3 (iX6.lt_)
          have hty := fun w9 (q9 : Nw V6 w9) => tells_walk w9 _ y' py (iY6.fr q9 (fun _ _ h => h)) hry4
          have htz := fun w9 => tells_walk w9 (fun _ => False) (ansE z) plZ (ansE_in w9 z) rdg_nil
          have lX : ∀ p' u, (ofA (U8V x'.kind) x' p).toList[p']? = some u → V6.cell? ⟨X, 0 + p', none⟩ = some u := Blk.cells_at (l := (ofA (U8V x'.kind) x' p).toList) bX6 0
          have lY : ∀ w9, Nw V6 w9 → ∀ p' u, (afA y' py).toList[p']? = some u → w9.cell? ⟨Y, 0 + p', none⟩ = some u := fun w9 q9 => Blk.cells_at (l := (afA y' py).toList) (bY6.fr q9 (fun h => h)) 0
          have lZ : ∀ w9, Nw V6 w9 → ∀ p' u, (afA (ansE z) plZ).toList[p']? = some u → w9.cell? ⟨Z, 0 + p', none⟩ = some u := fun w9 q9 => Blk.cells_at (l := (afA (ansE z) plZ).toList) (bZ6.fr q9 (fun h => h)) 0
          have HPX := Lib.hid hpx
          have HTY := Lib.hid hty
          have HTZ := Lib.hid htz
          have LX := Lib.hid lX
          have LY := Lib.hid lY
          have LZ := Lib.hid lZ
          clear hpx hty htz lX lY lZ bX6 bY6 bZ6 iX6 iY6
          go_wp2_with (first | (refine wl_cells_want (by kernel_rfl) 31 _ rfl X 0 rfl _ _ LX.out Tryz.underlying31 rfl (by kernel_rfl) ?_) | (go_at_call 5; refine HPX.out.mono ?_; rintro e w7 ⟨rfl, q7⟩) | (refine wl_cells_want (by kernel_rfl) 41 _ rfl Y 0 rfl _ _ (LY.out w7 q7) Tryz.underlying41 rfl (by kernel_rfl) ?_) | (refine wl_cells_want (by kernel_rfl) 41 _ rfl Z 0 rfl _ _ (LZ.out w8 (q7.tr q8)) Tryz.underlying41 rfl (by kernel_rfl) ?_) | (go_at_call 6; refine (HTZ.out w8).mono ?_; rintro e w9 ⟨rfl, q9⟩) | (go_at_call 6; refine (HTY.out w7 q7).mono ?_; rintro e w8 ⟨rfl, q8⟩))
          go_roundw
          case rel => exact ⟨k + 1, hlk, by go_num, hq6.tr (q6.tr ((q7.tr q8).tr q9))⟩
          case measure => simp [intOf]; omega
        · obtain rfl : k = 7 := by omega
          go_wp2_with fail
          go_roundw
          case rel => exact ⟨i + 1, hlt, by go_num, hq6⟩
          case measure => simp [intOf]; omega
    · obtain rfl : i = 14 := by omega
      go_upto_region 41 with (fail)
      rename_i hK41
      exact okinds_end W w5 (hq.tr (q1.tr hq5)) Q HQ.out _ hK41
end Go.Proofs.YtkjnlhidnkbelaaGreatDoor
