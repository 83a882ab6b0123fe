/- Lemmas of the walks: NeA, NeC, NeD. (Laid together by shake.py.) -/
import Derived.Test.YtippdjaakcgeoaaGreatNe10
import Derived.Test.YtippdjaakcgeoaaGreatNe25
set_option linter.unusedVariables false
set_option linter.unusedSimpArgs false
namespace Go.Proofs.YtippdjaakcgeoaaGreat
open Go Go.RowKit
set_option linter.unusedVariables false
set_option linter.unusedSimpArgs false

/-- A slice of structs written out, in a drawn region. -/
theorem effAtT_buildN {P : Program} {T : Type} {E : TypeId} {w : World} {o : Oper} {a : Act} {vf : T → Value} {K : T → World → Prop} (t : TypeId) (n : Nat) (ps : List (Nat × Operand)) (C : Nat) (vs : List (List Value)) (z : Value) (ho : o.op = .buildSlice t n ps.toArray) (ht : P.underlying t = some (.slice E)) (hinfo : (P.info? E).map (fun i => (i.zero, i.size)) = some (some z, C))
    (hn : vs.length = n) (hn0 : 0 < n) (hC : 0 < C) (hl : ∀ v ∈ vs, v.length = C) (hsz : n * C ≤ 16777216)
    (hp : (ps.map fun (i, x) => (i, a.eval x)) = (vs.zipIdx 0).map fun p => (p.2, Value.agg p.1.toArray))
    (h : ∃ b, .slice (some ⟨w.heap.size, 0, none⟩) n n = vf b ∧ K b (w.alloc (.cells vs.flatten.toArray E))) : effAtT P o a vf K w := by
  subst hn
  unfold effAtT execOp
  simp only [ho, List.map_toArray, hp]
  rw [Sem.run_bind, run_build w t E C vs z ht hinfo hn0 hC hl hsz]
  exact h
/-- Three slices written out in one drawn region: the second holds the first. -/
def Bl3 (md : Region.Mode) (ops : Array Oper) (k1 k2 k3 : Nat) (W1 : World) (c1 : List Value) (c2 : Nat → List Value) (c3 : List Value) (L : Nat → Bool) (B : BkT Nat) (w : World) : Prop :=
  DownB md ops L ∧ Nw W1 w ∧ (L k1 = true → Sl w (· = B k1) (some ⟨B k1, 0, none⟩) c1) ∧ (L k2 = true → Sl w (· = B k2) (some ⟨B k2, 0, none⟩) (c2 (B k1))) ∧ (L k3 = true → Sl w (· = B k3) (some ⟨B k3, 0, none⟩) c3)
section
variable {md : Region.Mode} {ops : Array Oper} {k1 k2 k3 : Nat} {W1 w w' : World} {c1 c3 : List Value} {c2 : Nat → List Value} {L : Nat → Bool} {B : BkT Nat} {o : Oper}
theorem Bl3.step (h : Bl3 md ops k1 k2 k3 W1 c1 c2 c3 L B w) (q : Nw w w') {j : Nat} (ho : ops[j]? = some o) (hD : ∀ i, waitsFor md o i = true → L i = true) (n1 : (k1 != j) = true) (n2 : (k2 != j) = true) (n3 : (k3 != j) = true) : Bl3 md ops k1 k2 k3 W1 c1 c2 c3 (onL L j) B w' :=
  ⟨h.1.step ho hD, h.2.1.tr q, by rw [onL_neB n1]; exact fun e => (h.2.2.1 e).fr q (fun _ _ h => h), by rw [onL_neB n2]; exact fun e => (h.2.2.2.1 e).fr q (fun _ _ h => h), by rw [onL_neB n3]; exact fun e => (h.2.2.2.2 e).fr q (fun _ _ h => h)⟩
theorem Bl3.keep (h : Bl3 md ops k1 k2 k3 W1 c1 c2 c3 L B w) {j : Nat} (ho : ops[j]? = some o) (hD : ∀ i, waitsFor md o i = true → L i = true) (n1 : (k1 != j) = true) (n2 : (k2 != j) = true) (n3 : (k3 != j) = true) : Bl3 md ops k1 k2 k3 W1 c1 c2 c3 (onL L j) B w := h.step (Fr.refl _ _) ho hD n1 n2 n3
theorem Bl3.b1 (h : Bl3 md ops k1 k2 k3 W1 c1 c2 c3 L B w) (hL : L k1 = false) (m : Nat) (h2 : waitsB md ops m k1 = true) (h3 : waitsB md ops k2 m = true) (q : Nw w w') (ho : ops[k1]? = some o) (hD : ∀ i, waitsFor md o i = true → L i = true) (n2 : (k2 != k1) = true) (n3 : (k3 != k1) = true) {b : Nat} (hs : Sl w' (· = b) (some ⟨b, 0, none⟩) c1) : Bl3 md ops k1 k2 k3 W1 c1 c2 c3 (onL L k1) (updT B k1 b) w' := by
  have l2 := h.1.no h3 (h.1.no h2 hL)
  refine ⟨h.1.step ho hD, h.2.1.tr q, fun _ => by rw [updT_at]; exact hs, ?_, ?_⟩
  · rw [onL_neB n2, l2]; exact fun e => by cases e
  · rw [onL_neB n3, updT_neB n3]; exact fun e => (h.2.2.2.2 e).fr q (fun _ _ h => h)
theorem Bl3.b2 (h : Bl3 md ops k1 k2 k3 W1 c1 c2 c3 L B w) (q : Nw w w') (ho : ops[k2]? = some o) (hD : ∀ i, waitsFor md o i = true → L i = true) (n1 : (k1 != k2) = true) (n3 : (k3 != k2) = true) {b : Nat} (hs : Sl w' (· = b) (some ⟨b, 0, none⟩) (c2 (B k1))) : Bl3 md ops k1 k2 k3 W1 c1 c2 c3 (onL L k2) (updT B k2 b) w' := by
  refine ⟨h.1.step ho hD, h.2.1.tr q, ?_, fun _ => by rw [updT_at, updT_neB n1]; exact hs, ?_⟩
  · rw [onL_neB n1, updT_neB n1]; exact fun e => (h.2.2.1 e).fr q (fun _ _ h => h)
  · rw [onL_neB n3, updT_neB n3]; exact fun e => (h.2.2.2.2 e).fr q (fun _ _ h => h)
theorem Bl3.b3 (h : Bl3 md ops k1 k2 k3 W1 c1 c2 c3 L B w) (q : Nw w w') (ho : ops[k3]? = some o) (hD : ∀ i, waitsFor md o i = true → L i = true) (n1 : (k1 != k3) = true) (n2 : (k2 != k3) = true) {b : Nat} (hs : Sl w' (· = b) (some ⟨b, 0, none⟩) c3) : Bl3 md ops k1 k2 k3 W1 c1 c2 c3 (onL L k3) (updT B k3 b) w' := by
  refine ⟨h.1.step ho hD, h.2.1.tr q, ?_, ?_, fun _ => by rw [updT_at]; exact hs⟩
  · rw [onL_neB n1, updT_neB n1]; exact fun e => (h.2.2.1 e).fr q (fun _ _ h => h)
  · rw [onL_neB n2, updT_neB n2, updT_neB n1]; exact fun e => (h.2.2.2.1 e).fr q (fun _ _ h => h)
end
theorem wp_region_bl3 {P : Program} {id : Nat} {Q : Exit → Act → World → Prop} {a : Act} {w : World} {l : List Oper} (k1 k2 k3 : Nat) (W1 : World) (c1 : List Value) (c2 : Nat → List Value) (c3 : List Value) (hm : P.follows .mixedOrders = true) (hB : effB .any l.toArray = true) (h0 : Nw W1 w)
    (h : wpEffT .any P l.toArray (Bl3 .any l.toArray k1 k2 k3 W1 c1 c2 c3) (fun B a' => ∀ w', Bl3 .any l.toArray k1 k2 k3 W1 c1 c2 c3 (fun j => decide (j < l.length)) B w' → Q .normal a' w') l 0 (fun _ => a)) : (Code.region id l.toArray true).wp P Q a w :=
  wp_region_effT (Bl3 .any l.toArray k1 k2 k3 W1 c1 c2 c3) (fun _ => 0) hm hB ⟨fun _ _ _ h => (by cases h), h0.drew, fun h => (by cases h), fun h => (by cases h), fun h => (by cases h)⟩ h
def odds6 : List Int := [-1, 0, 1, 2, 5, 6]
theorem odds6_at (i : Nat) (hi : i < 6) : (#[I64 (-1), I64 0, I64 1, I64 2, I64 5, I64 6] : Array Value)[i]? = some (I64 (odds6.getD i 0)) := by
  match i, hi with
  | 0, _ => rfl
  | 1, _ => rfl
  | 2, _ => rfl
  | 3, _ => rfl
  | 4, _ => rfl
  | 5, _ => rfl
theorem odds6_in (i : Nat) : -1 ≤ odds6.getD i 0 ∧ odds6.getD i 0 ≤ 6 := by
  match i with
  | 0 => decide
  | 1 => decide
  | 2 => decide
  | 3 => decide
  | 4 => decide
  | 5 => decide
  | n + 6 => exact ⟨by show (-1 : Int) ≤ 0; omega, by show (0 : Int) ≤ 6; omega⟩
/-- A letter from a to b, and one of no kind. -/
def xM (i a b : Int) : LetM := { toM i with src := a, dst := b }
def yM : LetM := { toM 9 with kind := 0 }
theorem LetIn.xm (w : World) (F : Nat → Prop) (i a b : Int) : LetIn w F (xM i a b) := let h := LetIn.to_ w F i; ⟨h.kind, h.ents, h.each, h.cfg, h.bytes⟩
theorem LetIn.ym (w : World) (F : Nat → Prop) : LetIn w F yM := let h := LetIn.to_ w F 9; ⟨⟨by show (0 : Int) ≤ 0; omega, by show (0 : Int) ≤ 255; omega⟩, h.ents, h.each, h.cfg, h.bytes⟩
theorem LetSz.xm (i a b : Int) : LetSz (xM i a b) := let h := LetSz.to_ i; ⟨h.ents, h.each, h.cfg, h.bytes⟩
theorem LetSz.ym : LetSz yM := let h := LetSz.to_ 9; ⟨h.ents, h.each, h.cfg, h.bytes⟩
def six (i a b : Int) : List LetM := [toM 1, xM i a b, yM, toM 2, xM i a b, toM 3]
theorem six_in (w : World) (F : Nat → Prop) (i a b : Int) : ∀ x ∈ six i a b, LetIn w F x ∧ LetSz x := by
  intro x hx
  simp only [six, List.mem_cons, List.not_mem_nil, or_false] at hx
  rcases hx with rfl | rfl | rfl | rfl | rfl | rfl
  · exact ⟨LetIn.to_ _ _ _, LetSz.to_ _⟩
  · exact ⟨LetIn.xm _ _ _ _ _, LetSz.xm _ _ _⟩
  · exact ⟨LetIn.ym _ _, LetSz.ym⟩
  · exact ⟨LetIn.to_ _ _ _, LetSz.to_ _⟩
  · exact ⟨LetIn.xm _ _ _ _ _, LetSz.xm _ _ _⟩
  · exact ⟨LetIn.to_ _ _ _, LetSz.to_ _⟩
/-- The deeds of a round. -/
def four (i a b kd : Int) (g : Nat) : List DeedN := [⟨0, 0, 0, ⟨some ⟨g, 0, none⟩, 6, six i a b⟩⟩, ⟨kd, a, b, lsZ⟩, ⟨kd, 1, 2, lsZ⟩, ⟨kd, b, a, lsZ⟩]
def pair (a b kd : Int) : List DeedN := [⟨8, 0, b, lsZ⟩, ⟨kd, a, b, lsZ⟩]
theorem way_in {a b : Int} (ha : -10 ≤ a ∧ a ≤ 10) (hb : -10 ≤ b ∧ b ≤ 10) : NmWf (a, b) := by
  constructor
  · simp [Lit.wf, IntKind.min, IntKind.max, IntKind.signed, IntKind.bits]; omega
  · simp [Lit.wf, IntKind.min, IntKind.max, IntKind.signed, IntKind.bits]; omega
theorem DeedNIn.empty (w : World) (F : Nat → Prop) {k a b : Int} (hk : -10 ≤ k ∧ k ≤ 10) (ha : -10 ≤ a ∧ a ≤ 10) (hb : -10 ≤ b ∧ b ≤ 10) : DeedNIn w F ⟨k, a, b, lsZ⟩ :=
  ⟨⟨by show _ ≤ k; omega, by show k ≤ _; omega⟩, way_in ha hb, ⟨LsIn.nil w F letsC rfl, by intro x hx; cases hx⟩, (by intro x hx; cases hx), by show 0 ≤ _; omega⟩
theorem four_in {w : World} {F : Nat → Prop} {i a b kd : Int} {g : Nat} (hs : Sl w F (some ⟨g, 0, none⟩) (letsC (six i a b))) (hk : -10 ≤ kd ∧ kd ≤ 10) (ha : -10 ≤ a ∧ a ≤ 10) (hb : -10 ≤ b ∧ b ≤ 10) : ∀ d ∈ four i a b kd g, DeedNIn w F d := by
  intro d hd
  simp only [four, List.mem_cons, List.not_mem_nil, or_false] at hd
  rcases hd with rfl | rfl | rfl | rfl
  · exact ⟨⟨by show (-9223372036854775808 : Int) ≤ 0; omega, by show (0 : Int) ≤ 9223372036854775807; omega⟩, way_in (a := 0) (b := 0) (by decide) (by decide), ⟨⟨hs, Nat.le_refl _, by show 6 ≤ maxLen; unfold maxLen; omega⟩, fun x hx => (six_in w F i a b x hx).1⟩, fun x hx => (six_in w F i a b x hx).2.bd, by show 6 ≤ _; omega⟩
  · exact DeedNIn.empty w F hk ha hb
  · exact DeedNIn.empty w F hk (by omega) (by omega)
  · exact DeedNIn.empty w F hk hb ha
theorem pair_in {w : World} {F : Nat → Prop} {a b kd : Int} (hk : -10 ≤ kd ∧ kd ≤ 10) (ha : -10 ≤ a ∧ a ≤ 10) (hb : -10 ≤ b ∧ b ≤ 10) : ∀ d ∈ pair a b kd, DeedNIn w F d := by
  intro d hd
  simp only [pair, List.mem_cons, List.not_mem_nil, or_false] at hd
  rcases hd with rfl | rfl
  · exact DeedNIn.empty w F (by omega) (by omega) hb
  · exact DeedNIn.empty w F hk ha hb
/-- NetRuns on a round's deeds. -/
theorem round_runs (w : World) (g1 g2 g3 : Nat) (i a b kd fork : Int) (h1 : Sl w (· = g1) (some ⟨g1, 0, none⟩) (letsC (six i a b))) (h2 : Sl w (· = g2) (some ⟨g2, 0, none⟩) (deedsN (four i a b kd g1))) (h3 : Sl w (· = g3) (some ⟨g3, 0, none⟩) (deedsN (pair a b kd)))
    (hk : -10 ≤ kd ∧ kd ≤ 10) (ha : -10 ≤ a ∧ a ≤ 10) (hb : -10 ≤ b ∧ b ≤ 10) (hf : -10 ≤ fork ∧ fork ≤ 10) :
    Calls Tryz.prog 3 #[.slice (some ⟨g2, 0, none⟩) 4 4, .int .i64 fork, .slice (some ⟨g3, 0, none⟩) 2 2] w fun e w' => e = .returned (.bool true) ∧ Nw w w' :=
  runs25_any w (· < w.heap.size) (some ⟨g2, 0, none⟩) 4 (four i a b kd g1) (h2.mono fun k hk hl => hl) (four_in (h1.mono fun k hk hl => hl) hk ha hb) (by show 4 ≤ _; omega) fork (by omega) (some ⟨g3, 0, none⟩) 2 (pair a b kd) (h3.mono fun k hk hl => hl) (pair_in hk ha hb) (by show 2 ≤ _; omega) (fun _ h => h)
end Go.Proofs.YtippdjaakcgeoaaGreat

namespace Go.Proofs.YtippdjaakcgeoaaGreat
open Go Go.RowKit
set_option linter.unusedVariables false
set_option linter.unusedSimpArgs false
/-- A piece of a function's code, by the way to it. -/
def pickC : List Bool → Code → Code
  | [], c => c
  | false :: p, .seq a _ => pickC p a
  | true :: p, .seq _ b => pickC p b
  | _ :: p, .block _ c => pickC p c
  | _ :: p, .scope c => pickC p c
  | _ :: p, .loop c => pickC p c
  | false :: p, .cond _ a _ => pickC p a
  | true :: p, .cond _ _ b => pickC p b
  | _, c => c

/-- The code of the end. -/
noncomputable def ends25_tailC : Code := pickC [true, true, true, true, true, false] (Tryz.f4.body.getD .skip)
noncomputable def ends25_tailR : Code := pickC [true, true, true, true, true, true] (Tryz.f4.body.getD .skip)
set_option maxRecDepth 1000000 in
set_option maxHeartbeats 16000000 in
theorem ends25_tail (W w0 : World) (hq : Nw W w0) {c0 c1 c2 c3 c4 c5 c6 c7 c8 c9 c10 c11 c12 c13 c14 c15 c16 c17 c18 c19 c20 c21 c22 c23 c24 c25 c26 c27 c28 c29 c30 c31 c32 c33 c34 c35 c36 c37 c38 c39 c40 c41 c42 c43 c44 c45 c46 c47 c48 c49 c50 c51 c52 c53 c54 c55 c56 c57 c58 c59 c60 c61 c62 c63 c64 c65 c66 c67 c68 c69 c70 c71 c72 c73 c74 c75 c76 c77 c78 c79 c80 c81 c82 c83 c84 c85 c86 c87 c88 c89 c90 c91 c92 c93 c94 c95 c96 c97 c98 c99 c100 c101 c102 c103 c104 c105 c106 c107 c108 c109 c110 c111 c112 c113 c114 c115 c116 c117 c118 c119 c120 c121 c122 c123 c124 c125 c126 c127 c128 c129 c130 c131 c132 c133 c134 c135 c136 c137 c138 c139 c140 c141 c142 c143 c144 c145 c146 c147 c148 c149 c150 c151 c152 c153 c154 c155 c156 c157 c158 c159 c160 c161 c162 c163 c164 c165 c166 c167 c168 c169 c170 c171 c172 c173 c174 c175 c176 c177 c178 c179 c180 c181 c182 c183 c184 c185 c186 c187 c188 c189 c190 c191 c192 c193 c194 c195 c196 c197 c198 c199 c200 c201 c202 c203 c204 c205 c206 c207 c208 c209 c210 c211 c212 c213 c214 c215 c216 c217 c218 c219 c220 c221 c222 c223 c224 c225 c226 c227 c228 c229 : Value} (Q : Exit → Act → World → Prop) (hQ : Q = (bodyPost Tryz.prog Tryz.f4 fun e w' => e = .returned (.bool true) ∧ Nw W w')) (K : Act → World → Prop) (hK : ∀ a w, Code.wp Tryz.prog ends25_tailR Q a w → K a w) :
    Code.wp Tryz.prog ends25_tailC (Exit.then K Q) ⟨#[c0, c1, c2, c3, c4, c5, c6, c7, c8, c9, c10, c11, c12, c13, c14, c15, c16, c17, c18, c19, c20, c21, c22, c23, c24, c25, c26, c27, c28, c29, c30, c31, c32, c33, c34, c35, c36, c37, c38, c39, c40, c41, c42, c43, c44, c45, c46, c47, c48, c49, c50, c51, c52, c53, c54, c55, c56, c57, c58, c59, c60, c61, c62, c63, c64, c65, c66, c67, c68, c69, c70, c71, c72, c73, c74, c75, c76, c77, c78, c79, c80, c81, c82, c83, c84, c85, c86, c87, c88, c89, c90, c91, c92, c93, c94, c95, c96, c97, c98, c99, c100, c101, c102, c103, c104, c105, c106, c107, c108, c109, c110, c111, c112, c113, c114, c115, c116, c117, c118, c119, c120, c121, c122, c123, c124, c125, c126, c127, c128, c129, c130, c131, c132, c133, c134, c135, c136, c137, c138, c139, c140, c141, c142, c143, c144, c145, c146, c147, c148, c149, c150, c151, c152, c153, c154, c155, c156, c157, c158, c159, c160, c161, c162, c163, c164, c165, c166, c167, c168, c169, c170, c171, c172, c173, c174, c175, c176, c177, c178, c179, c180, c181, c182, c183, c184, c185, c186, c187, c188, c189, c190, c191, c192, c193, c194, c195, c196, c197, c198, c199, c200, c201, c202, c203, c204, c205, c206, c207, c208, c209, c210, c211, c212, c213, c214, c215, c216, c217, c218, c219, c220, c221, c222, c223, c224, c225, c226, c227, c228, c229], []⟩ w0 := by
  conv => arg 2; whnf
  conv at hK => enter [a, w]; lhs; arg 2; whnf
  have HQ := Lib.hid hQ
  clear hQ
  obtain ⟨V, hV⟩ : ∃ V, V = w0.heap.size := ⟨_, rfl⟩
  obtain ⟨w1, hw1⟩ : ∃ w1, w1 = w0.alloc (.cells #[.map none] 58) := ⟨_, rfl⟩
  have q1 : Nw w0 w1 := by rw [hw1]; exact (Fr.refl (fun _ => False) _).alloc _
  have nv : NoNet w1 (.pointer (some ⟨V, 0, none⟩)) := .inr ⟨V, rfl, by rw [hw1, hV]; exact Blk.new _ _ _⟩
  have HV := Lib.hid hV
  have HW1 := Lib.hid hw1
  clear hV hw1
  have hd : Calls Tryz.prog 21 #[.pointer none, I64 1, I64 2] w1 fun e w' => ∃ x : LetM, e = .returned (.tuple #[.agg (letA x), .bool false]) ∧ Nw w1 w' := (zDeliver w1 _ (.inl rfl) 1 2).mono fun e w' h => ⟨letMZ, h.1, h.2⟩
  go_upto_region 37 with (fail)
  rw [← HV.out, ← HW1.out]
  go_upto_region 38 with (first | (go_at_call 21; refine hd.mono ?_; rintro e w2 ⟨x, rfl, p1⟩; obtain ⟨D, hD⟩ : ∃ D, D = w2.heap.size := ⟨_, rfl⟩; obtain ⟨T0, hV0⟩ : ∃ V, V = w2.alloc (.cells #[U8V 0, I64 0, I64 0, I64 0, I64 0, I64 0, I64 0, I64 0, .bool false, .slice none 0 0, I64 0, I64 0, .slice none 0 0, .slice none 0 0, .slice none 0 0, .slice none 0 0, I64 0, I64 0, I64 0, .slice none 0 0] 50) := ⟨_, rfl⟩; have q0 : Nw w2 T0 := (by rw [hV0]; exact (Fr.refl (fun _ => False) _).alloc _); have y0 : Blk T0 D 50 #[U8V 0, I64 0, I64 0, I64 0, I64 0, I64 0, I64 0, I64 0, .bool false, .slice none 0 0, I64 0, I64 0, .slice none 0 0, .slice none 0 0, .slice none 0 0, .slice none 0 0, I64 0, I64 0, I64 0, .slice none 0 0] := (by rw [hV0, hD]; exact Blk.new _ _ _); have th := Blk.there (l := [U8V 0, I64 0, I64 0, I64 0, I64 0, I64 0, I64 0, I64 0, .bool false, .slice none 0 0, I64 0, I64 0, .slice none 0 0, .slice none 0 0, .slice none 0 0, .slice none 0 0, I64 0, I64 0, I64 0, .slice none 0 0]) y0 0 20 (by show 0 + 20 ≤ 20; omega); have one := letA_one x; obtain ⟨T1, hV1⟩ : ∃ V, V = T0.setCells D 0 [U8V x.kind, I64 x.group, I64 x.src, I64 x.dst, I64 x.term, I64 x.index, I64 x.logt, I64 x.commit, .bool x.ok, .slice x.ents.a x.ents.l.length x.ents.c, I64 x.base.index, I64 x.base.term, .slice x.base.cfg.v.a x.base.cfg.v.l.length x.base.cfg.v.c, .slice x.base.cfg.o.a x.base.cfg.o.l.length x.base.cfg.o.c, .slice x.base.cfg.l.a x.base.cfg.l.l.length x.base.cfg.l.c, .slice x.base.cfg.w.a x.base.cfg.w.l.length x.base.cfg.w.c, I64 x.size, I64 x.at_, I64 x.tag, .slice x.bytes.a x.bytes.l.length x.bytes.c] := ⟨_, rfl⟩; have m1 : Fr (· = D) T0 T1 := (by rw [hV1]; exact (Fr.refl (· = D) _).setCells _ _); have qT1 : Nw w2 T1 := q0.new m1 (fun b hb => by omega); have HDT1 := Lib.hid hD; have HV0T1 := Lib.hid hV0; have HV1T1 := Lib.hid hV1; clear hD hV0 hV1 m1 q0 y0) | (rw [← HV0T1.out, ← HDT1.out]; refine wpList_store_mid rfl 50 _ _ rfl D 0 #[U8V x.kind, I64 x.group, I64 x.src, I64 x.dst, I64 x.term, I64 x.index, I64 x.logt, I64 x.commit, .bool x.ok, .slice x.ents.a x.ents.l.length x.ents.c, I64 x.base.index, I64 x.base.term, .slice x.base.cfg.v.a x.base.cfg.v.l.length x.base.cfg.v.c, .slice x.base.cfg.o.a x.base.cfg.o.l.length x.base.cfg.o.c, .slice x.base.cfg.l.a x.base.cfg.l.l.length x.base.cfg.l.c, .slice x.base.cfg.w.a x.base.cfg.w.l.length x.base.cfg.w.c, I64 x.size, I64 x.at_, I64 x.tag, .slice x.bytes.a x.bytes.l.length x.bytes.c] rfl rfl th (by kernel_rfl) one ?_; rw [← HV1T1.out]))
  have qT := p1.tr qT1
  have hd2 : Calls Tryz.prog 21 #[.pointer (some ⟨V, 0, none⟩), I64 1, I64 2] T1 fun e w' => ∃ x : LetM, e = .returned (.tuple #[.agg (letA x), .bool false]) ∧ Nw T1 w' := (zDeliver T1 _ (nv.nw qT) 1 2).mono fun e w' h => ⟨letMZ, h.1, h.2⟩
  clear hd th one
  go_upto_region 39 with (first | (go_at_call 21; refine hd2.mono ?_; rintro e w3 ⟨y, rfl, p2⟩; obtain ⟨D2, hD⟩ : ∃ D, D = w3.heap.size := ⟨_, rfl⟩; obtain ⟨U0, hV0⟩ : ∃ V, V = w3.alloc (.cells #[U8V 0, I64 0, I64 0, I64 0, I64 0, I64 0, I64 0, I64 0, .bool false, .slice none 0 0, I64 0, I64 0, .slice none 0 0, .slice none 0 0, .slice none 0 0, .slice none 0 0, I64 0, I64 0, I64 0, .slice none 0 0] 50) := ⟨_, rfl⟩; have q0 : Nw w3 U0 := (by rw [hV0]; exact (Fr.refl (fun _ => False) _).alloc _); have y0 : Blk U0 D2 50 #[U8V 0, I64 0, I64 0, I64 0, I64 0, I64 0, I64 0, I64 0, .bool false, .slice none 0 0, I64 0, I64 0, .slice none 0 0, .slice none 0 0, .slice none 0 0, .slice none 0 0, I64 0, I64 0, I64 0, .slice none 0 0] := (by rw [hV0, hD]; exact Blk.new _ _ _); have th := Blk.there (l := [U8V 0, I64 0, I64 0, I64 0, I64 0, I64 0, I64 0, I64 0, .bool false, .slice none 0 0, I64 0, I64 0, .slice none 0 0, .slice none 0 0, .slice none 0 0, .slice none 0 0, I64 0, I64 0, I64 0, .slice none 0 0]) y0 0 20 (by show 0 + 20 ≤ 20; omega); have one := letA_one y; obtain ⟨U1, hV1⟩ : ∃ V, V = U0.setCells D2 0 [U8V y.kind, I64 y.group, I64 y.src, I64 y.dst, I64 y.term, I64 y.index, I64 y.logt, I64 y.commit, .bool y.ok, .slice y.ents.a y.ents.l.length y.ents.c, I64 y.base.index, I64 y.base.term, .slice y.base.cfg.v.a y.base.cfg.v.l.length y.base.cfg.v.c, .slice y.base.cfg.o.a y.base.cfg.o.l.length y.base.cfg.o.c, .slice y.base.cfg.l.a y.base.cfg.l.l.length y.base.cfg.l.c, .slice y.base.cfg.w.a y.base.cfg.w.l.length y.base.cfg.w.c, I64 y.size, I64 y.at_, I64 y.tag, .slice y.bytes.a y.bytes.l.length y.bytes.c] := ⟨_, rfl⟩; have m1 : Fr (· = D2) U0 U1 := (by rw [hV1]; exact (Fr.refl (· = D2) _).setCells _ _); have qU1 : Nw w3 U1 := q0.new m1 (fun b hb => by omega); have HDU1 := Lib.hid hD; have HV0U1 := Lib.hid hV0; have HV1U1 := Lib.hid hV1; clear hD hV0 hV1 m1 q0 y0) | (rw [← HV0U1.out, ← HDU1.out]; refine wpList_store_mid rfl 50 _ _ rfl D2 0 #[U8V y.kind, I64 y.group, I64 y.src, I64 y.dst, I64 y.term, I64 y.index, I64 y.logt, I64 y.commit, .bool y.ok, .slice y.ents.a y.ents.l.length y.ents.c, I64 y.base.index, I64 y.base.term, .slice y.base.cfg.v.a y.base.cfg.v.l.length y.base.cfg.v.c, .slice y.base.cfg.o.a y.base.cfg.o.l.length y.base.cfg.o.c, .slice y.base.cfg.l.a y.base.cfg.l.l.length y.base.cfg.l.c, .slice y.base.cfg.w.a y.base.cfg.w.l.length y.base.cfg.w.c, I64 y.size, I64 y.at_, I64 y.tag, .slice y.bytes.a y.bytes.l.length y.bytes.c] rfl rfl th (by kernel_rfl) one ?_; rw [← HV1U1.out]))
  have qU := qT.tr (p2.tr qU1)
  have qq : Nw w1 U1 := qU
  have NV := Lib.hid (fun w9 v (q : Nw w1 w9) (h : v = .pointer none ∨ v = .pointer (some ⟨V, 0, none⟩)) => (show NoNet w9 v by rcases h with rfl | rfl; exact .inl rfl; exact nv.nw q))
  clear hd2 th one nv qT p1 qT1 p2 qU1
  clear qU
  go_wp2_with (first | (go_at_call 12; refine (zCopy _ _ (NV.out _ _ qq (by first | exact .inl rfl | exact .inr rfl))).mono ?_; rintro e wz ⟨rfl, q9⟩; replace qq := qq.tr q9) | (go_at_call 18; refine (to_any _ 1).mono ?_; rintro e wz ⟨rfl, q9⟩; replace qq := qq.tr q9) | (refine wl_buildw (by kernel_rfl) 28 1 _ 20 [letL (toM 1)] (.agg #[U8V 0, I64 0, I64 0, I64 0, I64 0, I64 0, I64 0, I64 0, .bool false, .slice none 0 0, I64 0, I64 0, .slice none 0 0, .slice none 0 0, .slice none 0 0, .slice none 0 0, I64 0, I64 0, I64 0, .slice none 0 0]) rfl Tryz.underlying28 (by kernel_rfl) rfl (by decide) (by decide) (by simp) (by decide) rfl ?_; intro g4 wz hg4 hw4; obtain ⟨q4, s4⟩ := lets_slN [toM 1] hg4 hw4; replace qq := qq.tr q4; clear hg4 hw4) | (go_at_call 19; refine (zSend _ _ (NV.out _ _ qq (by first | exact .inl rfl | exact .inr rfl)) _ 1 (toM 1) (s4.mono fun _ _ _ => trivial)).mono ?_; rintro e wz ⟨rfl, q9⟩; replace qq := qq.tr q9) | (go_at_call 22; refine (zMany _ _ (NV.out _ _ qq (by first | exact .inl rfl | exact .inr rfl))).mono ?_; rintro e wz ⟨rfl, q9⟩; replace qq := qq.tr q9) | (go_at_call 17; refine (zWaiting _ _ (NV.out _ _ qq (.inl rfl)) 1 2).mono ?_; rintro e wz ⟨A, c, rfl, q9⟩; replace qq := qq.tr q9) | (go_at_call 23; refine (zTake _ _ (NV.out _ _ qq (by first | exact .inl rfl | exact .inr rfl)) 2).mono ?_; rintro e wz ⟨rfl, q9⟩; replace qq := qq.tr q9) | (go_at_call 24; refine (zLose _ _ (NV.out _ _ qq (by first | exact .inl rfl | exact .inr rfl)) 1 2).mono ?_; rintro e wz ⟨rfl, q9⟩; replace qq := qq.tr q9) | (go_at_call 25; refine (zTwice _ _ (NV.out _ _ qq (by first | exact .inl rfl | exact .inr rfl)) 1 2).mono ?_; rintro e wz ⟨rfl, q9⟩; replace qq := qq.tr q9) | (go_at_call 26; refine (zForward _ _ (NV.out _ _ qq (by first | exact .inl rfl | exact .inr rfl)) 1 2).mono ?_; rintro e wz ⟨rfl, q9⟩; replace qq := qq.tr q9) | (go_at_call 9; refine (awake_any _).mono ?_; rintro e wz ⟨rfl, q9⟩; replace qq := qq.tr q9))
  rw [HQ.out]
  first
    | (go_ret; exact ⟨rfl, hq.tr (q1.tr qq)⟩)
    | exact ⟨rfl, hq.tr (q1.tr qq)⟩
end Go.Proofs.YtippdjaakcgeoaaGreat

namespace Go.Proofs.YtippdjaakcgeoaaGreat
open Go Go.RowKit
set_option linter.unusedVariables false
set_option linter.unusedSimpArgs false

def tos (n : Nat) : List LetM := (List.range n).map fun j => toM (j : Nat)
theorem tos_succ (n : Nat) : tos (n + 1) = tos n ++ [toM (n : Nat)] := by unfold tos; rw [List.range_succ, List.map_append]; rfl
theorem tos_len (n : Nat) : (tos n).length = n := by unfold tos; simp
theorem tos_in (w : World) (F : Nat → Prop) (n : Nat) : ∀ x ∈ tos n, LetIn w F x ∧ LetSz x := by
  intro x hx
  unfold tos at hx
  obtain ⟨j, _, rfl⟩ := List.mem_map.1 hx
  exact ⟨LetIn.to_ _ _ _, LetSz.to_ _⟩
/-- The deeds of a round of loop 5. -/
def five (kd : Int) (A : Option Addr) (c : Nat) : List DeedN := [⟨6, 1, 2, lsZ⟩, ⟨kd, 1, 2, lsZ⟩, ⟨6, 1, 2, lsZ⟩, ⟨0, 0, 0, ⟨A, c, tos 2⟩⟩, ⟨kd, 1, 2, lsZ⟩]
theorem tos_take {k n : Nat} (h : k ≤ n) : (tos n).take k = tos k := by unfold tos; rw [← List.map_take, List.take_range, Nat.min_eq_left h]
theorem tos_pre {n : Nat} (h : 2 ≤ n) : (letsC (tos n)).take 40 = letsC (tos 2) := by
  have e : letsC (tos n) = letsC (tos 2) ++ letsC ((tos n).drop 2) := by rw [← letsC_append, ← tos_take h, List.take_append_drop]
  rw [e, List.take_left' (by rw [letsC_len, tos_len])]
theorem five_in {w : World} {F : Nat → Prop} {kd : Int} {A : Option Addr} {c : Nat} (hk : -10 ≤ kd ∧ kd ≤ 10) (hs : Sl w F A (letsC (tos 2))) (hc : 2 ≤ c ∧ c ≤ maxLen) : ∀ d ∈ five kd A c, DeedNIn w F d ∧ (∀ x ∈ d.l.l, LetSz x) ∧ d.l.l.length ≤ 2 := by
  intro d hd
  have e0 : ∀ k a b : Int, (∀ x ∈ (⟨k, a, b, lsZ⟩ : DeedN).l.l, LetSz x) ∧ (⟨k, a, b, lsZ⟩ : DeedN).l.l.length ≤ 2 := fun k a b => ⟨(by intro x hx; cases hx), (by show 0 ≤ 2; omega)⟩
  simp only [five, List.mem_cons, List.not_mem_nil, or_false] at hd
  rcases hd with rfl | rfl | rfl | rfl | rfl
  · exact ⟨DeedNIn.empty w F (by omega) (by omega) (by omega), e0 _ _ _⟩
  · exact ⟨DeedNIn.empty w F hk (by omega) (by omega), e0 _ _ _⟩
  · exact ⟨DeedNIn.empty w F (by omega) (by omega) (by omega), e0 _ _ _⟩
  · exact ⟨⟨⟨by show (-9223372036854775808 : Int) ≤ 0; omega, by show (0 : Int) ≤ 9223372036854775807; omega⟩, way_in (a := 0) (b := 0) (by decide) (by decide), ⟨⟨hs, hc⟩, fun x hx => (tos_in w F 2 x hx).1⟩, fun x hx => (tos_in w F 2 x hx).2.bd, by show (tos 2).length ≤ _; rw [tos_len]; omega⟩, fun x hx => (tos_in w F 2 x hx).2, by show (tos 2).length ≤ 2; rw [tos_len]; omega⟩
  · exact ⟨DeedNIn.empty w F hk (by omega) (by omega), e0 _ _ _⟩
def i5R (w6 : World) (gn gm : Nat) (i : Value) (wr : World) : Prop := ∃ (k N : Nat) (col : Nat → Nat), k ≤ 5 ∧ i = .int .i64 (k : Nat) ∧ N ≤ 100 + 3 * k ∧ Aw w6 wr col ∧ Duo wr col 1 2 gn gm N
def kdS (w : World) (i : Value) (wr : World) : Prop := ∃ k : Nat, k ≤ 9 ∧ 4 ≤ k ∧ i = .int .i64 (k : Nat) ∧ Nw w wr
def l42 (w0 : World) (v i : Value) (wr : World) : Prop := ∃ (m : Nat) (A : Option Addr) (c : Nat), m ≤ 42 ∧ i = .int .i64 (m : Nat) ∧ v = .slice A m c ∧ Own wr 50 20 A m c (letsC (tos m)) ∧ (∀ k, inA A k → w0.heap.size ≤ k) ∧ Nw w0 wr
/-- The code between loop 1 and the end. -/
noncomputable def ends25_midC : Code := pickC [true, true, true, false] (Tryz.f4.body.getD .skip)
noncomputable def ends25_midR : Code := pickC [true, true, true, true] (Tryz.f4.body.getD .skip)
set_option maxRecDepth 1000000 in
set_option maxHeartbeats 16000000 in
theorem ends25_mid (W w0 : World) (hq0 : Nw W w0) {c0 c1 c2 c3 c4 c5 c6 c7 c8 c9 c10 c11 c12 c13 c14 c15 c16 c17 c18 c19 c20 c21 c22 c23 c24 c25 c26 c27 c28 c29 c30 c31 c32 c33 c34 c35 c36 c37 c38 c39 c40 c41 c42 c43 c44 c45 c46 c47 c48 c49 c50 c51 c52 c53 c54 c55 c56 c57 c58 c59 c60 c61 c62 c63 c64 c65 c66 c67 c68 c69 c70 c71 c72 c73 c74 c75 c76 c77 c78 c79 c80 c81 c82 c83 c84 c85 c86 c87 c88 c89 c90 c91 c92 c93 c94 c95 c96 c97 c98 c99 c100 c101 c102 c103 c104 c105 c106 c107 c108 c109 c110 c111 c112 c113 c114 c115 c116 c117 c118 c119 c120 c121 c122 c123 c124 c125 c126 c127 c128 c129 c130 c131 c132 c133 c134 c135 c136 c137 c138 c139 c140 c141 c142 c143 c144 c145 c146 c147 c148 c149 c150 c151 c152 c153 c154 c155 c156 c157 c158 c159 c160 c161 c162 c163 c164 c165 c166 c167 c168 c169 c170 c171 c172 c173 c174 c175 c176 c177 c178 c179 c180 c181 c182 c183 c184 c185 c186 c187 c188 c189 c190 c191 c192 c193 c194 c195 c196 c197 c198 c199 c200 c201 c202 c203 c204 c205 c206 c207 c208 c209 c210 c211 c212 c213 c214 c215 c216 c217 c218 c219 c220 c221 c222 c223 c224 c225 c226 c227 c228 c229 : Value} (Q : Exit → Act → World → Prop) (hQ : Q = (bodyPost Tryz.prog Tryz.f4 fun e w' => e = .returned (.bool true) ∧ Nw W w')) (K : Act → World → Prop) (hK : ∀ a w, Code.wp Tryz.prog ends25_midR Q a w → K a w) :
    Code.wp Tryz.prog ends25_midC (Exit.then K Q) ⟨#[c0, c1, c2, c3, c4, c5, c6, c7, c8, c9, c10, c11, c12, c13, c14, c15, c16, c17, c18, c19, c20, c21, c22, c23, c24, c25, c26, c27, c28, c29, c30, c31, c32, c33, c34, c35, c36, c37, c38, c39, c40, c41, c42, c43, c44, c45, c46, c47, c48, c49, c50, c51, c52, c53, c54, c55, c56, c57, c58, c59, c60, c61, c62, c63, c64, c65, c66, c67, c68, c69, c70, c71, c72, c73, c74, c75, c76, c77, c78, c79, c80, c81, c82, c83, c84, c85, c86, c87, c88, c89, c90, c91, c92, c93, c94, c95, c96, c97, c98, c99, c100, c101, c102, c103, c104, c105, c106, c107, c108, c109, c110, c111, c112, c113, c114, c115, c116, c117, c118, c119, c120, c121, c122, c123, c124, c125, c126, c127, c128, c129, c130, c131, c132, c133, c134, c135, c136, c137, c138, c139, c140, c141, c142, c143, c144, c145, c146, c147, c148, c149, c150, c151, c152, c153, c154, c155, c156, c157, c158, c159, c160, c161, c162, c163, c164, c165, c166, c167, c168, c169, c170, c171, c172, c173, c174, c175, c176, c177, c178, c179, c180, c181, c182, c183, c184, c185, c186, c187, c188, c189, c190, c191, c192, c193, c194, c195, c196, c197, c198, c199, c200, c201, c202, c203, c204, c205, c206, c207, c208, c209, c210, c211, c212, c213, c214, c215, c216, c217, c218, c219, c220, c221, c222, c223, c224, c225, c226, c227, c228, c229], []⟩ w0 := by
  conv => arg 2; whnf
  conv at hK => enter [a, w]; lhs; arg 2; whnf
  have HQ := Lib.hid hQ
  clear hQ
  go_upto_region 19 with (fail)
  go_wp2_with fail
  go_loopw [7, 8] (fun v i wr => l42 w0 v i wr) (fun _ i _ => 42 - (intOf i).toNat)
  case atStart => exact ⟨0, none, 0, by omega, rfl, rfl, Own.nil _ _ _, fun k hk => (inA_none k hk).elim, Fr.refl _ _⟩
  case round =>
    obtain ⟨m, A, c, hm, rfl, rfl, ho, hB, hq⟩ := hrel
    obtain ⟨w1, hw1⟩ : ∃ w1, w1 = wr := ⟨_, rfl⟩
    rw [← hw1] at hq ho ⊢
    clear hw1
    by_cases hlt : m < 42
    · have hi0 : (m : Int) < 42 := by omega
      go_upto_region 23 with (first | (go_at_call 18; refine (to_any _ _).mono ?_; rintro e w3 ⟨rfl, q3⟩) | (refine wl_build rfl 28 1 _ 20 [letL (toM (m : Nat))] (.agg #[U8V 0, I64 0, I64 0, I64 0, I64 0, I64 0, I64 0, I64 0, .bool false, .slice none 0 0, I64 0, I64 0, .slice none 0 0, .slice none 0 0, .slice none 0 0, .slice none 0 0, I64 0, I64 0, I64 0, .slice none 0 0]) rfl Tryz.underlying28 (by kernel_rfl) rfl (by decide) (by decide) (by simp) (by decide) rfl ?_; intro g4 w4 hg4 hw4; obtain ⟨q4, s4⟩ := lets_slN [toM (m : Nat)] hg4 hw4; have ho4 := (ho.fr q3 (fun _ _ h => h)).fr q4 (fun _ _ h => h); have Q4 := (hq.tr q3).tr q4; clear hg4 hw4) | (at_builtin; refine wl_append2 rfl _ _ _ rfl 256 (.agg #[U8V 0, I64 0, I64 0, I64 0, I64 0, I64 0, I64 0, I64 0, .bool false, .slice none 0 0, I64 0, I64 0, .slice none 0 0, .slice none 0 0, .slice none 0 0, .slice none 0 0, I64 0, I64 0, I64 0, .slice none 0 0]) Tryz.underlying28 info_let rfl (by decide) rfl ho4 rfl s4 (by rw [letsC_len]; rfl) (letsC_cell _) (by omega) (by unfold maxLen; omega) ?_; intro B' c' w5 hap; obtain ⟨o5, q5, n5⟩ := hap.newOwn Q4 hB))
      clear ho4 Q4 s4 q3 q4 ho hB hap
      go_wp2_with fail
      go_loopw [9] (fun i wr => kdS w5 i wr) (fun i _ => 9 - (intOf i).toNat)
      case atStart => exact ⟨4, by omega, by omega, rfl, Fr.refl _ _⟩
      case round =>
        obtain ⟨n, hn9, hn4, rfl, hqk⟩ := hrel
        by_cases hlt3 : n < 9
        · have hn0 : (n : Int) < 9 := by omega
          by_cases h36 : 36 < m
          · have h37 : (36 : Int) < (m : Int) := by omega
            have g1 : decide ((n : Int) < 9) = true := decide_eq_true hn0
            have g2 : decide ((36 : Int) < (m : Int)) = true := decide_eq_true h37
            have hcl := o5.cap_le.1
            have hslc : ∀ w, (Instr.slice 28 (.slice B' (m + 1) c') none (some (.int .i64 2)) none).run Tryz.prog w = .ok (.slice B' 2 c') w := slice_h (P := Tryz.prog) 28 under_letsD 20 size_letsD B' (m + 1) c' 2 (by omega)
            go_upto_region 27 with (refine wl_build rfl 22 5 _ 4 [[I64 6, I64 1, I64 2, .slice none 0 0], [I64 n, I64 1, I64 2, .slice none 0 0], [I64 6, I64 1, I64 2, .slice none 0 0], [I64 0, I64 0, I64 0, .slice B' 2 c'], [I64 n, I64 1, I64 2, .slice none 0 0]] (.agg #[I64 0, I64 0, I64 0, .slice none 0 0]) rfl Tryz.underlying22 (by kernel_rfl) rfl (by decide) (by decide) (by simp) (by decide) rfl ?_; intro g6 w6 hg6 hw6)

            obtain ⟨w6, hw6⟩ : ∃ w6, w6 = wr.alloc (.cells #[I64 6, I64 1, I64 2, .slice none 0 0, I64 n, I64 1, I64 2, .slice none 0 0, I64 6, I64 1, I64 2, .slice none 0 0, I64 0, I64 0, I64 0, .slice B' 2 c', I64 n, I64 1, I64 2, .slice none 0 0] 35) := ⟨_, rfl⟩
            obtain ⟨g6, hg6⟩ : ∃ g, g = wr.heap.size := ⟨_, rfl⟩
            have q6 : Nw wr w6 := by rw [hw6]; exact (Fr.refl (fun _ => False) _).alloc _
            have s6 : Sl w6 (· = g6) (some ⟨g6, 0, none⟩) (deedsN (five n B' c')) := by rw [hw6, hg6]; exact sl_new wr 35 _ _ rfl
            rw [← hw6, ← hg6]
            have HG6 := Lib.hid hg6
            clear hw6 hg6 hslc
            have hnw := nNew w6 (fun _ => 0) 1 (by decide)
            go_upto_region 28 with (go_at_call 10; refine hnw.mono ?_; rintro e w7 ⟨gn, col7, rfl, x7, n7, q7⟩)
            obtain ⟨col8, x8, d8⟩ := docNew w7 col7 2 (by decide)
            have n8 := n7.ext x8 (by decide) (by decide) (by decide)
            have a8 : Aw w6 (w7.alloc (.cells #[.slice none 0 0] 30)) col8 := (Aw.step ⟨Fr.refl _ _, fun _ _ => rfl, fun _ _ => rfl⟩ x7 (by decide)).step x8 (by decide)
            obtain ⟨w8, hw8⟩ : ∃ w8, w8 = w7.alloc (.cells #[.slice none 0 0] 30) := ⟨_, rfl⟩
            obtain ⟨gm, hgm⟩ : ∃ gm, gm = w7.heap.size := ⟨_, rfl⟩
            rw [← hw8, ← hgm] at d8
            rw [← hw8] at n8 a8
            rw [← hw8, ← hgm]
            clear hw8 hgm x8 x7 n7 q7 hnw
            have sl6 : Sl w6 (inA B') B' (letsC (tos (m + 1))) := by rw [tos_succ, letsC_append]; exact o5.sl.fr (hqk.tr q6) (fun _ _ h => h)
            have z6 : ∀ k, inA B' k → k < w6.heap.size := fun k hk => Nat.lt_of_lt_of_le (o5.lt k hk) (hqk.tr q6).size
            have hns := nSend (by decide) n8 (by omega) (inA B') B' c' (tos (m + 1)) (sl6.fr a8.nw (fun _ _ h => h)) (fun x hx => (tos_in _ _ _ x hx).1) (fun x hx => (tos_in w8 (fun _ => True) _ x hx).2) (by rw [tos_len]; omega) (fun k hk e => by rw [a8.z k (z6 k hk)] at e; cases e)
            have hvs := fun w9 col9 (a9 : Aw w6 w9 col9) (d9 : DocC w9 col9 2 gm 0 []) => vSend (by decide) d9 (by omega) (inA B') B' c' (tos (m + 1)) (sl6.fr a9.nw (fun _ _ h => h)) (fun x hx => (tos_in _ _ _ x hx).1) (fun x hx => (tos_in w9 (fun _ => True) _ x hx).2) (by rw [tos_len]; omega) (fun k hk => ⟨fun e => (by rw [a9.z k (z6 k hk)] at e; cases e), Nat.lt_of_lt_of_le (z6 k hk) a9.nw.size⟩)
            obtain ⟨rl, re⟩ := relN_send (p := fun _ => []) (L := []) (fun n => rfl) ((tos (m + 1)).map LetM.x)
            rw [tos_len] at hns
            rw [← re] at hvs
            simp only [tos_len] at hvs
            obtain ⟨sn, hsn⟩ : ∃ s, s = (sendP (fun _ => []) ((tos (m + 1)).map LetM.x)).2 := ⟨_, rfl⟩
            rw [← hsn] at hns hvs
            have HVS := Lib.hid hvs
            have RL := Lib.hid rl
            clear hvs re hsn rl
            go_upto_region 30 with (first | (go_at_call 19; refine hns.mono ?_; rintro e w9 ⟨rfl, col9, x9, n9⟩; have a9 := a8.step x9 (by decide); have d9 := d8.ext x9 (by decide) (by decide) (by decide)) | (go_at_call 20; refine (HVS.out w9 col9 a9 d9).mono ?_; rintro e w10 ⟨rfl, col10, x10, d10⟩))
            have a10 := a9.step x10 (by decide)
            have U0 : Duo w10 col10 1 2 gn gm 43 := ⟨_, _, (n9.ext x10 (by decide) (by decide) (by decide)).more (by omega), d10.more (by omega), RL.out⟩
            clear n8 d8 a8 hns HVS RL x9 n9 a9 d9 x10 d10
            have sl2 : Sl w6 (inA B') B' (letsC (tos 2)) := by have h := sl6.pre (k := 40); rw [tos_pre (by omega)] at h; exact h
            have hfin := five_in (w := w6) (F := inA B') (kd := (n : Int)) (A := B') (c := c') (by omega) sl2 ⟨by omega, o5.cap_le.2⟩
            have HFIN := Lib.hid hfin
            clear hfin sl2
            go_wp2_with fail
            go_loopw [13] (fun i wr => i5R w6 gn gm i wr) (fun i _ => 5 - (intOf i).toNat)
            case atStart => exact ⟨0, 43, col10, by omega, rfl, by omega, a10, U0⟩
            case round =>
              clear a10 U0
              obtain ⟨k, N, col, hk5, rfl, hN, aw, U⟩ := hrel
              obtain ⟨wv, hwv⟩ : ∃ wv, wv = wr := ⟨_, rfl⟩
              rw [← hwv] at aw U ⊢
              clear hwv
              by_cases hlt6 : k < 5
              · have hj0 : (k : Int) < 5 := by omega
                obtain ⟨ds, hds⟩ : ∃ ds, ds = five (n : Int) B' c' := ⟨_, rfl⟩
                have hfi := HFIN.out
                have s6' := s6
                rw [← hds] at s6' hfi
                have hlen : ds.length = 5 := by rw [hds]; rfl
                have hlk : k < ds.length := by omega
                obtain ⟨b, o, hbo, _, hbW, hc0⟩ := s6'.deedN hlk
                cases hbo
                obtain ⟨din, dsz, dln⟩ := hfi _ (List.getElem_mem hlk)
                obtain ⟨d, hd⟩ : ∃ d, ds[k] = d := ⟨_, rfl⟩
                rw [hd] at hc0 din dsz dln
                have hc : ∀ j u, (deedNL d)[j]? = some u → wv.cell? ⟨g6, k * 4 + j, none⟩ = some u := fun j u hu => (aw.nw.cell (p := ⟨g6, k * 4 + j, none⟩) hbW (fun h => h)).trans (by have h := hc0 j u hu; rwa [Nat.zero_add] at h)
                have hF0 : ∀ j, inA B' j → j < wv.heap.size → CB wv col 0 j := fun j hj hl => ⟨aw.z j (z6 j hj), hl⟩
                have hact := act_any wv col 1 2 gn gm N (by decide) (by decide) (by decide) (by decide) (by decide) (by decide) (by decide) (by omega) U aw.cln d din.kind din.way ((din.lets.ls.sl.fr aw.nw (fun _ _ h => h)).mono hF0) (fun x hx => ((din.lets.each x hx).nw aw.nw).mono hF0) dsz (by omega)
                have HACT := Lib.hid hact
                have hsm := fun w7 col7 (U7 : Duo w7 col7 1 2 gn gm (N + 1 + d.l.l.length)) => same25_any w7 col7 1 2 gn gm _ (by decide) (by decide) (by omega) U7
                have HSM := Lib.hid hsm
                have HDL := Lib.hid dln
                clear hd hact hc0 din dsz dln hds hlen hlk s6' hfi hsm
                go_wp2_with (first | (refine wl_cells_want (by kernel_rfl) 35 _ rfl g6 (k * 4) rfl _ _ hc Tryz.underlying35 rfl (by kernel_rfl) ?_) | (go_at_call 14; refine HACT.out.mono ?_; rintro e w7 ⟨rfl, col7, x7, U7⟩) | (go_at_call 15; refine (HSM.out w7 col7 U7).mono ?_; rintro e w8' ⟨rfl, q8'⟩))
                go_roundw
                case rel =>
                  have h10 := HDL.out
                  exact ⟨k + 1, N + 1 + d.l.l.length, col7, by omega, by go_num, by omega, (aw.stepS x7 (by decide)).tr q8', U7.nw q8' (by decide) (by decide)⟩
                case measure => simp [intOf]; omega
              · obtain rfl : k = 5 := by omega
                go_wp2_with fail
                go_roundw
                case rel => exact ⟨n + 1, by omega, by omega, by go_num, hqk.tr (q6.tr aw.nw)⟩
                case measure => simp [intOf]; omega
          · have h37 : ¬ (36 : Int) < (m : Int) := by omega
            have g1 : decide ((n : Int) < 9) = true := decide_eq_true hn0
            have g2 : decide ((36 : Int) < (m : Int)) = false := decide_eq_false h37
            go_wp2_with fail
            go_roundw
            case rel => exact ⟨m + 1, B', c', hlt, by go_num, rfl, by rw [tos_succ, letsC_append]; exact o5.fr hqk (fun _ _ h => h), n5, q5.tr hqk⟩
            case measure => simp [intOf]; omega
        · obtain rfl : n = 9 := by omega
          go_wp2_with fail
          go_roundw
          case rel => exact ⟨m + 1, B', c', hlt, by go_num, rfl, by rw [tos_succ, letsC_append]; exact o5.fr hqk (fun _ _ h => h), n5, q5.tr hqk⟩
          case measure => simp [intOf]; omega
    · obtain rfl : m = 42 := by omega
      go_upto_region 35 with (fail)
      rename_i hK35
      exact ends25_tail W w1 (hq0.tr hq) Q HQ.out _ hK35
end Go.Proofs.YtippdjaakcgeoaaGreat
