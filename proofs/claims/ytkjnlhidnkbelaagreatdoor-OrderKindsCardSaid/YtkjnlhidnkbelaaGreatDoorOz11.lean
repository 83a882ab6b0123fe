/- Lemmas of the walks: Gg2. (Laid together by shake.py.) -/
import Derived.Test.YtkjnlhidnkbelaaGreatDoorOz02
import Derived.Test.YtkjnlhidnkbelaaGreatDoorOz03
import Derived.Test.YtkjnlhidnkbelaaGreatDoorOz04
import Derived.Test.YtkjnlhidnkbelaaGreatDoorOz07
import Derived.Test.YtkjnlhidnkbelaaGreatDoorOz10
set_option linter.unusedVariables false
set_option linter.unusedSimpArgs false
/- Orders read by the program: an answer. (Printed by genrg.py.) -/
namespace Go.Proofs.YtkjnlhidnkbelaaGreatDoor
open Go Go.RowKit
set_option linter.unusedVariables false
set_option linter.unusedSimpArgs false
theorem slip_size : (Tryz.prog.info? 106).map (·.size) = some 1 := by kernel_rfl
theorem onumbers_of (w : World) (F : Nat → Prop) (g : Nat) (s : Rd) (h : IsRd w F g s) (X : Nat) (t : TypeId) (cs : Array Value) (hx : Blk w X t cs) (hgX : g ≠ X) (hF : ¬ F X) (os : List Nat) (hos : ∀ o ∈ os, o < cs.size) (F2 : Nat → Prop) (A : Option Addr) (c : Nat)
    (hs : Sl w F2 A (os.map (ptrV X))) (hF2 : ∀ k, F2 k → ¬ (k = g ∨ k = X)) (n : Nat) (hn : os.length = n) (hol : n ≤ 1000) :
    Calls Tryz.prog 59 #[.agg #[.pointer (some ⟨g, 0, none⟩)], .slice A n c] w fun e w' => e = .returned (.tuple #[]) ∧ IsRd w' F g (rdNs 1073741824 n s).2 ∧ Blk w' X t (setNs cs os (rdNs 1073741824 n s).1) ∧ Fr (fun b => b = g ∨ b = X) w w' := by
  subst hn
  exact onumbers_any w F g s h X t cs hx hgX hF os hos F2 A c hs hF2 hol
/-- A struct loaded behind a guard that says yes. -/
theorem wl_row_want {P : Program} {w : World} {ops : Array Oper} {rest : List Oper} {o : Oper} {a : Act} {Q : Exit → Act → World → Prop} (hw : Region.wanted o (yielded ops a.tmps) = true) (ty : TypeId) (x : Operand) (ho : o.op = .load ty x)
    (g : Nat) (hx : a.eval x = .pointer (some ⟨g, 0, none⟩)) (t : TypeId) (cs : Array Value) (hb : Blk w g t cs) (d : TypeDesc) (hu : P.underlying ty = some d) (hd : (match d with | .struct _ | .array _ _ => true | _ => false) = true) (hi : (P.info? ty).map (·.size) = some cs.size)
    (h : wpList P ops Q rest (a.put o.dst (.agg cs)) w) : wpList P ops Q (o :: rest) a w := by
  refine BigFrame.wpList_want hw fun K hK => ?_
  refine wp_load_cells ty x ho g 0 hx cs.toList d (fun j v hj => ?_) hu hd (by simpa using hi) ?_
  · rw [Nat.zero_add, hb.cell, ← Array.getElem?_toList]; exact hj
  · rw [Array.toArray_toList]; exact hK _ _ h
theorem rdNs2 (m : Int) (s : Rd) : rdNs m 2 s = ([(rdNum m s).1, (rdNum m (rdNum m s).2).1], (rdNum m (rdNum m s).2).2) := rfl
theorem rdNs3 (m : Int) (s : Rd) : rdNs m 3 s = ([(rdNum m s).1, (rdNum m (rdNum m s).2).1, (rdNum m (rdNum m (rdNum m s).2).2).1], (rdNum m (rdNum m (rdNum m s).2).2).2) := rfl
theorem rdRdgs_sz (k : Nat) (s : Rd) : RdgSz (rdRdgs k s).1 := by
  induction k with
  | zero => intro r hr; cases hr
  | succ k ih =>
    intro r hr
    rcases List.mem_append.1 (show r ∈ (rdRdgs k s).1 ++ [(rdRdg (rdRdgs k s).2).1] from hr) with h | h
    · exact ih r h
    · rw [List.mem_singleton.1 h]
      have h1 := rdRow_len 20 (by omega) (rdRdgs k s).2
      have h2 := rdRow_len 20 (by omega) (rdFlag (rdRow 20 (rdRdgs k s).2).2).2
      exact ⟨by show (rdRow 20 (rdRdgs k s).2).1.length ≤ _; omega, by show (rdRow 20 (rdFlag (rdRow 20 (rdRdgs k s).2).2).2).1.length ≤ _; omega⟩
theorem rdRdgsN_sz (s : Rd) : (rdRdgsN s).1.length ≤ 6 ∧ RdgSz (rdRdgsN s).1 := by
  have h := rdNum_most 6 s (by omega)
  refine ⟨?_, rdRdgs_sz _ _⟩
  show (rdRdgs _ _).1.length ≤ 6
  rw [rdRdgs_len]
  omega
theorem rdRdgsN_left (s : Rd) : rdLeft (rdRdgsN s).2 ≤ rdLeft s := Nat.le_trans (rdRdgs_left _ _) (rdNum_left 6 s)
/-- What an answer that was got has: lists of its own. -/
structure AnsOwn (w w' : World) (x : AnsF) (p : Pl) : Prop where
  reads : Own w' 93 3 p.r x.reads.length p.cr (rdgsCells x.reads)
  bytes : Own w' 5 1 p.b x.bytes.length p.cb (x.bytes.map B8)
  nr : ∀ k, inA p.r k → w.heap.size ≤ k
  nb : ∀ k, inA p.b k → w.heap.size ≤ k
theorem AnsOwn.fr {w w' w'' : World} {S : Nat → Prop} {x : AnsF} {p : Pl} (h : AnsOwn w w' x p) (f : Fr S w' w'') (h1 : ∀ k, inA p.r k → ¬ S k) (h2 : ∀ k, inA p.b k → ¬ S k) : AnsOwn w w'' x p :=
  ⟨h.reads.fr f h1, h.bytes.fr f h2, h.nr, h.nb⟩
theorem AnsOwn.in_ {w w' : World} {x : AnsF} {p : Pl} (h : AnsOwn w w' x p) : AnsIn w' (fun k => w.heap.size ≤ k) x p :=
  ⟨h.reads.sl.mono (fun k hk _ => h.nr k hk), h.bytes.sl.mono (fun k hk _ => h.nb k hk), h.reads.cap_le, h.bytes.cap_le⟩
def GotAns (w : World) (r : Option AnsF) (e : Ending) (w' : World) : Prop := Nw w w' ∧ match r with
  | none => e = .panicked [shapeP]
  | some x => ∃ p, e = .returned (.agg (afA x p)) ∧ AnsOwn w w' x p
set_option maxRecDepth 100000 in
set_option maxHeartbeats 8000000 in
theorem ogetAns_c1 (w : World) (F0 : Nat → Prop) (b0 : Nat) (A : Option Addr) (c : Nat) (bs : List UInt8) (hb : Blk w b0 22 #[.slice A bs.length c]) (hs : Sl w F0 A (bs.map B8)) (hsz : bs.length ≤ 1000000000) :
    Calls Tryz.prog 70 #[.pointer (some ⟨b0, 0, none⟩)] w fun e w' => GotAns w (ansGet bs) e w' := by
  have hgq : ansGet bs = if (decide (rdEnd (rdAns (some bs)).2 = 0) && ansOk (rdAns (some bs)).1) = true then some (rdAns (some bs)).1 else none := rfl
  obtain ⟨r, hr⟩ : ∃ r, ansGet bs = r := ⟨_, rfl⟩
  rw [hr] at hgq ⊢
  clear hr
  have hl0 : rdLeft (some bs) ≤ 1000000000000 := by show bs.length ≤ _; omega
  obtain ⟨s0, hs0⟩ : ∃ s0, s0 = some bs := ⟨_, rfl⟩
  rw [← hs0] at hgq hl0
  have hq : rdAns s0 = (⟨(rdNum 99 s0).1, ((rdNum 1073741824 (rdNum 99 s0).2).1, (rdNum 1073741824 (rdNum 1073741824 (rdNum 99 s0).2).2).1), (rdFlag (rdNum 1073741824 (rdNum 1073741824 (rdNum 99 s0).2).2).2).1, (rdFlag (rdFlag (rdNum 1073741824 (rdNum 1073741824 (rdNum 99 s0).2).2).2).2).1, (rdRdgsN (rdFlag (rdFlag (rdNum 1073741824 (rdNum 1073741824 (rdNum 99 s0).2).2).2).2).2).1, (rdNum 1073741824 (rdRdgsN (rdFlag (rdFlag (rdNum 1073741824 (rdNum 1073741824 (rdNum 99 s0).2).2).2).2).2).2).1, (rdNum 1073741824 (rdNum 1073741824 (rdRdgsN (rdFlag (rdFlag (rdNum 1073741824 (rdNum 1073741824 (rdNum 99 s0).2).2).2).2).2).2).2).1, (rdRow 131072 (rdNum 1073741824 (rdNum 1073741824 (rdRdgsN (rdFlag (rdFlag (rdNum 1073741824 (rdNum 1073741824 (rdNum 99 s0).2).2).2).2).2).2).2).2).1⟩, (rdRow 131072 (rdNum 1073741824 (rdNum 1073741824 (rdRdgsN (rdFlag (rdFlag (rdNum 1073741824 (rdNum 1073741824 (rdNum 99 s0).2).2).2).2).2).2).2).2).2) := rfl
  rw [hq] at hgq
  clear hq
  simp only at hgq
  have L1 := Nat.le_trans (rdNum_left 99 s0) hl0
  have n1 := fun w1 F g h1 => rdnumber_any w1 F g s0 h1 99
  obtain ⟨⟨er, s1⟩, y1⟩ : ∃ q, rdNum 99 s0 = q := ⟨_, rfl⟩
  rw [y1] at hgq L1 n1
  simp only at hgq L1 n1
  have e2 := rdNs2 1073741824 s1
  have L2 := Nat.le_trans (Nat.le_trans (rdNum_left 1073741824 (rdNum 1073741824 s1).2) (rdNum_left 1073741824 s1)) L1
  generalize rdNum 1073741824 (rdNum 1073741824 s1).2 = yb at hgq e2 L2
  generalize rdNum 1073741824 s1 = ya at hgq e2
  obtain ⟨a, za⟩ := ya
  obtain ⟨b, s2⟩ := yb
  simp only at hgq e2 L2
  have L3 := Nat.le_trans (rdFlag_left s2) L2
  have n3 := fun w1 F g h1 => rdflag_any w1 F g s2 h1
  generalize rdFlag s2 = y at hgq L3 n3
  obtain ⟨is, s3⟩ := y
  simp only at hgq L3 n3
  have L4 := Nat.le_trans (rdFlag_left s3) L3
  have n4 := fun w1 F g h1 => rdflag_any w1 F g s3 h1
  generalize rdFlag s3 = y at hgq L4 n4
  obtain ⟨cm, s4⟩ := y
  simp only at hgq L4 n4
  have L5 := Nat.le_trans (rdRdgsN_left s4) L4
  have n5 := fun w1 F g h1 => ogreads_any w1 F g s4 h1 L4
  have z5 := rdRdgsN_sz s4
  generalize rdRdgsN s4 = y at hgq L5 n5 z5
  obtain ⟨rl, s5⟩ := y
  simp only at hgq L5 n5 z5
  have e6 := rdNs2 1073741824 s5
  have L6 := Nat.le_trans (Nat.le_trans (rdNum_left 1073741824 (rdNum 1073741824 s5).2) (rdNum_left 1073741824 s5)) L5
  generalize rdNum 1073741824 (rdNum 1073741824 s5).2 = yb at hgq e6 L6
  generalize rdNum 1073741824 s5 = ya at hgq e6
  obtain ⟨sc, zb⟩ := ya
  obtain ⟨sg, s6⟩ := yb
  simp only at hgq e6 L6
  have n7 := fun w1 F g h1 => rdrow_any w1 F g s6 h1 131072 L6
  have z7 := rdRow_len 131072 (by omega) s6
  generalize rdRow 131072 s6 = y at hgq n7 z7
  obtain ⟨bb, s7⟩ := y
  simp only at hgq n7 z7
  have n8 := fun w1 F g h1 => rdend_any w1 F g s7 h1
  generalize rdEnd s7 = ed at hgq n8
  obtain ⟨nr, hnr⟩ : ∃ nr, rl.length = nr := ⟨_, rfl⟩
  obtain ⟨nb, hnb⟩ : ∃ nb, bb.length = nb := ⟨_, rfl⟩
  rw [hnr] at n5
  rw [hnb] at n7
  have hno := newReader_any
  obtain ⟨n0, hn0⟩ : ∃ n0, n0 = bs.length := ⟨_, rfl⟩
  obtain ⟨D, hD⟩ : ∃ D, D = w.heap.size := ⟨_, rfl⟩
  obtain ⟨W0, hW0⟩ : ∃ W0, W0 = w.alloc (.cells zA 41) := ⟨_, rfl⟩
  have q0 : Nw w W0 := by rw [hW0]; exact (Fr.refl (fun _ => False) w).alloc _
  have hz0 : W0.heap.size = D + 1 := by rw [hW0, hD]; simp
  have d0 : Blk W0 D 41 zA := by rw [hW0, hD]; exact Blk.new w _ _
  have b0' := hb.fr q0 (fun h => h)
  have c0 : W0.cell? ⟨b0, 0, none⟩ = some (.slice A n0 c) := by rw [hn0]; simpa using b0'.cell 0
  have hnw := newReader_any W0 F0 A c bs (hs.fr q0 (fun _ _ h => h)) (by omega)
  rw [← hn0, ← hs0] at hnw
  have HG := Lib.hid hgq
  have HNR := Lib.hid hnr
  have HNB := Lib.hid hnb
  have HD := Lib.hid hD
  have HW0 := Lib.hid hW0
  have M1 := Lib.hid n1
  have E3 := Lib.hid e2
  have M4 := Lib.hid n3
  have M5 := Lib.hid n4
  have M6 := Lib.hid n5
  have E7 := Lib.hid e6
  have M8 := Lib.hid n7
  have M9 := Lib.hid n8
  clear hgq hnr hnb hD hW0 n1 e2 n3 n4 n5 e6 n7 n8 hno L1 L2 L3 L4 L5 L6 y1 hs0 hl0 hn0
  go_enter Tryz.func70, Tryz.ntmps70
  go_upto_region 1 with (fail)
  rw [← HW0.out, ← HD.out]
  go_upto_region 2 with (go_at_call 57; refine hnw.mono ?_; rintro e w1 ⟨g, F, rfl, hr1, q1, hgn, hFn⟩)
  obtain ⟨sb, hsb⟩ : ∃ sb, sb = w1.heap.size := ⟨_, rfl⟩
  obtain ⟨W1, hW1⟩ : ∃ W, W = w1.alloc (.cells #[.pointer (some ⟨g, 0, none⟩)] 106) := ⟨_, rfl⟩
  have qa : Nw w1 W1 := by rw [hW1]; exact (Fr.refl (fun _ => False) w1).alloc _
  have b1 : Blk W1 sb 106 #[.pointer (some ⟨g, 0, none⟩)] := by rw [hW1, hsb]; exact Blk.new w1 _ _
  have r1 := hr1.fr qa (fun h => h) (fun _ _ h => h)
  have d1 := (d0.fr q1 (fun h => h)).fr qa (fun h => h)
  have q01 : Nw w W1 := (q0.tr q1).tr qa
  have gl1 : g < sb := by rw [hsb]; exact hr1.lt
  have Fl1 : ∀ k, F k → D < k ∧ k < sb := fun k hk => ⟨by have := hFn k hk; omega, by rw [hsb]; exact hr1.out.2 k hk⟩
  have HSB := Lib.hid hsb
  have HW1 := Lib.hid hW1
  rw [← HSB.out, ← HW1.out]
  have bc2 : W1.cell? ⟨sb, 0, none⟩ = some (.pointer (some ⟨g, 0, none⟩)) := by simpa using b1.cell 0
  clear hsb hW1 qa hnw hr1 q1 d0 q0 c0 b0'
  have N1 := Lib.hid (fun w1 h1 => M1.out w1 F g h1)
  have N4 := Lib.hid (fun w1 h1 => M4.out w1 F g h1)
  have N5 := Lib.hid (fun w1 h1 => M5.out w1 F g h1)
  have N6 := Lib.hid (fun w1 h1 => M6.out w1 F g h1)
  have N8 := Lib.hid (fun w1 h1 => M8.out w1 F g h1)
  have N9 := Lib.hid (fun w1 h1 => M9.out w1 F g h1)
  clear M1 M4 M5 M6 M8 M9
  go_upto_region 3 with (go_at_call 58; refine (N1.out _ r1).mono ?_; rintro e w2 ⟨rfl, h2⟩)
  obtain ⟨X, hX⟩ : ∃ X, X = w2.heap.size := ⟨_, rfl⟩
  obtain ⟨W2, hW2⟩ : ∃ W, W = w2.alloc (.cells #[I64 er, I64 0, I64 0, .bool false, .bool false, .slice none 0 0, I64 0, I64 0, .slice none 0 0] 41) := ⟨_, rfl⟩
  have qb : Nw w2 W2 := by rw [hW2]; exact (Fr.refl (fun _ => False) w2).alloc _
  have x2 : Blk W2 X 41 #[I64 er, I64 0, I64 0, .bool false, .bool false, .slice none 0 0, I64 0, I64 0, .slice none 0 0] := by rw [hW2, hX]; exact Blk.new w2 _ _
  have hXs : sb < X := by rw [hX]; have := h2.2.size; have := b1.lt; omega
  have hDg : D ≠ g := by omega
  have hsg : sb ≠ g := by omega
  have st2 : RSt true w W2 F g X 41 (fun w => Blk w sb 106 #[.pointer (some ⟨g, 0, none⟩)] ∧ Blk w D 41 zA) s1 #[I64 er, I64 0, I64 0, .bool false, .bool false, .slice none 0 0, I64 0, I64 0, .slice none 0 0] :=
    ⟨IsRd.fr h2.1 qb (fun h => h) (fun _ _ h => h), x2, ⟨(b1.fr h2.2 hsg).fr qb (fun h => h), (d1.fr h2.2 hDg).fr qb (fun h => h)⟩, ((Nw.on q01).tr h2.2).tr (Nw.on qb), by omega, fun h => by have := (Fl1 _ h).2; omega, by have := HD.out; have := (Fl1); omega, fun a c f h => ⟨stay_blk hsg (by omega) a c f h.1, stay_blk hDg (by omega) a c f h.2⟩⟩
  have HX := Lib.hid hX
  have HW2 := Lib.hid hW2
  rw [← HX.out, ← HW2.out]
  clear hX hW2 qb x2 bc2 r1 h2 b1 d1
  obtain ⟨B3, hB3⟩ : ∃ B, B = W2.heap.size := ⟨_, rfl⟩
  obtain ⟨V3, hV3⟩ : ∃ V, V = W2.alloc (.cells #[ptrV X 1, ptrV X 2] 42) := ⟨_, rfl⟩
  have sv3 : RSt true w V3 F g X 41 (fun w => Blk w sb 106 #[.pointer (some ⟨g, 0, none⟩)] ∧ Blk w D 41 zA) s1 #[I64 er, I64 0, I64 0, .bool false, .bool false, .slice none 0 0, I64 0, I64 0, .slice none 0 0] := st2.nw (by rw [hV3]; exact (Fr.refl (fun _ => False) _).alloc _)
  have sl3 : Sl V3 (· = B3) (some ⟨B3, 0, none⟩) ([1, 2].map (ptrV X)) := by rw [hV3]; exact sl_new W2 42 [ptrV X 1, ptrV X 2] _ hB3.symm
  have gl3 := (IsRd.lt st2.rd)
  have xl3 := st2.x.lt
  have hn3 := onumbers_of V3 F g s1 sv3.rd X 41 _ sv3.x sv3.gX sv3.FX [1, 2] (by intro o ho; simp only [List.mem_cons, List.not_mem_nil, or_false] at ho; show o < 9; omega) (· = B3) (some ⟨B3, 0, none⟩) 2 sl3 (fun k hk e => by have h1 : k = B3 := hk; rcases e with e | e <;> omega) 2 rfl (by omega)
  rw [E3.out] at hn3
  have bs3 := st2.k.1
  have HB3 := Lib.hid hB3
  have HV3 := Lib.hid hV3
  clear hB3 hV3 sl3 gl3 xl3
  go_upto_region 4 with (first | (refine wpList_load_row rfl 106 _ rfl sb rfl 106 _ (0, 0) _ bs3 Tryz.underlying106 rfl slip_size ?_) | (go_at_call 59; rw [← HB3.out, ← HV3.out]; refine hn3.mono ?_; rintro e W3 ⟨rfl, r3, x3, f3⟩))
  have st3 : RSt true w W3 F g X 41 (fun w => Blk w sb 106 #[.pointer (some ⟨g, 0, none⟩)] ∧ Blk w D 41 zA) s2 #[I64 er, I64 a, I64 b, .bool false, .bool false, .slice none 0 0, I64 0, I64 0, .slice none 0 0] := sv3.both f3 r3 x3
  clear sv3 hn3 bs3 r3 x3 f3 st2
  have bc4 : W3.cell? ⟨sb, 0, none⟩ = some (.pointer (some ⟨g, 0, none⟩)) := by simpa using (st3.k.1).cell 0
  go_upto_region 5 with (go_at_call 61; refine (N4.out _ st3.rd).mono ?_; rintro e w4 ⟨rfl, h4⟩; have su4 := st3.callP h4; have c4 : w4.cell? ⟨X, 3, none⟩ = some (.bool false) := (by simpa using su4.x.cell 3); have f4 := su4.x.frozen 3)
  obtain ⟨W4, hW4⟩ : ∃ W, W = w4.setCell ⟨X, 3, none⟩ (.bool is) := ⟨_, rfl⟩
  have st4 : RSt true w W4 F g X 41 (fun w => Blk w sb 106 #[.pointer (some ⟨g, 0, none⟩)] ∧ Blk w D 41 zA) s3 #[I64 er, I64 a, I64 b, .bool is, .bool false, .slice none 0 0, I64 0, I64 0, .slice none 0 0] := by rw [hW4]; exact su4.set_ 3 (.bool is)
  have HW4 := Lib.hid hW4
  rw [← HW4.out]
  clear hW4 su4 c4 f4 st3 bc4
  have bc5 : W4.cell? ⟨sb, 0, none⟩ = some (.pointer (some ⟨g, 0, none⟩)) := by simpa using (st4.k.1).cell 0
  go_upto_region 6 with (go_at_call 61; refine (N5.out _ st4.rd).mono ?_; rintro e w5 ⟨rfl, h5⟩; have su5 := st4.callP h5; have c5 : w5.cell? ⟨X, 4, none⟩ = some (.bool false) := (by simpa using su5.x.cell 4); have f5 := su5.x.frozen 4)
  obtain ⟨W5, hW5⟩ : ∃ W, W = w5.setCell ⟨X, 4, none⟩ (.bool cm) := ⟨_, rfl⟩
  have st5 : RSt true w W5 F g X 41 (fun w => Blk w sb 106 #[.pointer (some ⟨g, 0, none⟩)] ∧ Blk w D 41 zA) s4 #[I64 er, I64 a, I64 b, .bool is, .bool cm, .slice none 0 0, I64 0, I64 0, .slice none 0 0] := by rw [hW5]; exact su5.set_ 4 (.bool cm)
  have HW5 := Lib.hid hW5
  rw [← HW5.out]
  clear hW5 su5 c5 f5 st4 bc5
  have bc6 : W5.cell? ⟨sb, 0, none⟩ = some (.pointer (some ⟨g, 0, none⟩)) := by simpa using (st5.k.1).cell 0
  have bs6 := st5.k.1
  have xl6 := st5.x.lt
  have gl6 := (IsRd.lt st5.rd)
  go_upto_region 7 with (first | (refine wpList_load_row rfl 106 _ rfl sb rfl 106 _ (0, 0) _ bs6 Tryz.underlying106 rfl slip_size ?_) | (go_at_call 62; refine (N6.out _ st5.rd).mono ?_; rintro e w6 ⟨Ar, cr, rfl, ho6, h6, hA6⟩; have su6 := st5.callP h6; have c6 : w6.cell? ⟨X, 5, none⟩ = some (.slice none 0 0) := (by simpa using su6.x.cell 5); have f6 := su6.x.frozen 5))
  obtain ⟨W6, hW6⟩ : ∃ W, W = w6.setCell ⟨X, 5, none⟩ (.slice Ar nr cr) := ⟨_, rfl⟩
  have su6' : RSt true w W6 F g X 41 (fun w => Blk w sb 106 #[.pointer (some ⟨g, 0, none⟩)] ∧ Blk w D 41 zA) s5 #[I64 er, I64 a, I64 b, .bool is, .bool cm, .slice Ar nr cr, I64 0, I64 0, .slice none 0 0] := by rw [hW6]; exact su6.set_ 5 (.slice Ar nr cr)
  have far6 : ∀ k, inA Ar k → k ≠ g ∧ k ≠ X := fun k hk => ⟨fun e => by have := hA6 k hk; omega, fun e => by have := hA6 k hk; omega⟩
  have own6 : Own W6 93 3 Ar nr cr (rdgsCells rl) := by rw [hW6]; exact ho6.setCell (p := ⟨X, 5, none⟩) (fun hk => (far6 _ hk).2 rfl) _
  have new6 : ∀ k, inA Ar k → w.heap.size ≤ k := fun k hk => Nat.le_trans st5.fr.size (hA6 k hk)
  have nd6 : ∀ k, inA Ar k → k ≠ D := fun k hk => by have := hA6 k hk; omega
  have st6 := su6'.more (K' := fun w => Own w 93 3 Ar nr cr (rdgsCells rl)) own6 (stay_own far6)
  have HW6 := Lib.hid hW6
  rw [← HW6.out]
  clear hW6 su6 su6' c6 f6 st5 bc6 bs6 far6 own6 ho6 xl6 gl6
  obtain ⟨B7, hB7⟩ : ∃ B, B = W6.heap.size := ⟨_, rfl⟩
  obtain ⟨V7, hV7⟩ : ∃ V, V = W6.alloc (.cells #[ptrV X 6, ptrV X 7] 42) := ⟨_, rfl⟩
  have sv7 : RSt true w V7 F g X 41 (fun w => (fun w => Blk w sb 106 #[.pointer (some ⟨g, 0, none⟩)] ∧ Blk w D 41 zA) w ∧ Own w 93 3 Ar nr cr (rdgsCells rl)) s5 #[I64 er, I64 a, I64 b, .bool is, .bool cm, .slice Ar nr cr, I64 0, I64 0, .slice none 0 0] := st6.nw (by rw [hV7]; exact (Fr.refl (fun _ => False) _).alloc _)
  have sl7 : Sl V7 (· = B7) (some ⟨B7, 0, none⟩) ([6, 7].map (ptrV X)) := by rw [hV7]; exact sl_new W6 42 [ptrV X 6, ptrV X 7] _ hB7.symm
  have gl7 := (IsRd.lt st6.rd)
  have xl7 := st6.x.lt
  have hn7 := onumbers_of V7 F g s5 sv7.rd X 41 _ sv7.x sv7.gX sv7.FX [6, 7] (by intro o ho; simp only [List.mem_cons, List.not_mem_nil, or_false] at ho; show o < 9; omega) (· = B7) (some ⟨B7, 0, none⟩) 2 sl7 (fun k hk e => by have h1 : k = B7 := hk; rcases e with e | e <;> omega) 2 rfl (by omega)
  rw [E7.out] at hn7
  have bs7 := st6.k.1.1
  have HB7 := Lib.hid hB7
  have HV7 := Lib.hid hV7
  clear hB7 hV7 sl7 gl7 xl7
  go_upto_region 8 with (first | (refine wpList_load_row rfl 106 _ rfl sb rfl 106 _ (0, 0) _ bs7 Tryz.underlying106 rfl slip_size ?_) | (go_at_call 59; rw [← HB7.out, ← HV7.out]; refine hn7.mono ?_; rintro e W7 ⟨rfl, r7, x7, f7⟩))
  have st7 : RSt true w W7 F g X 41 (fun w => (fun w => Blk w sb 106 #[.pointer (some ⟨g, 0, none⟩)] ∧ Blk w D 41 zA) w ∧ Own w 93 3 Ar nr cr (rdgsCells rl)) s6 #[I64 er, I64 a, I64 b, .bool is, .bool cm, .slice Ar nr cr, I64 sc, I64 sg, .slice none 0 0] := sv7.both f7 r7 x7
  clear sv7 hn7 bs7 r7 x7 f7 st6
  have bc8 : W7.cell? ⟨sb, 0, none⟩ = some (.pointer (some ⟨g, 0, none⟩)) := by simpa using (st7.k.1.1).cell 0
  have bs8 := st7.k.1.1
  have xl8 := st7.x.lt
  have gl8 := (IsRd.lt st7.rd)
  go_upto_region 9 with (first | (refine wpList_load_row rfl 106 _ rfl sb rfl 106 _ (0, 0) _ bs8 Tryz.underlying106 rfl slip_size ?_) | (go_at_call 64; refine (N8.out _ st7.rd).mono ?_; rintro e w8 ⟨Ab, cb, rfl, ho8, h8, hA8⟩; have su8 := st7.callP h8; have c8 : w8.cell? ⟨X, 8, none⟩ = some (.slice none 0 0) := (by simpa using su8.x.cell 8); have f8 := su8.x.frozen 8))
  obtain ⟨W8, hW8⟩ : ∃ W, W = w8.setCell ⟨X, 8, none⟩ (.slice Ab nb cb) := ⟨_, rfl⟩
  have su8' : RSt true w W8 F g X 41 (fun w => (fun w => Blk w sb 106 #[.pointer (some ⟨g, 0, none⟩)] ∧ Blk w D 41 zA) w ∧ Own w 93 3 Ar nr cr (rdgsCells rl)) s7 #[I64 er, I64 a, I64 b, .bool is, .bool cm, .slice Ar nr cr, I64 sc, I64 sg, .slice Ab nb cb] := by rw [hW8]; exact su8.set_ 8 (.slice Ab nb cb)
  have far8 : ∀ k, inA Ab k → k ≠ g ∧ k ≠ X := fun k hk => ⟨fun e => by have := hA8 k hk; omega, fun e => by have := hA8 k hk; omega⟩
  have own8 : Own W8 5 1 Ab nb cb (bb.map B8) := by rw [hW8]; exact ho8.setCell (p := ⟨X, 8, none⟩) (fun hk => (far8 _ hk).2 rfl) _
  have new8 : ∀ k, inA Ab k → w.heap.size ≤ k := fun k hk => Nat.le_trans st7.fr.size (hA8 k hk)
  have nd8 : ∀ k, inA Ab k → k ≠ D := fun k hk => by have := hA8 k hk; omega
  have st8 := su8'.more (K' := fun w => Own w 5 1 Ab nb cb (bb.map B8)) own8 (stay_own far8)
  have HW8 := Lib.hid hW8
  rw [← HW8.out]
  clear hW8 su8 su8' c8 f8 st7 bc8 bs8 far8 own8 ho8 xl8 gl8
  have hx8 := st8.x
  have hd8 := st8.k.1.1.2
  have hs8 := st8.k.1.1.1
  have hr8 := st8.k.1.2
  have hb8 := st8.k.2
  have hfr8 : Nw w W8 := st8.fr.mono (fun k hk => .inr (by have := HD.out; omega))
  obtain ⟨x, hx⟩ : ∃ x : AnsF, x = ⟨er, (a, b), is, cm, rl, sc, sg, bb⟩ := ⟨_, rfl⟩
  obtain ⟨p, hp⟩ : ∃ p : Pl, p = ⟨none, 0, Ar, cr, Ab, cb⟩ := ⟨_, rfl⟩
  have hxa : afA x p = #[I64 er, I64 a, I64 b, .bool is, .bool cm, .slice Ar nr cr, I64 sc, I64 sg, .slice Ab nb cb] := by
    rw [hx, hp]
    show #[I64 er, I64 a, I64 b, .bool is, .bool cm, .slice Ar rl.length cr, I64 sc, I64 sg, .slice Ab bb.length cb] = _
    rw [HNR.out, HNB.out]
  have hG : r = if (decide (ed = 0) && ansOk x) = true then some x else none := by rw [hx]; exact HG.out
  have hsz8 : AnsSz x := by rw [hx]; exact ⟨⟨by show rl.length ≤ _; omega, z5.2⟩, by show bb.length ≤ _; omega⟩
  have hown : AnsOwn w W8 x p := by
    rw [hx, hp]
    refine ⟨?_, ?_, new6, new8⟩
    · show Own W8 93 3 Ar rl.length cr (rdgsCells rl)
      rw [HNR.out]; exact hr8
    · show Own W8 5 1 Ab bb.length cb (bb.map B8)
      rw [HNB.out]; exact hb8
  have hnd : ∀ k, (inA p.r k → k ≠ D) ∧ (inA p.b k → k ≠ D) := fun k => by rw [hp]; exact ⟨nd6 k, nd8 k⟩
  rw [← hxa] at hx8
  have HR := Lib.hid st8.rd
  have HGG := Lib.hid hG
  have bc9 : W8.cell? ⟨sb, 0, none⟩ = some (.pointer (some ⟨g, 0, none⟩)) := by simpa using hs8.cell 0
  clear hG HG hx hp hxa hr8 hb8 st8 new6 new8 z5 z7 nd6 nd8 hs8 hA6 hA8
  by_cases hed : ed = 0
  · subst hed
    obtain ⟨B9, hB9⟩ : ∃ B, B = W8.heap.size := ⟨_, rfl⟩
    obtain ⟨V9, hV9⟩ : ∃ V, V = W8.alloc (.cells (afA x p) 41) := ⟨_, rfl⟩
    have qv9 : Nw W8 V9 := by rw [hV9]; exact (Fr.refl (fun _ => False) _).alloc _
    have hso := oSound_any V9 _ B9 x p (by rw [hV9, hB9]; exact Blk.new W8 _ _) (hown.in_.fr qv9 (fun _ _ h => h)) hsz8
    have hx9 := hx8.fr qv9 (fun h => h)
    have hd9 := hd8.fr qv9 (fun h => h)
    have HB9 := Lib.hid hB9
    have HV9 := Lib.hid hV9
    clear hB9 hV9
    cases hok : ansOk x with
    | true =>
      have e1 : r = some x := by rw [HGG.out, hok]; rfl
      rw [hok] at hso
      have E1 := Lib.hid e1
      clear hok e1
      go_upto_region 10 with (first | (go_at_call 66; refine (N9.out _ HR.out).mono ?_; rintro e w9 ⟨rfl, rfl⟩) | (refine wl_row_want (by rfl) 41 _ rfl X rfl 41 _ hx8 _ Tryz.underlying41 rfl ans_size ?_) | (go_at_call 12; rw [← HB9.out, ← HV9.out]; refine hso.mono ?_; rintro e w10 ⟨rfl, q10⟩) | (go_at_call 65; refine (omust_yes _).mono ?_; rintro e w11 ⟨rfl, rfl⟩))
      have hx10 := hx9.fr q10 (fun h => h)
      have hd10 := hd9.fr q10 (fun h => h)
      go_wp2_with (first | (refine wpList_load_row rfl 41 _ rfl X rfl 41 _ (0, 0) _ hx10 Tryz.underlying41 rfl ans_size ?_) | (refine wpList_store_row rfl 41 _ _ rfl D _ rfl rfl 41 _ hd10 ans_size rfl (af_one x p) ?_))
      refine bodyPost_ret (v := .agg (afA x p)) ?_ rfl ?_
      · exact results_cell_row rfl _ _ D 41 _ (0, 0) _ rfl (hd10.row _) Tryz.underlying41 rfl ans_size
      have qe : Fr (· = D) w10 (w10.setRow D (afA x p)) := (Fr.refl (· = D) w10).setRow (.inl rfl) _
      rw [E1.out]
      exact ⟨((hfr8.tr qv9).tr q10).new qe (fun k hk => by have := HD.out; have h1 : k = D := hk; omega), p, rfl, (hown.fr (qv9.tr q10) (fun _ _ h => h) (fun _ _ h => h)).fr qe (fun k hk e => (hnd k).1 hk e) (fun k hk e => (hnd k).2 hk e)⟩
    | false =>
      have e1 : r = none := by rw [HGG.out, hok]; rfl
      rw [hok] at hso
      have E1 := Lib.hid e1
      clear hok e1
      go_wp2_with (first | (go_at_call 66; refine (N9.out _ HR.out).mono ?_; rintro e w9 ⟨rfl, rfl⟩) | (refine wl_row_want (by rfl) 41 _ rfl X rfl 41 _ hx8 _ Tryz.underlying41 rfl ans_size ?_) | (go_at_call 12; rw [← HB9.out, ← HV9.out]; refine hso.mono ?_; rintro e w10 ⟨rfl, q10⟩) | (go_at_call 65; refine (omust_no _).mono ?_; rintro e w11 ⟨rfl, rfl⟩))
      rw [E1.out]
      exact ⟨rfl, (hfr8.tr qv9).tr q10, rfl⟩
  · have e1 : r = none := by rw [HGG.out, decide_eq_false hed]; rfl
    have E1 := Lib.hid e1
    clear e1
    go_wp2_with (first | (go_at_call 66; refine (N9.out _ HR.out).mono ?_; rintro e w9 ⟨rfl, rfl⟩) | (go_at_call 65; refine (omust_no _).mono ?_; rintro e w11 ⟨rfl, rfl⟩))
    rw [E1.out]
    exact ⟨rfl, hfr8, rfl⟩
end Go.Proofs.YtkjnlhidnkbelaaGreatDoor
/- Orders read by the program: an order. (Printed by genrh.py.) -/
namespace Go.Proofs.YtkjnlhidnkbelaaGreatDoor
open Go Go.RowKit
set_option linter.unusedVariables false
set_option linter.unusedSimpArgs false
/-- What an order that was got has: lists of its own. -/
structure OrdOwn (w w' : World) (x : OrdF) (p : Pl) : Prop where
  acts : Own w' 91 4 p.a x.acts.length p.ca (actsCells x.acts)
  reads : Own w' 93 3 p.r x.reads.length p.cr (rdgsCells x.reads)
  bytes : Own w' 5 1 p.b x.bytes.length p.cb (x.bytes.map B8)
  na : ∀ k, inA p.a k → w.heap.size ≤ k
  nr : ∀ k, inA p.r k → w.heap.size ≤ k
  nb : ∀ k, inA p.b k → w.heap.size ≤ k
theorem OrdOwn.fr {w w' w'' : World} {S : Nat → Prop} {x : OrdF} {p : Pl} (h : OrdOwn w w' x p) (f : Fr S w' w'') (h0 : ∀ k, inA p.a k → ¬ S k) (h1 : ∀ k, inA p.r k → ¬ S k) (h2 : ∀ k, inA p.b k → ¬ S k) : OrdOwn w w'' x p :=
  ⟨h.acts.fr f h0, h.reads.fr f h1, h.bytes.fr f h2, h.na, h.nr, h.nb⟩
theorem OrdOwn.in_ {w w' : World} {x : OrdF} {p : Pl} (h : OrdOwn w w' x p) : OrdIn w' (fun k => w.heap.size ≤ k) x p :=
  ⟨h.acts.sl.mono (fun k hk _ => h.na k hk), h.reads.sl.mono (fun k hk _ => h.nr k hk), h.bytes.sl.mono (fun k hk _ => h.nb k hk), h.acts.cap_le, h.reads.cap_le, h.bytes.cap_le⟩
def GotOrd (w : World) (r : Option OrdF) (e : Ending) (w' : World) : Prop := Nw w w' ∧ match r with
  | none => e = .panicked [shapeP]
  | some x => ∃ p, e = .returned (.agg (ofA (U8V x.kind) x p)) ∧ OrdOwn w w' x p
theorem act_app {W w6 : World} {A A6 : Option Addr} {k c c6 : Nat} {cs : List Value} {news : List Value} (h : AppTo W 91 4 A k c 1 cs news A6 c6 w6) :
    Own w6 91 4 A6 (k + 1) c6 (cs ++ news) ∧ Fr (inA A) W w6 ∧ ∀ j, inA A6 j → inA A j ∨ W.heap.size ≤ j := by
  obtain ⟨h1, _, h3⟩ := h
  refine ⟨h1, ?_, ?_⟩
  · rcases h3 with ⟨_, _, _, hf⟩ | ⟨_, _, hf⟩
    · exact hf
    · exact Nw.on hf
  · intro j hj
    rcases h3 with ⟨_, rfl, _, _⟩ | ⟨_, rfl, _⟩
    · exact .inl hj
    · exact .inr (by rw [(inA_some _ _).1 hj]; exact Nat.le_refl _)
theorem rdAct_left (s : Rd) : rdLeft (rdAct s).2 ≤ rdLeft s := Nat.le_trans (rdNum_left _ _) (Nat.le_trans (rdFlag_left _) (Nat.le_trans (rdRow_left 20 _) (Nat.le_trans (rdRow_left 20 _) (rdNum_left 255 s))))
theorem rdActs_left (k : Nat) (s : Rd) : rdLeft (rdActs k s).2 ≤ rdLeft s := by
  induction k with
  | zero => exact Nat.le_refl _
  | succ k ih => exact Nat.le_trans (rdAct_left _) ih
theorem rdActsN_left (s : Rd) : rdLeft (rdActsN s).2 ≤ rdLeft s := Nat.le_trans (rdActs_left _ _) (rdNum_left 6 s)
theorem rdActs_sz (k : Nat) (s : Rd) : ActSz (rdActs k s).1.1 := by
  induction k with
  | zero => intro r hr; cases hr
  | succ k ih =>
    intro r hr
    rcases List.mem_append.1 (show r ∈ (rdActs k s).1.1 ++ [(rdAct (rdActs k s).2).1.1] from hr) with h | h
    · exact ih r h
    · rw [List.mem_singleton.1 h]
      generalize (rdActs k s).2 = t
      have h1 := rdRow_len 20 (by omega) (rdNum 255 t).2
      have h2 := rdRow_len 20 (by omega) (rdRow 20 (rdNum 255 t).2).2
      have h3 := rdNum_most 255 t (by omega)
      exact ⟨by show 0 ≤ (rdNum 255 t).1 ∧ (rdNum 255 t).1 ≤ 255; omega, by show (rdRow 20 (rdNum 255 t).2).1.length ≤ _; omega, by show (rdRow 20 (rdRow 20 (rdNum 255 t).2).2).1.length ≤ _; omega⟩
theorem rdActsN_sz (s : Rd) : (rdActsN s).1.1.length ≤ 6 ∧ ActSz (rdActsN s).1.1 := by
  have h := rdNum_most 6 s (by omega)
  refine ⟨?_, rdActs_sz _ _⟩
  show (rdActs _ _).1.1.length ≤ 6
  rw [rdActs_len]
  omega
/-- So many acts are read. -/
def GetRel (w : World) (F : Nat → Prop) (g X : Nat) (K : World → Prop) (kd a b ep : Int) (n : Nat) (s : Rd) (i : Value) (wr : World) : Prop :=
  ∃ (k : Nat) (A : Option Addr) (c : Nat), k ≤ n ∧ i = .int .i64 k ∧ (rdActs k s).1.2 = true ∧
    RSt true w wr F g X 31 K (rdActs k s).2 #[U8V kd, I64 a, I64 b, I64 ep, .slice A k c, .bool false, .slice none 0 0, I64 0, I64 0, I64 0, .string ⟨#[]⟩, .string ⟨#[]⟩, .slice none 0 0] ∧
    Own wr 91 4 A k c (actsCells (rdActs k s).1.1) ∧ ∀ j, inA A j → X < j
set_option maxRecDepth 100000 in
set_option maxHeartbeats 16000000 in
theorem oget_c1 (w : World) (F0 : Nat → Prop) (b0 : Nat) (A : Option Addr) (c : Nat) (bs : List UInt8) (hb : Blk w b0 22 #[.slice A bs.length c]) (hs : Sl w F0 A (bs.map B8)) (hsz : bs.length ≤ 1000000000) :
    Calls Tryz.prog 56 #[.pointer (some ⟨b0, 0, none⟩)] w fun e w' => GotOrd w (ordGet bs) e w' := by
  have hgq : ordGet bs = if ((rdOrd (some bs)).1.2 && (decide (rdEnd (rdOrd (some bs)).2 = 0) && ordOk (rdOrd (some bs)).1.1)) = true then some (rdOrd (some bs)).1.1 else none := rfl
  obtain ⟨r, hr⟩ : ∃ r, ordGet bs = r := ⟨_, rfl⟩
  rw [hr] at hgq ⊢
  clear hr
  have hl0 : rdLeft (some bs) ≤ 1000000000000 := by show bs.length ≤ _; omega
  obtain ⟨s0, hs0⟩ : ∃ s0, s0 = some bs := ⟨_, rfl⟩
  rw [← hs0] at hgq hl0
  have hq : rdOrd s0 = ((⟨(rdNum 255 s0).1, ((rdNum 1073741824 (rdNum 255 s0).2).1, (rdNum 1073741824 (rdNum 1073741824 (rdNum 255 s0).2).2).1), (rdNum 1073741824 (rdNum 1073741824 (rdNum 1073741824 (rdNum 255 s0).2).2).2).1, (rdActsN (rdNum 1073741824 (rdNum 1073741824 (rdNum 1073741824 (rdNum 255 s0).2).2).2).2).1.1, (rdFlag (rdActsN (rdNum 1073741824 (rdNum 1073741824 (rdNum 1073741824 (rdNum 255 s0).2).2).2).2).2).1, (rdRdgsN (rdFlag (rdActsN (rdNum 1073741824 (rdNum 1073741824 (rdNum 1073741824 (rdNum 255 s0).2).2).2).2).2).2).1, (rdNum 1073741824 (rdRdgsN (rdFlag (rdActsN (rdNum 1073741824 (rdNum 1073741824 (rdNum 1073741824 (rdNum 255 s0).2).2).2).2).2).2).2).1, (rdNum 1073741824 (rdNum 1073741824 (rdRdgsN (rdFlag (rdActsN (rdNum 1073741824 (rdNum 1073741824 (rdNum 1073741824 (rdNum 255 s0).2).2).2).2).2).2).2).2).1, (rdNum 1073741824 (rdNum 1073741824 (rdNum 1073741824 (rdRdgsN (rdFlag (rdActsN (rdNum 1073741824 (rdNum 1073741824 (rdNum 1073741824 (rdNum 255 s0).2).2).2).2).2).2).2).2).2).1, (rdRow 20 (rdNum 1073741824 (rdNum 1073741824 (rdNum 1073741824 (rdRdgsN (rdFlag (rdActsN (rdNum 1073741824 (rdNum 1073741824 (rdNum 1073741824 (rdNum 255 s0).2).2).2).2).2).2).2).2).2).2).1, (rdRow 20 (rdRow 20 (rdNum 1073741824 (rdNum 1073741824 (rdNum 1073741824 (rdRdgsN (rdFlag (rdActsN (rdNum 1073741824 (rdNum 1073741824 (rdNum 1073741824 (rdNum 255 s0).2).2).2).2).2).2).2).2).2).2).2).1, (rdRow 65536 (rdRow 20 (rdRow 20 (rdNum 1073741824 (rdNum 1073741824 (rdNum 1073741824 (rdRdgsN (rdFlag (rdActsN (rdNum 1073741824 (rdNum 1073741824 (rdNum 1073741824 (rdNum 255 s0).2).2).2).2).2).2).2).2).2).2).2).2).1⟩, (rdActsN (rdNum 1073741824 (rdNum 1073741824 (rdNum 1073741824 (rdNum 255 s0).2).2).2).2).1.2), (rdRow 65536 (rdRow 20 (rdRow 20 (rdNum 1073741824 (rdNum 1073741824 (rdNum 1073741824 (rdRdgsN (rdFlag (rdActsN (rdNum 1073741824 (rdNum 1073741824 (rdNum 1073741824 (rdNum 255 s0).2).2).2).2).2).2).2).2).2).2).2).2).2) := rfl
  rw [hq] at hgq
  clear hq
  simp only at hgq
  have L1 := Nat.le_trans (rdNum_left 255 s0) hl0
  have n1 := fun w1 F g h1 => rdnumber_any w1 F g s0 h1 255
  have m1 := rdNum_most 255 s0 (by omega)
  obtain ⟨⟨kd, s1⟩, y1⟩ : ∃ q, rdNum 255 s0 = q := ⟨_, rfl⟩
  rw [y1] at hgq L1 n1 m1
  simp only at hgq L1 n1 m1
  have e2 := rdNs3 1073741824 s1
  have L2 := Nat.le_trans (Nat.le_trans (rdNum_left 1073741824 (rdNum 1073741824 (rdNum 1073741824 s1).2).2) (Nat.le_trans (rdNum_left 1073741824 (rdNum 1073741824 s1).2) (rdNum_left 1073741824 s1))) L1
  generalize rdNum 1073741824 (rdNum 1073741824 (rdNum 1073741824 s1).2).2 = yc at hgq e2 L2
  generalize rdNum 1073741824 (rdNum 1073741824 s1).2 = yb at hgq e2
  generalize rdNum 1073741824 s1 = ya at hgq e2
  obtain ⟨a, za⟩ := ya
  obtain ⟨b, zb⟩ := yb
  obtain ⟨ep, s2⟩ := yc
  simp only at hgq e2 L2
  have L3 := Nat.le_trans (rdActsN_left s2) L2
  have z3 := rdActsN_sz s2
  have a3 : rdActsN s2 = rdActs (rdNum 6 s2).1.toNat (rdNum 6 s2).2 := rfl
  have L2b := Nat.le_trans (rdNum_left 6 s2) L2
  have m3 := rdNum_most 6 s2 (by omega)
  have n3 := fun w1 F g h1 => rdnumber_any w1 F g s2 h1 6
  obtain ⟨⟨na, s3⟩, y3⟩ : ∃ q, rdNum 6 s2 = q := ⟨_, rfl⟩
  rw [y3] at a3 L2b m3 n3
  simp only at a3 L2b m3 n3
  obtain ⟨na, rfl⟩ : ∃ k : Nat, na = (k : Int) := ⟨na.toNat, by omega⟩
  have hn6 : na ≤ 6 := by omega
  simp only [Int.toNat_natCast] at a3
  rw [a3] at hgq L3 z3
  clear a3 y3 m3
  generalize hcm : rdFlag (rdActs na s3).2 = y4 at hgq
  have L4 := Nat.le_trans (rdFlag_left (rdActs na s3).2) L3
  have n4 := fun w1 F g h1 => rdflag_any w1 F g (rdActs na s3).2 h1
  rw [hcm] at L4 n4
  clear hcm
  obtain ⟨cm, s5⟩ := y4
  simp only at hgq L4 n4
  have L5 := Nat.le_trans (rdRdgsN_left s5) L4
  have n5 := fun w1 F g h1 => ogreads_any w1 F g s5 h1 L4
  have z5 := rdRdgsN_sz s5
  generalize rdRdgsN s5 = y at hgq L5 n5 z5
  obtain ⟨rl, s6⟩ := y
  simp only at hgq L5 n5 z5
  have e6 := rdNs3 1073741824 s6
  have L6 := Nat.le_trans (Nat.le_trans (rdNum_left 1073741824 (rdNum 1073741824 (rdNum 1073741824 s6).2).2) (Nat.le_trans (rdNum_left 1073741824 (rdNum 1073741824 s6).2) (rdNum_left 1073741824 s6))) L5
  generalize rdNum 1073741824 (rdNum 1073741824 (rdNum 1073741824 s6).2).2 = yc at hgq e6 L6
  generalize rdNum 1073741824 (rdNum 1073741824 s6).2 = yb at hgq e6
  generalize rdNum 1073741824 s6 = ya at hgq e6
  obtain ⟨sc, zc⟩ := ya
  obtain ⟨sg, zd⟩ := yb
  obtain ⟨to_, s7⟩ := yc
  simp only at hgq e6 L6
  have L7 := Nat.le_trans (rdRow_left 20 s7) L6
  have z7 := rdRow_len 20 (by omega) s7
  have n7 := fun w1 F g h1 => rdtext_any w1 F g s7 h1 20 L6
  generalize rdRow 20 s7 = y at hgq L7 n7 z7
  obtain ⟨lo, s8⟩ := y
  simp only at hgq L7 n7 z7
  have L8 := Nat.le_trans (rdRow_left 20 s8) L7
  have z8 := rdRow_len 20 (by omega) s8
  have n8 := fun w1 F g h1 => rdtext_any w1 F g s8 h1 20 L7
  generalize rdRow 20 s8 = y at hgq L8 n8 z8
  obtain ⟨hi, s9⟩ := y
  simp only at hgq L8 n8 z8
  have n9 := fun w1 F g h1 => rdrow_any w1 F g s9 h1 65536 L8
  have z9 := rdRow_len 65536 (by omega) s9
  generalize rdRow 65536 s9 = y at hgq n9 z9
  obtain ⟨bb, s10⟩ := y
  simp only at hgq n9 z9
  have n10 := fun w1 F g h1 => rdend_any w1 F g s10 h1
  generalize rdEnd s10 = ed at hgq n10
  obtain ⟨nr, hnr⟩ : ∃ nr, rl.length = nr := ⟨_, rfl⟩
  obtain ⟨nb, hnb⟩ : ∃ nb, bb.length = nb := ⟨_, rfl⟩
  rw [hnr] at n5
  rw [hnb] at n9
  have hkm : kd % 256 = kd := by omega
  obtain ⟨n0, hn0⟩ : ∃ n0, n0 = bs.length := ⟨_, rfl⟩
  obtain ⟨D, hD⟩ : ∃ D, D = w.heap.size := ⟨_, rfl⟩
  obtain ⟨W0, hW0⟩ : ∃ W0, W0 = w.alloc (.cells (zO (U8V 0)) 31) := ⟨_, rfl⟩
  have q0 : Nw w W0 := by rw [hW0]; exact (Fr.refl (fun _ => False) w).alloc _
  have hz0 : W0.heap.size = D + 1 := by rw [hW0, hD]; simp
  have d0 : Blk W0 D 31 (zO (U8V 0)) := by rw [hW0, hD]; exact Blk.new w _ _
  have b0' := hb.fr q0 (fun h => h)
  have c0 : W0.cell? ⟨b0, 0, none⟩ = some (.slice A n0 c) := by rw [hn0]; simpa using b0'.cell 0
  have hnw := newReader_any W0 F0 A c bs (hs.fr q0 (fun _ _ h => h)) (by omega)
  rw [← hn0, ← hs0] at hnw
  have HG := Lib.hid hgq
  have HNR := Lib.hid hnr
  have HNB := Lib.hid hnb
  have HD := Lib.hid hD
  have HW0 := Lib.hid hW0
  have M1 := Lib.hid n1
  have E3 := Lib.hid e2
  have M4 := Lib.hid n3
  have M5 := Lib.hid n4
  have M6 := Lib.hid n5
  have E7 := Lib.hid e6
  have M8 := Lib.hid n7
  have M9 := Lib.hid n8
  have M10 := Lib.hid n9
  have M11 := Lib.hid n10
  have HZ3 := Lib.hid z3
  have HL := Lib.hid L2b
  clear hgq hnr hnb hD hW0 n1 e2 n3 n4 n5 e6 n7 n8 n9 n10 L1 L2 L3 L4 L5 L6 L7 L8 L2b y1 hs0 hl0 hn0 z3
  go_enter Tryz.func56, Tryz.ntmps56
  go_upto_region 1 with (fail)
  rw [← HW0.out, ← HD.out]
  go_upto_region 2 with (go_at_call 57; refine hnw.mono ?_; rintro e w1 ⟨g, F, rfl, hr1, q1, hgn, hFn⟩)
  obtain ⟨sb, hsb⟩ : ∃ sb, sb = w1.heap.size := ⟨_, rfl⟩
  obtain ⟨W1, hW1⟩ : ∃ W, W = w1.alloc (.cells #[.pointer (some ⟨g, 0, none⟩)] 106) := ⟨_, rfl⟩
  have qa : Nw w1 W1 := by rw [hW1]; exact (Fr.refl (fun _ => False) w1).alloc _
  have b1 : Blk W1 sb 106 #[.pointer (some ⟨g, 0, none⟩)] := by rw [hW1, hsb]; exact Blk.new w1 _ _
  have r1 := hr1.fr qa (fun h => h) (fun _ _ h => h)
  have d1 := (d0.fr q1 (fun h => h)).fr qa (fun h => h)
  have q01 : Nw w W1 := (q0.tr q1).tr qa
  have gl1 : g < sb := by rw [hsb]; exact hr1.lt
  have Fl1 : ∀ k, F k → D < k ∧ k < sb := fun k hk => ⟨by have := hFn k hk; omega, by rw [hsb]; exact hr1.out.2 k hk⟩
  have HSB := Lib.hid hsb
  have HW1 := Lib.hid hW1
  rw [← HSB.out, ← HW1.out]
  have bc2 : W1.cell? ⟨sb, 0, none⟩ = some (.pointer (some ⟨g, 0, none⟩)) := by simpa using b1.cell 0
  clear hsb hW1 qa hnw hr1 q1 d0 q0 c0 b0'
  have N1 := Lib.hid (fun w1 h1 => M1.out w1 F g h1)
  have N4 := Lib.hid (fun w1 h1 => M4.out w1 F g h1)
  have N5 := Lib.hid (fun w1 h1 => M5.out w1 F g h1)
  have N6 := Lib.hid (fun w1 h1 => M6.out w1 F g h1)
  have N8 := Lib.hid (fun w1 h1 => M8.out w1 F g h1)
  have N9 := Lib.hid (fun w1 h1 => M9.out w1 F g h1)
  have N10 := Lib.hid (fun w1 h1 => M10.out w1 F g h1)
  have N11 := Lib.hid (fun w1 h1 => M11.out w1 F g h1)
  clear M1 M4 M5 M6 M8 M9 M10 M11
  go_upto_region 3 with (go_at_call 58; refine (N1.out _ r1).mono ?_; rintro e w2 ⟨rfl, h2⟩)
  obtain ⟨X, hX⟩ : ∃ X, X = w2.heap.size := ⟨_, rfl⟩
  obtain ⟨W2, hW2⟩ : ∃ W, W = w2.alloc (.cells #[U8V kd, I64 0, I64 0, I64 0, .slice none 0 0, .bool false, .slice none 0 0, I64 0, I64 0, I64 0, .string ⟨#[]⟩, .string ⟨#[]⟩, .slice none 0 0] 31) := ⟨_, rfl⟩
  have qb : Nw w2 W2 := by rw [hW2]; exact (Fr.refl (fun _ => False) w2).alloc _
  have x2 : Blk W2 X 31 #[U8V kd, I64 0, I64 0, I64 0, .slice none 0 0, .bool false, .slice none 0 0, I64 0, I64 0, I64 0, .string ⟨#[]⟩, .string ⟨#[]⟩, .slice none 0 0] := by rw [hW2, hX]; exact Blk.new w2 _ _
  have hXs : sb < X := by rw [hX]; have := h2.2.size; have := b1.lt; omega
  have hDg : D ≠ g := by omega
  have hsg : sb ≠ g := by omega
  have st2 : RSt true w W2 F g X 31 (fun w => Blk w sb 106 #[.pointer (some ⟨g, 0, none⟩)] ∧ Blk w D 31 (zO (U8V 0))) s1 #[U8V kd, I64 0, I64 0, I64 0, .slice none 0 0, .bool false, .slice none 0 0, I64 0, I64 0, I64 0, .string ⟨#[]⟩, .string ⟨#[]⟩, .slice none 0 0] :=
    ⟨IsRd.fr h2.1 qb (fun h => h) (fun _ _ h => h), x2, ⟨(b1.fr h2.2 hsg).fr qb (fun h => h), (d1.fr h2.2 hDg).fr qb (fun h => h)⟩, ((Nw.on q01).tr h2.2).tr (Nw.on qb), by omega, fun h => by have := (Fl1 _ h).2; omega, by have := HD.out; omega, fun a c f h => ⟨stay_blk hsg (by omega) a c f h.1, stay_blk hDg (by omega) a c f h.2⟩⟩
  have hKX : ∀ (S : Nat → Prop) a c, (∀ j, S j → X < j) → Fr S a c → (fun w => Blk w sb 106 #[.pointer (some ⟨g, 0, none⟩)] ∧ Blk w D 31 (zO (U8V 0))) a → (fun w => Blk w sb 106 #[.pointer (some ⟨g, 0, none⟩)] ∧ Blk w D 31 (zO (U8V 0))) c := fun S a c hS f h => ⟨h.1.fr f (fun hh => by have := hS _ hh; omega), h.2.fr f (fun hh => by have := hS _ hh; omega)⟩
  have HX := Lib.hid hX
  have HW2 := Lib.hid hW2
  rw [← HX.out, ← HW2.out]
  clear hX hW2 qb x2 bc2 r1 h2 b1 d1
  obtain ⟨B3, hB3⟩ : ∃ B, B = W2.heap.size := ⟨_, rfl⟩
  obtain ⟨V3, hV3⟩ : ∃ V, V = W2.alloc (.cells #[ptrV X 1, ptrV X 2, ptrV X 3] 42) := ⟨_, rfl⟩
  have sv3 : RSt true w V3 F g X 31 (fun w => Blk w sb 106 #[.pointer (some ⟨g, 0, none⟩)] ∧ Blk w D 31 (zO (U8V 0))) s1 #[U8V kd, I64 0, I64 0, I64 0, .slice none 0 0, .bool false, .slice none 0 0, I64 0, I64 0, I64 0, .string ⟨#[]⟩, .string ⟨#[]⟩, .slice none 0 0] := st2.nw (by rw [hV3]; exact (Fr.refl (fun _ => False) _).alloc _)
  have sl3 : Sl V3 (· = B3) (some ⟨B3, 0, none⟩) ([1, 2, 3].map (ptrV X)) := by rw [hV3]; exact sl_new W2 42 [ptrV X 1, ptrV X 2, ptrV X 3] _ hB3.symm
  have gl3 := (IsRd.lt st2.rd)
  have xl3 := st2.x.lt
  have hn3 := onumbers_of V3 F g s1 sv3.rd X 31 _ sv3.x sv3.gX sv3.FX [1, 2, 3] (by intro o ho; simp only [List.mem_cons, List.not_mem_nil, or_false] at ho; show o < 13; omega) (· = B3) (some ⟨B3, 0, none⟩) 3 sl3 (fun k hk e => by have h1 : k = B3 := hk; rcases e with e | e <;> omega) 3 rfl (by omega)
  rw [E3.out] at hn3
  have bs3 := st2.k.1
  have HB3 := Lib.hid hB3
  have HV3 := Lib.hid hV3
  clear hB3 hV3 sl3 gl3 xl3
  go_upto_region 4 with (first | (refine wpList_load_row rfl 106 _ rfl sb rfl 106 _ (0, 0) _ bs3 Tryz.underlying106 rfl slip_size ?_) | (go_at_call 59; rw [← HB3.out, ← HV3.out]; refine hn3.mono ?_; rintro e W3 ⟨rfl, r3, x3, f3⟩))
  have st3 : RSt true w W3 F g X 31 (fun w => Blk w sb 106 #[.pointer (some ⟨g, 0, none⟩)] ∧ Blk w D 31 (zO (U8V 0))) s2 #[U8V kd, I64 a, I64 b, I64 ep, .slice none 0 0, .bool false, .slice none 0 0, I64 0, I64 0, I64 0, .string ⟨#[]⟩, .string ⟨#[]⟩, .slice none 0 0] := sv3.both f3 r3 x3
  clear sv3 hn3 bs3 r3 x3 f3 st2
  have bc4 : W3.cell? ⟨sb, 0, none⟩ = some (.pointer (some ⟨g, 0, none⟩)) := by simpa using (st3.k.1).cell 0
  go_wp2_with (go_at_call 58; refine (N4.out _ st3.rd).mono ?_; rintro e w4 ⟨rfl, h4⟩)
  have st4 := st3.callP h4
  clear bc4 st3 h4
  go_loopw [23] (fun i wx => GetRel w F g X (fun w => Blk w sb 106 #[.pointer (some ⟨g, 0, none⟩)] ∧ Blk w D 31 (zO (U8V 0))) kd a b ep na s3 i wx) (fun i _ => na - (intOf i).toNat)
  case atStart => exact ⟨0, none, 0, Nat.zero_le _, rfl, rfl, st4, Own.nil _ _ _, fun j hj => (inA_none j hj).elim⟩
  case round =>
    clear st4
    obtain ⟨k, A, c, hk, rfl, hok, st, ho, hA⟩ := hrel
    by_cases hlt : k < na
    · have hlk := rdActs_len k s3
      have hsk := Nat.le_trans (rdActs_left k s3) HL.out
      have hsucc : rdActs (k + 1) s3 = (((rdActs k s3).1.1 ++ [(rdAct (rdActs k s3).2).1.1], (rdActs k s3).1.2 && (rdAct (rdActs k s3).2).1.2), (rdAct (rdActs k s3).2).2) := rfl
      have hbad := fun h => @rdActs_bad (k + 1) na s3 h (by omega)
      obtain ⟨⟨⟨lk, ok⟩, sk⟩, hkk⟩ : ∃ q, rdActs k s3 = q := ⟨_, rfl⟩
      rw [hkk] at st ho hlk hsk hsucc hok
      simp only at st ho hlk hsk hsucc hok
      subst hok
      have hact := fun w1 h1 => ogact_any w1 F g sk h1 hsk
      generalize rdAct sk = y at hact hsucc
      obtain ⟨⟨at_, ok2⟩, s'⟩ := y
      simp only [Bool.true_and] at hact hsucc
      rw [hsucc] at hbad
      simp only at hbad
      have HS := Lib.hid hsucc
      have HACT := Lib.hid hact
      have HBAD := Lib.hid hbad
      clear hsucc hact hbad hkk hsk
      obtain ⟨wB, hwB⟩ : ∃ wB, wB = wr := ⟨_, rfl⟩
      rw [← hwB] at st ho ⊢
      clear hwB
      have hXl := st.x.lt
      have hgX : g < X := by omega
      have hFX : ∀ j, F j → j < X := fun j hj => by have := (Fl1 j hj).2; omega
      go_upto_region 6 with (fail)
      cases ok2 with
      | false =>
        have hra : (rdActs na s3).1.2 = false := HBAD.out rfl
        have e1 : r = none := by rw [HG.out, hra]; rfl
        have E1 := Lib.hid e1
        clear e1 hra
        refine wp_region_effP (fun ch w' => ch = [shapeP] ∧ Nw w w') ?_ (fun L _ wz => L 3 = false ∧ L 4 = false ∧ L 5 = false ∧ Nw wB wz) (fun _ => (0, none)) (by kernel_rfl) (by kernel_rfl) ⟨rfl, rfl, rfl, (Fr.refl _ wB).drew⟩ ?_
        focus
          rintro ch wz a' ha' ⟨rfl, hnw⟩
          exact (show a'.defers = [] ∧ GotOrd w r (.panicked [shapeP]) wz from ⟨ha', by rw [E1.out]; exact ⟨hnw, rfl⟩⟩)
        apply wpEffP_cons
        focus
          intro B L wz hL hD hC
          refine .inl ⟨by rfl, ?_⟩
          unfold effAt
          go_simp
          exact ⟨rfl, ⟨by simp [onL, hC.1], by simp [onL, hC.2.1], by simp [onL, hC.2.2.1], hC.2.2.2⟩⟩
        simp only [Act.put, List.setIfInBounds_toArray, List.set_cons_zero, List.set_cons_succ]
        apply wpEffP_cons
        focus
          intro B L wz hL hD hC
          have hx := (st.x.fr hC.2.2.2 (fun h => h)).cell 4
          have hb := (st.k.1.fr hC.2.2.2 (fun h => h)).cell 0
          simp at hx hb
          refine .inl ⟨by rfl, ?_⟩
          unfold effAt
          go_simp
          exact ⟨rfl, ⟨by simp [onL, hC.1], by simp [onL, hC.2.1], by simp [onL, hC.2.2.1], hC.2.2.2⟩⟩
        simp only [Act.put, List.setIfInBounds_toArray, List.set_cons_zero, List.set_cons_succ]
        apply wpEffP_cons
        focus
          intro B L wz hL hD hC
          have hx := (st.x.fr hC.2.2.2 (fun h => h)).cell 4
          have hb := (st.k.1.fr hC.2.2.2 (fun h => h)).cell 0
          simp at hx hb
          refine .inl ⟨by rfl, ?_⟩
          unfold effAt
          go_simp
          exact ⟨rfl, ⟨by simp [onL, hC.1], by simp [onL, hC.2.1], by simp [onL, hC.2.2.1], hC.2.2.2⟩⟩
        simp only [Act.put, List.setIfInBounds_toArray, List.set_cons_zero, List.set_cons_succ]
        refine wpEffP_free (fun b => undef) ?_ ?_
        focus
          intro B L wz hL hD hC
          refine .inl ⟨by rfl, ?_⟩
          unfold effAtP
          go_simp
          refine (HACT.out _ (IsRd.fr st.rd hC.2.2.2 (fun h => h) (fun _ _ h => h))).mono ?_
          rintro e w9 ⟨he, hr9⟩
          rw [if_neg (by simp)] at he
          exact .inr ⟨_, he, rfl, (st.fr.mono (fun k hk => .inr (by have := HD.out; have h1 : k = g := hk; omega)) |>.tr hC.2.2.2).new hr9.2 (fun k hk => by have := HD.out; have h1 : k = g := hk; omega)⟩
        simp only [Act.put, List.setIfInBounds_toArray, List.set_cons_zero, List.set_cons_succ]
        refine wpEffP_cons (v := undef) ?_ ?_
        focus
          intro B L wz hL hD hC
          have h3 := hD 3 (by kernel_rfl)
          rw [hC.1] at h3
          cases h3
        simp only [Act.put, List.setIfInBounds_toArray, List.set_cons_zero, List.set_cons_succ]
        refine wpEffP_cons (v := undef) ?_ ?_
        focus
          intro B L wz hL hD hC
          have h3 := hD 4 (by kernel_rfl)
          rw [hC.2.1] at h3
          cases h3
        simp only [Act.put, List.setIfInBounds_toArray, List.set_cons_zero, List.set_cons_succ]
        apply wpEffP_cons
        focus
          intro B L wz hL hD hC
          refine .inl ⟨by rfl, ?_⟩
          unfold effAt
          go_simp
          exact ⟨rfl, ⟨by simp [onL, hC.1], by simp [onL, hC.2.1], by simp [onL, hC.2.2.1], hC.2.2.2⟩⟩
        simp only [Act.put, List.setIfInBounds_toArray, List.set_cons_zero, List.set_cons_succ]
        refine wpEffP_cons (v := undef) ?_ ?_
        focus
          intro B L wz hL hD hC
          have h3 := hD 5 (by kernel_rfl)
          rw [hC.2.2.1] at h3
          cases h3
        simp only [Act.put, List.setIfInBounds_toArray, List.set_cons_zero, List.set_cons_succ]
        exact wpEffP_nil fun B wz hC => absurd hC.1 (by simp)
      | true =>
        have hone : ∀ u ∈ actCells at_, u.oneCell' = true := by
          have := actsCells_one [at_]
          rwa [show actsCells [at_] = actCells at_ from by simp [actsCells]] at this
        have stB : RSt true w wB F g X 31 (fun w => Blk w sb 106 #[.pointer (some ⟨g, 0, none⟩)] ∧ Blk w D 31 (zO (U8V 0))) sk #[U8V kd, I64 a, I64 b, I64 ep, .slice A k c, .bool false, .slice none 0 0, I64 0, I64 0, I64 0, .string ⟨#[]⟩, .string ⟨#[]⟩, .slice none 0 0] := st
        clear st
        refine wp_region_app 3 4 5 7 (fun wz => RSt true w wz F g X 31 (fun w => Blk w sb 106 #[.pointer (some ⟨g, 0, none⟩)] ∧ Blk w D 31 (zO (U8V 0))) sk #[U8V kd, I64 a, I64 b, I64 ep, .slice A k c, .bool false, .slice none 0 0, I64 0, I64 0, I64 0, .string ⟨#[]⟩, .string ⟨#[]⟩, .slice none 0 0] ∧ Own wz 91 4 A k c (actsCells lk)) (fun wz => RSt true w wz F g X 31 (fun w => Blk w sb 106 #[.pointer (some ⟨g, 0, none⟩)] ∧ Blk w D 31 (zO (U8V 0))) s' #[U8V kd, I64 a, I64 b, I64 ep, .slice A k c, .bool false, .slice none 0 0, I64 0, I64 0, I64 0, .string ⟨#[]⟩, .string ⟨#[]⟩, .slice none 0 0] ∧ Own wz 91 4 A k c (actsCells lk))
          (fun v wz => (RSt true w wz F g X 31 (fun w => Blk w sb 106 #[.pointer (some ⟨g, 0, none⟩)] ∧ Blk w D 31 (zO (U8V 0))) s' #[U8V kd, I64 a, I64 b, I64 ep, .slice A k c, .bool false, .slice none 0 0, I64 0, I64 0, I64 0, .string ⟨#[]⟩, .string ⟨#[]⟩, .slice none 0 0] ∧ Own wz 91 4 A k c (actsCells lk)) ∧ Blk wz v 91 (actCells at_).toArray ∧ X < v)
          (fun v wz => (RSt true w wz F g X 31 (fun w => Blk w sb 106 #[.pointer (some ⟨g, 0, none⟩)] ∧ Blk w D 31 (zO (U8V 0))) s' #[U8V kd, I64 a, I64 b, I64 ep, .slice A k c, .bool false, .slice none 0 0, I64 0, I64 0, I64 0, .string ⟨#[]⟩, .string ⟨#[]⟩, .slice none 0 0] ∧ Own wz 91 4 v.2 (k + 1) v.1 (actsCells (lk ++ [at_]))) ∧ ∀ j, inA v.2 j → X < j)
          (fun v wz => (RSt true w wz F g X 31 (fun w => Blk w sb 106 #[.pointer (some ⟨g, 0, none⟩)] ∧ Blk w D 31 (zO (U8V 0))) s' #[U8V kd, I64 a, I64 b, I64 ep, .slice v.2 (k + 1) v.1, .bool false, .slice none 0 0, I64 0, I64 0, I64 0, .string ⟨#[]⟩, .string ⟨#[]⟩, .slice none 0 0] ∧ Own wz 91 4 v.2 (k + 1) v.1 (actsCells (lk ++ [at_]))) ∧ ∀ j, inA v.2 j → X < j) (by kernel_rfl) (by kernel_rfl) ⟨stB.nw (Fr.refl _ wB).drew, ho⟩ ?_
        apply wpEffP_cons
        focus
          intro B L wz hL hD hC
          refine .inl ⟨by rfl, ?_⟩
          unfold effAt
          go_simp
          exact ⟨rfl, hC.keep (by kernel_rfl) hD (by rfl) (by rfl) (by rfl) (by rfl)⟩
        simp only [Act.put, List.setIfInBounds_toArray, List.set_cons_zero, List.set_cons_succ]
        apply wpEffP_cons
        focus
          intro B L wz hL hD hC
          have hx : wz.cell? ⟨X, 4, none⟩ = some (.slice A k c) := hC.early hL (by kernel_rfl) (by kernel_rfl) (fun h => by simpa using h.1.x.cell 4) (fun h => by simpa using h.1.x.cell 4) (fun _ h => by simpa using h.1.1.x.cell 4)
          refine .inl ⟨by rfl, ?_⟩
          unfold effAt
          go_simp
          exact ⟨rfl, hC.keep (by kernel_rfl) hD (by rfl) (by rfl) (by rfl) (by rfl)⟩
        simp only [Act.put, List.setIfInBounds_toArray, List.set_cons_zero, List.set_cons_succ]
        apply wpEffP_cons
        focus
          intro B L wz hL hD hC
          have hb : wz.cell? ⟨sb, 0, none⟩ = some (.pointer (some ⟨g, 0, none⟩)) := hC.all (fun h => by simpa using h.1.k.1.cell 0) (fun h => by simpa using h.1.k.1.cell 0) (fun _ h => by simpa using h.1.1.k.1.cell 0) (fun _ h => by simpa using h.1.1.k.1.cell 0) (fun _ h => by simpa using h.1.1.k.1.cell 0)
          refine .inl ⟨by rfl, ?_⟩
          unfold effAt
          go_simp
          exact ⟨rfl, hC.keep (by kernel_rfl) hD (by rfl) (by rfl) (by rfl) (by rfl)⟩
        simp only [Act.put, List.setIfInBounds_toArray, List.set_cons_zero, List.set_cons_succ]
        apply wpEffP_cons
        focus
          intro B L wz hL hD hC
          obtain ⟨h1, h2⟩ := hC.call hL (by kernel_rfl) (by kernel_rfl) (by kernel_rfl) (by kernel_rfl) hD (by rfl) (by rfl) (by rfl)
          refine .inl ⟨by rfl, ?_⟩
          unfold effAt
          go_simp
          refine (HACT.out _ h1.1.rd).mono ?_
          rintro e w9 ⟨he, hr9⟩
          rw [if_pos rfl] at he
          exact ⟨he, h2 _ ⟨h1.1.callP hr9, h1.2.fr hr9.2 (fun j hj e => by have := hA j hj; have h3 : j = g := e; omega)⟩⟩
        simp only [Act.put, List.setIfInBounds_toArray, List.set_cons_zero, List.set_cons_succ]
        refine wpEffP_free (fun b => .slice (some ⟨b.1, 0, none⟩) 1 1) ?_ ?_
        focus
          intro B L wz hL hD hC
          obtain ⟨h1, h2⟩ := hC.build hL (hD 3 (by kernel_rfl)) (by kernel_rfl) (by kernel_rfl) (by kernel_rfl) hD (by rfl) (by rfl)
          refine .inl ⟨by rfl, ?_⟩
          unfold effAtP
          go_simp
          have qn : Nw wz (wz.alloc (.cells (actCells at_).toArray 91)) := (Fr.refl (fun _ => False) wz).alloc _
          exact ⟨(wz.heap.size, none), rfl, h2 _ _ ⟨⟨h1.1.nw qn, h1.2.fr qn (fun _ _ h => h)⟩, Blk.new wz _ _, h1.1.x.lt⟩⟩
        simp only [Act.put, List.setIfInBounds_toArray, List.set_cons_zero, List.set_cons_succ]
        refine wpEffP_free (fun b => .slice b.2 ((k + 1 : Nat)) b.1) ?_ ?_
        focus
          intro B L wz hL hD hC
          obtain ⟨h1, h2⟩ := hC.app hL (hD 4 (by kernel_rfl)) (by kernel_rfl) (by kernel_rfl) hD (by rfl)
          have hnl : Sl wz (· = (B 4).1) (some ⟨(B 4).1, 0, none⟩) (actCells at_) := (by have h3 := h1.2.1.sl 0 4; simpa [actCells] using h3)
          refine .inl ⟨by rfl, ?_⟩
          refine effAtP_append (.tmp 26) (.tmp 29) 26 rfl 48 (.agg #[.int .u8 0, .string ⟨#[]⟩, .string ⟨#[]⟩, .int .i64 0]) Tryz.underlying26 info_act rfl (by decide) rfl h1.1.2 rfl hnl rfl hone (by omega) (by unfold maxLen; omega) fun A6 c6 w6 hap => ?_
          obtain ⟨o6, f6, a6⟩ := act_app hap
          have far6 : ∀ j, inA A6 j → X < j := fun j hj => (by rcases a6 j hj with h3 | h3; exact hA j h3; have := h1.1.1.x.lt; omega)
          exact ⟨(c6, A6), rfl, h2 _ _ ⟨⟨h1.1.1.other f6 (fun hj => by have := hA _ hj; omega) (fun hj => by have := hA _ hj; omega) (fun j hj hj2 => by have := hA j hj2; have := hFX j hj; omega) (fun j hj => by have := hA j hj; have := h1.1.1.new; omega) (hKX _ _ _ hA f6 h1.1.1.k) h1.1.1.st, by rw [actsCells_append, show actsCells [at_] = actCells at_ from by simp [actsCells]]; exact o6⟩, far6⟩⟩
        simp only [Act.put, List.setIfInBounds_toArray, List.set_cons_zero, List.set_cons_succ]
        apply wpEffP_cons
        focus
          intro B L wz hL hD hC
          refine .inl ⟨by rfl, ?_⟩
          unfold effAt
          go_simp
          exact ⟨rfl, hC.keep (by kernel_rfl) hD (by rfl) (by rfl) (by rfl) (by rfl)⟩
        simp only [Act.put, List.setIfInBounds_toArray, List.set_cons_zero, List.set_cons_succ]
        apply wpEffP_cons
        focus
          intro B L wz hL hD hC
          obtain ⟨h1, h2⟩ := hC.store hL (hD 5 (by kernel_rfl)) (by kernel_rfl) hD
          have hx : wz.cell? ⟨X, 4, none⟩ = some (.slice A k c) := by simpa using h1.1.1.x.cell 4
          have hf := h1.1.1.x.frozen 4
          refine .inl ⟨by rfl, ?_⟩
          unfold effAt
          go_simp
          refine ⟨rfl, h2 _ ⟨⟨h1.1.1.set_ 4 _, h1.1.2.setCell (p := ⟨X, 4, none⟩) (fun hj => Nat.lt_irrefl X (h1.2 _ hj)) _⟩, h1.2⟩⟩
        simp only [Act.put, List.setIfInBounds_toArray, List.set_cons_zero, List.set_cons_succ]
        refine wpEffP_nil fun B wz hC => ?_
        obtain ⟨⟨stz, hoz⟩, hAz⟩ := hC.fin (by rfl)
        clear hC stB ho hA
        generalize B 5 = b5 at stz hoz hAz ⊢
        obtain ⟨c5, A5⟩ := b5
        simp only at stz hoz hAz
        go_wp2_with fail
        go_roundw
        case rel =>
          have hs := HS.out
          refine ⟨k + 1, A5, c5, by omega, by go_num, by rw [hs], ?_, ?_, hAz⟩
          · rw [hs]; exact stz
          · rw [hs]; exact hoz
        case measure => simp [intOf]; omega
    · have hkn : k = na := by omega
      subst hkn
      have hla := rdActs_len k s3
      obtain ⟨⟨⟨la, ok⟩, s4⟩, hkk⟩ : ∃ q, rdActs k s3 = q := ⟨_, rfl⟩
      rw [hkk] at st ho hla hok HG N5 HZ3
      simp only at st ho hla hok HG N5 HZ3
      subst hok
      clear hkk
      obtain ⟨W4, hW4⟩ : ∃ W, W = wr := ⟨_, rfl⟩
      rw [← hW4] at st ho ⊢
      clear hW4
      have st4 := st.more (K' := fun w => Own w 91 4 A k c (actsCells la)) ho (stay_own (fun j hj => ⟨fun e => by have := hA j hj; omega, fun e => by have := hA j hj; omega⟩))
      have hXl := st.x.lt
      have newA : ∀ j, inA A j → w.heap.size ≤ j := fun j hj => by have := hA j hj; have := st.new; omega
      have ndA : ∀ j, inA A j → j ≠ D := fun j hj e => by have := hA j hj; omega
      clear st ho
      go_upto_region 8 with (fail)
      have bc5 : W4.cell? ⟨sb, 0, none⟩ = some (.pointer (some ⟨g, 0, none⟩)) := by simpa using (st4.k.1.1).cell 0
      go_upto_region 9 with (go_at_call 61; refine (N5.out _ st4.rd).mono ?_; rintro e w5 ⟨rfl, h5⟩; have su5 := st4.callP h5; have c5 : w5.cell? ⟨X, 5, none⟩ = some (.bool false) := (by simpa using su5.x.cell 5); have f5 := su5.x.frozen 5)
      obtain ⟨W5, hW5⟩ : ∃ W, W = w5.setCell ⟨X, 5, none⟩ (.bool cm) := ⟨_, rfl⟩
      have st5 : RSt true w W5 F g X 31 (fun w => (fun w => Blk w sb 106 #[.pointer (some ⟨g, 0, none⟩)] ∧ Blk w D 31 (zO (U8V 0))) w ∧ Own w 91 4 A k c (actsCells la)) s5 #[U8V kd, I64 a, I64 b, I64 ep, .slice A k c, .bool cm, .slice none 0 0, I64 0, I64 0, I64 0, .string ⟨#[]⟩, .string ⟨#[]⟩, .slice none 0 0] := by rw [hW5]; exact su5.set_ 5 (.bool cm)
      have HW5 := Lib.hid hW5
      rw [← HW5.out]
      clear hW5 su5 c5 f5 st4 bc5
      have bc6 : W5.cell? ⟨sb, 0, none⟩ = some (.pointer (some ⟨g, 0, none⟩)) := by simpa using (st5.k.1.1).cell 0
      have bs6 := st5.k.1.1
      have xl6 := st5.x.lt
      have gl6 := (IsRd.lt st5.rd)
      go_upto_region 10 with (first | (refine wpList_load_row rfl 106 _ rfl sb rfl 106 _ (0, 0) _ bs6 Tryz.underlying106 rfl slip_size ?_) | (go_at_call 62; refine (N6.out _ st5.rd).mono ?_; rintro e w6 ⟨Ar, cr, rfl, ho6, h6, hA6⟩; have su6 := st5.callP h6; have c6 : w6.cell? ⟨X, 6, none⟩ = some (.slice none 0 0) := (by simpa using su6.x.cell 6); have f6 := su6.x.frozen 6))
      obtain ⟨W6, hW6⟩ : ∃ W, W = w6.setCell ⟨X, 6, none⟩ (.slice Ar nr cr) := ⟨_, rfl⟩
      have su6' : RSt true w W6 F g X 31 (fun w => (fun w => Blk w sb 106 #[.pointer (some ⟨g, 0, none⟩)] ∧ Blk w D 31 (zO (U8V 0))) w ∧ Own w 91 4 A k c (actsCells la)) s6 #[U8V kd, I64 a, I64 b, I64 ep, .slice A k c, .bool cm, .slice Ar nr cr, I64 0, I64 0, I64 0, .string ⟨#[]⟩, .string ⟨#[]⟩, .slice none 0 0] := by rw [hW6]; exact su6.set_ 6 (.slice Ar nr cr)
      have far6 : ∀ k, inA Ar k → k ≠ g ∧ k ≠ X := fun k hk => ⟨fun e => by have := hA6 k hk; omega, fun e => by have := hA6 k hk; omega⟩
      have own6 : Own W6 93 3 Ar nr cr (rdgsCells rl) := by rw [hW6]; exact ho6.setCell (p := ⟨X, 6, none⟩) (fun hk => (far6 _ hk).2 rfl) _
      have new6 : ∀ k, inA Ar k → w.heap.size ≤ k := fun k hk => Nat.le_trans st5.fr.size (hA6 k hk)
      have nd6 : ∀ k, inA Ar k → k ≠ D := fun k hk => by have := hA6 k hk; omega
      have st6 := su6'.more (K' := fun w => Own w 93 3 Ar nr cr (rdgsCells rl)) own6 (stay_own far6)
      have HW6 := Lib.hid hW6
      rw [← HW6.out]
      clear hW6 su6 su6' c6 f6 st5 bc6 bs6 far6 own6 ho6 xl6 gl6
      obtain ⟨B7, hB7⟩ : ∃ B, B = W6.heap.size := ⟨_, rfl⟩
      obtain ⟨V7, hV7⟩ : ∃ V, V = W6.alloc (.cells #[ptrV X 7, ptrV X 8, ptrV X 9] 42) := ⟨_, rfl⟩
      have sv7 : RSt true w V7 F g X 31 (fun w => (fun w => (fun w => Blk w sb 106 #[.pointer (some ⟨g, 0, none⟩)] ∧ Blk w D 31 (zO (U8V 0))) w ∧ Own w 91 4 A k c (actsCells la)) w ∧ Own w 93 3 Ar nr cr (rdgsCells rl)) s6 #[U8V kd, I64 a, I64 b, I64 ep, .slice A k c, .bool cm, .slice Ar nr cr, I64 0, I64 0, I64 0, .string ⟨#[]⟩, .string ⟨#[]⟩, .slice none 0 0] := st6.nw (by rw [hV7]; exact (Fr.refl (fun _ => False) _).alloc _)
      have sl7 : Sl V7 (· = B7) (some ⟨B7, 0, none⟩) ([7, 8, 9].map (ptrV X)) := by rw [hV7]; exact sl_new W6 42 [ptrV X 7, ptrV X 8, ptrV X 9] _ hB7.symm
      have gl7 := (IsRd.lt st6.rd)
      have xl7 := st6.x.lt
      have hn7 := onumbers_of V7 F g s6 sv7.rd X 31 _ sv7.x sv7.gX sv7.FX [7, 8, 9] (by intro o ho; simp only [List.mem_cons, List.not_mem_nil, or_false] at ho; show o < 13; omega) (· = B7) (some ⟨B7, 0, none⟩) 3 sl7 (fun k hk e => by have h1 : k = B7 := hk; rcases e with e | e <;> omega) 3 rfl (by omega)
      rw [E7.out] at hn7
      have bs7 := st6.k.1.1.1
      have HB7 := Lib.hid hB7
      have HV7 := Lib.hid hV7
      clear hB7 hV7 sl7 gl7 xl7
      go_upto_region 11 with (first | (refine wpList_load_row rfl 106 _ rfl sb rfl 106 _ (0, 0) _ bs7 Tryz.underlying106 rfl slip_size ?_) | (go_at_call 59; rw [← HB7.out, ← HV7.out]; refine hn7.mono ?_; rintro e W7 ⟨rfl, r7, x7, f7⟩))
      have st7 : RSt true w W7 F g X 31 (fun w => (fun w => (fun w => Blk w sb 106 #[.pointer (some ⟨g, 0, none⟩)] ∧ Blk w D 31 (zO (U8V 0))) w ∧ Own w 91 4 A k c (actsCells la)) w ∧ Own w 93 3 Ar nr cr (rdgsCells rl)) s7 #[U8V kd, I64 a, I64 b, I64 ep, .slice A k c, .bool cm, .slice Ar nr cr, I64 sc, I64 sg, I64 to_, .string ⟨#[]⟩, .string ⟨#[]⟩, .slice none 0 0] := sv7.both f7 r7 x7
      clear sv7 hn7 bs7 r7 x7 f7 st6
      have bc8 : W7.cell? ⟨sb, 0, none⟩ = some (.pointer (some ⟨g, 0, none⟩)) := by simpa using (st7.k.1.1.1).cell 0
      go_upto_region 12 with (go_at_call 63; refine (N8.out _ st7.rd).mono ?_; rintro e w8 ⟨rfl, h8⟩; have su8 := st7.callP h8; have c8 : w8.cell? ⟨X, 10, none⟩ = some (.string ⟨#[]⟩) := (by simpa using su8.x.cell 10); have f8 := su8.x.frozen 10)
      obtain ⟨W8, hW8⟩ : ∃ W, W = w8.setCell ⟨X, 10, none⟩ (StrV lo) := ⟨_, rfl⟩
      have st8 : RSt true w W8 F g X 31 (fun w => (fun w => (fun w => Blk w sb 106 #[.pointer (some ⟨g, 0, none⟩)] ∧ Blk w D 31 (zO (U8V 0))) w ∧ Own w 91 4 A k c (actsCells la)) w ∧ Own w 93 3 Ar nr cr (rdgsCells rl)) s8 #[U8V kd, I64 a, I64 b, I64 ep, .slice A k c, .bool cm, .slice Ar nr cr, I64 sc, I64 sg, I64 to_, StrV lo, .string ⟨#[]⟩, .slice none 0 0] := by rw [hW8]; exact su8.set_ 10 (StrV lo)
      have HW8 := Lib.hid hW8
      rw [← HW8.out]
      clear hW8 su8 c8 f8 st7 bc8
      have bc9 : W8.cell? ⟨sb, 0, none⟩ = some (.pointer (some ⟨g, 0, none⟩)) := by simpa using (st8.k.1.1.1).cell 0
      go_upto_region 13 with (go_at_call 63; refine (N9.out _ st8.rd).mono ?_; rintro e w9 ⟨rfl, h9⟩; have su9 := st8.callP h9; have c9 : w9.cell? ⟨X, 11, none⟩ = some (.string ⟨#[]⟩) := (by simpa using su9.x.cell 11); have f9 := su9.x.frozen 11)
      obtain ⟨W9, hW9⟩ : ∃ W, W = w9.setCell ⟨X, 11, none⟩ (StrV hi) := ⟨_, rfl⟩
      have st9 : RSt true w W9 F g X 31 (fun w => (fun w => (fun w => Blk w sb 106 #[.pointer (some ⟨g, 0, none⟩)] ∧ Blk w D 31 (zO (U8V 0))) w ∧ Own w 91 4 A k c (actsCells la)) w ∧ Own w 93 3 Ar nr cr (rdgsCells rl)) s9 #[U8V kd, I64 a, I64 b, I64 ep, .slice A k c, .bool cm, .slice Ar nr cr, I64 sc, I64 sg, I64 to_, StrV lo, StrV hi, .slice none 0 0] := by rw [hW9]; exact su9.set_ 11 (StrV hi)
      have HW9 := Lib.hid hW9
      rw [← HW9.out]
      clear hW9 su9 c9 f9 st8 bc9
      have bc10 : W9.cell? ⟨sb, 0, none⟩ = some (.pointer (some ⟨g, 0, none⟩)) := by simpa using (st9.k.1.1.1).cell 0
      have bs10 := st9.k.1.1.1
      have xl10 := st9.x.lt
      have gl10 := (IsRd.lt st9.rd)
      go_upto_region 14 with (first | (refine wpList_load_row rfl 106 _ rfl sb rfl 106 _ (0, 0) _ bs10 Tryz.underlying106 rfl slip_size ?_) | (go_at_call 64; refine (N10.out _ st9.rd).mono ?_; rintro e w10 ⟨Ab, cb, rfl, ho10, h10, hA10⟩; have su10 := st9.callP h10; have c10 : w10.cell? ⟨X, 12, none⟩ = some (.slice none 0 0) := (by simpa using su10.x.cell 12); have f10 := su10.x.frozen 12))
      obtain ⟨W10, hW10⟩ : ∃ W, W = w10.setCell ⟨X, 12, none⟩ (.slice Ab nb cb) := ⟨_, rfl⟩
      have su10' : RSt true w W10 F g X 31 (fun w => (fun w => (fun w => Blk w sb 106 #[.pointer (some ⟨g, 0, none⟩)] ∧ Blk w D 31 (zO (U8V 0))) w ∧ Own w 91 4 A k c (actsCells la)) w ∧ Own w 93 3 Ar nr cr (rdgsCells rl)) s10 #[U8V kd, I64 a, I64 b, I64 ep, .slice A k c, .bool cm, .slice Ar nr cr, I64 sc, I64 sg, I64 to_, StrV lo, StrV hi, .slice Ab nb cb] := by rw [hW10]; exact su10.set_ 12 (.slice Ab nb cb)
      have far10 : ∀ k, inA Ab k → k ≠ g ∧ k ≠ X := fun k hk => ⟨fun e => by have := hA10 k hk; omega, fun e => by have := hA10 k hk; omega⟩
      have own10 : Own W10 5 1 Ab nb cb (bb.map B8) := by rw [hW10]; exact ho10.setCell (p := ⟨X, 12, none⟩) (fun hk => (far10 _ hk).2 rfl) _
      have new10 : ∀ k, inA Ab k → w.heap.size ≤ k := fun k hk => Nat.le_trans st9.fr.size (hA10 k hk)
      have nd10 : ∀ k, inA Ab k → k ≠ D := fun k hk => by have := hA10 k hk; omega
      have st10 := su10'.more (K' := fun w => Own w 5 1 Ab nb cb (bb.map B8)) own10 (stay_own far10)
      have HW10 := Lib.hid hW10
      rw [← HW10.out]
      clear hW10 su10 su10' c10 f10 st9 bc10 bs10 far10 own10 ho10 xl10 gl10
      have hx8 := st10.x
      have hd8 := st10.k.1.1.1.2
      have hs8 := st10.k.1.1.1.1
      have ha8 := st10.k.1.1.2
      have hr8 := st10.k.1.2
      have hb8 := st10.k.2
      have hfr8 : Nw w W10 := st10.fr.mono (fun k hk => .inr (by have := HD.out; omega))
      obtain ⟨x, hx⟩ : ∃ x : OrdF, x = ⟨kd, (a, b), ep, la, cm, rl, sc, sg, to_, lo, hi, bb⟩ := ⟨_, rfl⟩
      obtain ⟨p, hp⟩ : ∃ p : Pl, p = ⟨A, c, Ar, cr, Ab, cb⟩ := ⟨_, rfl⟩
      have hxa : ofA (U8V x.kind) x p = #[U8V kd, I64 a, I64 b, I64 ep, .slice A k c, .bool cm, .slice Ar nr cr, I64 sc, I64 sg, I64 to_, StrV lo, StrV hi, .slice Ab nb cb] := by
        rw [hx, hp]
        show #[U8V kd, I64 a, I64 b, I64 ep, .slice A la.length c, .bool cm, .slice Ar rl.length cr, I64 sc, I64 sg, I64 to_, StrV lo, StrV hi, .slice Ab bb.length cb] = _
        rw [hla, HNR.out, HNB.out]
      have hG : r = if (decide (ed = 0) && ordOk x) = true then some x else none := by rw [hx]; have h := HG.out; rwa [Bool.true_and] at h
      have hsz8 : OrdSz x := by rw [hx]; exact ⟨m1, ⟨by show la.length ≤ _; omega, HZ3.out.2⟩, ⟨by show rl.length ≤ _; omega, z5.2⟩, by show bb.length ≤ _; omega, by show lo.length ≤ _; omega, by show hi.length ≤ _; omega⟩
      have hown : OrdOwn w W10 x p := by
        rw [hx, hp]
        refine ⟨?_, ?_, ?_, newA, new6, new10⟩
        · show Own W10 91 4 A la.length c (actsCells la)
          rw [hla]; exact ha8
        · show Own W10 93 3 Ar rl.length cr (rdgsCells rl)
          rw [HNR.out]; exact hr8
        · show Own W10 5 1 Ab bb.length cb (bb.map B8)
          rw [HNB.out]; exact hb8
      have hnd : ∀ k, (inA p.a k → k ≠ D) ∧ (inA p.r k → k ≠ D) ∧ (inA p.b k → k ≠ D) := fun k => by rw [hp]; exact ⟨ndA k, nd6 k, nd10 k⟩
      rw [← hxa] at hx8
      have HR := Lib.hid st10.rd
      have HGG := Lib.hid hG
      have bc9 : W10.cell? ⟨sb, 0, none⟩ = some (.pointer (some ⟨g, 0, none⟩)) := by simpa using hs8.cell 0
      have hone := of_one (U8V x.kind) rfl x p
      clear hG HG hx hp hxa ha8 hr8 hb8 st10 new6 new10 newA z5 z7 z8 z9 nd6 nd10 ndA hs8 hA6 hA10 hA hXl hla m1
      by_cases hed : ed = 0
      · subst hed
        obtain ⟨B9, hB9⟩ : ∃ B, B = W10.heap.size := ⟨_, rfl⟩
        obtain ⟨V9, hV9⟩ : ∃ V, V = W10.alloc (.cells (ofA (U8V x.kind) x p) 31) := ⟨_, rfl⟩
        have qv9 : Nw W10 V9 := by rw [hV9]; exact (Fr.refl (fun _ => False) _).alloc _
        have hso := oRight_any V9 _ B9 x p (by rw [hV9, hB9]; exact Blk.new W10 _ _) (hown.in_.fr qv9 (fun _ _ h => h)) hsz8
        have hx9 := hx8.fr qv9 (fun h => h)
        have hd9 := hd8.fr qv9 (fun h => h)
        have HB9 := Lib.hid hB9
        have HV9 := Lib.hid hV9
        clear hB9 hV9
        cases hok : ordOk x with
        | true =>
          have e1 : r = some x := by rw [HGG.out, hok]; rfl
          rw [hok] at hso
          have E1 := Lib.hid e1
          clear hok e1
          go_upto_region 15 with (first | (go_at_call 66; refine (N11.out _ HR.out).mono ?_; rintro e w9 ⟨rfl, rfl⟩) | (refine wl_row_want (by rfl) 31 _ rfl X rfl 31 _ hx8 _ Tryz.underlying31 rfl ord_size ?_) | (go_at_call 11; rw [← HB9.out, ← HV9.out]; refine hso.mono ?_; rintro e w10 ⟨rfl, q10⟩) | (go_at_call 65; refine (omust_yes _).mono ?_; rintro e w11 ⟨rfl, rfl⟩))
          have hx10 := hx9.fr q10 (fun h => h)
          have hd10 := hd9.fr q10 (fun h => h)
          go_wp2_with (first | (refine wpList_load_row rfl 31 _ rfl X rfl 31 _ (0, 0) _ hx10 Tryz.underlying31 rfl ord_size ?_) | (refine wpList_store_row rfl 31 _ _ rfl D _ rfl rfl 31 _ hd10 ord_size rfl hone ?_))
          refine bodyPost_ret (v := .agg (ofA (U8V x.kind) x p)) ?_ rfl ?_
          · exact results_cell_row rfl _ _ D 31 _ (0, 0) _ rfl (hd10.row _) Tryz.underlying31 rfl ord_size
          have qe : Fr (· = D) w10 (w10.setRow D (ofA (U8V x.kind) x p)) := (Fr.refl (· = D) w10).setRow (.inl rfl) _
          rw [E1.out]
          exact ⟨((hfr8.tr qv9).tr q10).new qe (fun k hk => by have := HD.out; have h1 : k = D := hk; omega), p, rfl, (hown.fr (qv9.tr q10) (fun _ _ h => h) (fun _ _ h => h) (fun _ _ h => h)).fr qe (fun k hk e => (hnd k).1 hk e) (fun k hk e => (hnd k).2.1 hk e) (fun k hk e => (hnd k).2.2 hk e)⟩
        | false =>
          have e1 : r = none := by rw [HGG.out, hok]; rfl
          rw [hok] at hso
          have E1 := Lib.hid e1
          clear hok e1
          go_wp2_with (first | (go_at_call 66; refine (N11.out _ HR.out).mono ?_; rintro e w9 ⟨rfl, rfl⟩) | (refine wl_row_want (by rfl) 31 _ rfl X rfl 31 _ hx8 _ Tryz.underlying31 rfl ord_size ?_) | (go_at_call 11; rw [← HB9.out, ← HV9.out]; refine hso.mono ?_; rintro e w10 ⟨rfl, q10⟩) | (go_at_call 65; refine (omust_no _).mono ?_; rintro e w11 ⟨rfl, rfl⟩))
          rw [E1.out]
          exact ⟨rfl, (hfr8.tr qv9).tr q10, rfl⟩
      · have e1 : r = none := by rw [HGG.out, decide_eq_false hed]; rfl
        have E1 := Lib.hid e1
        clear e1
        go_wp2_with (first | (go_at_call 66; refine (N11.out _ HR.out).mono ?_; rintro e w9 ⟨rfl, rfl⟩) | (go_at_call 65; refine (omust_no _).mono ?_; rintro e w11 ⟨rfl, rfl⟩))
        rw [E1.out]
        exact ⟨rfl, hfr8, rfl⟩
end Go.Proofs.YtkjnlhidnkbelaaGreatDoor
/- Orders and answers read by the program. (Printed by genri.py.) -/
namespace Go.Proofs.YtkjnlhidnkbelaaGreatDoor
open Go Go.RowKit
set_option linter.unusedVariables false
set_option linter.unusedSimpArgs false
/-- What 'Get' leaves: the order, its lists its own, or the error. -/
def GetOTo (w : World) (r : Option OrdF) (e : Ending) (w' : World) : Prop := Nw w w' ∧ match r with
  | none => e = .returned (.tuple #[.agg (zO (U8V 0)), .int .i64 4])
  | some x => ∃ p, e = .returned (.tuple #[.agg (ofA (U8V x.kind) x p), .int .i64 0]) ∧ OrdOwn w w' x p
theorem OrdOwn.base {w0 w w' : World} {x : OrdF} {p : Pl} (h : OrdOwn w w' x p) (q : w0.heap.size ≤ w.heap.size) : OrdOwn w0 w' x p :=
  ⟨h.acts, h.reads, h.bytes, fun k hk => Nat.le_trans q (h.na k hk), fun k hk => Nat.le_trans q (h.nr k hk), fun k hk => Nat.le_trans q (h.nb k hk)⟩
set_option maxRecDepth 100000 in
set_option maxHeartbeats 2000000 in
theorem oget_any (w : World) (F : Nat → Prop) (A : Option Addr) (c : Nat) (bs : List UInt8) (hs : Sl w F A (bs.map B8)) (hsz : bs.length ≤ 1000000000) :
    Calls Tryz.prog 16 #[.slice A bs.length c] w fun e w' => GetOTo w (ordGet bs) e w' := by
  obtain ⟨W0, hW0⟩ : ∃ W0, W0 = (w.alloc (.cells #[.slice A bs.length c] 22)).alloc (.cells (zO (U8V 0)) 31) := ⟨_, rfl⟩
  have q0 : Nw w W0 := by rw [hW0]; exact ((Fr.refl (fun _ => False) w).alloc _).alloc _
  have hz0 : W0.heap.size = w.heap.size + 2 := by rw [hW0]; simp
  have b0 : Blk W0 w.heap.size 22 #[.slice A bs.length c] := by rw [hW0]; exact (Blk.new w _ _).alloc _
  have d0 : Blk W0 (w.heap.size + 1) 31 (zO (U8V 0)) := by rw [hW0]; simpa using Blk.new (w.alloc (.cells #[.slice A bs.length c] 22)) 31 (zO (U8V 0))
  have hc1 := fun w1 (f : Nw W0 w1) => oget_c1 w1 F w.heap.size A c bs (b0.fr f (fun h => h)) ((hs.fr q0 (fun _ _ h => h)).fr f (fun _ _ h => h)) hsz
  have hmf : ∀ (fn : Fn) (first cap : Array Value) (w : World), (Instr.makeFunc fn first cap).run Tryz.prog w = .ok (.func fn first cap) w := fun _ _ _ _ => rfl
  generalize ordGet bs = r at hc1 ⊢
  generalize bs.length = n at hW0 ⊢
  have HW0 := Lib.hid hW0
  clear hW0 b0
  cases r with
  | none =>
    have ht := triedO_no W0 w.heap.size (fun w1 f => (hc1 w1 f).mono fun e w' h => ⟨h.2, h.1⟩)
    have hone := of_one (U8V 0) rfl (ordZ 0) plZ
    go_enter Tryz.func16, Tryz.ntmps16
    go_upto_region 1 with (fail)
    rw [← HW0.out]
    go_wp2_with (first | (go_at_call 55; refine ht.mono ?_; rintro e w1 ⟨rfl, q1⟩; have d1 := d0.fr q1 (fun h => h)) | (refine wpList_store_row rfl 31 _ _ rfl (w.heap.size + 1) _ rfl rfl 31 _ d1 ord_size rfl hone ?_))
    refine bodyPost_ret (v := .tuple #[.agg (zO (U8V 0)), .int .i64 4]) ?_ rfl ?_
    · exact results_cell_tmp_row rfl _ _ (w.heap.size + 1) 31 _ (0, 0) _ _ rfl rfl (d1.row _) Tryz.underlying31 rfl ord_size
    exact ⟨(q0.tr q1).new ((Fr.refl (· = w.heap.size + 1) w1).setRow (.inl rfl) _) (fun k hk => by have h : k = w.heap.size + 1 := hk; omega), rfl⟩
  | some x =>
    have ht := triedO_yes W0 w.heap.size (fun p => ofA (U8V x.kind) x p) (fun p w1 w' => OrdOwn w1 w' x p) (fun w1 f => (hc1 w1 f).mono fun e w' ⟨h1, p, h2, h3⟩ => ⟨p, h2, rfl, of_one _ rfl x p, h1, h3⟩)
    go_enter Tryz.func16, Tryz.ntmps16
    go_upto_region 1 with (fail)
    rw [← HW0.out]
    go_wp2_with (first | (go_at_call 55; refine ht.mono ?_; rintro e w3 ⟨p, w1, w2, rfl, q1, hz1, how, q2, f3⟩; have d1 := ((d0.fr q1 (fun h => h)).fr q2 (fun h => h)).fr f3 (fun h => by omega); have hone := of_one (U8V x.kind) rfl x p) | (refine wpList_store_row rfl 31 _ _ rfl (w.heap.size + 1) _ rfl rfl 31 _ d1 ord_size rfl hone ?_))
    refine bodyPost_ret (v := .tuple #[.agg (ofA (U8V x.kind) x p), .int .i64 0]) ?_ rfl ?_
    · exact results_cell_tmp_row rfl _ _ (w.heap.size + 1) 31 _ (0, 0) _ _ rfl rfl (d1.row _) Tryz.underlying31 rfl ord_size
    have f4 : Fr (fun k => w.heap.size ≤ k ∧ k < w1.heap.size) w2 (w3.setRow (w.heap.size + 1) (ofA (U8V x.kind) x p)) := (f3.mono (fun k hk => .inl (by omega))).setRow (.inl (by omega)) _
    refine ⟨((q0.tr q1).tr q2).new f4 (fun k hk => hk.1), p, rfl, (how.fr f4 (fun k hk h => by have := how.na k hk; omega) (fun k hk h => by have := how.nr k hk; omega) (fun k hk h => by have := how.nb k hk; omega)).base (by omega)⟩
/-- What 'GetAnswer' leaves: the answer, its lists its own, or the error. -/
def GetATo (w : World) (r : Option AnsF) (e : Ending) (w' : World) : Prop := Nw w w' ∧ match r with
  | none => e = .returned (.tuple #[.agg zA, .int .i64 4])
  | some x => ∃ p, e = .returned (.tuple #[.agg (afA x p), .int .i64 0]) ∧ AnsOwn w w' x p
theorem AnsOwn.base {w0 w w' : World} {x : AnsF} {p : Pl} (h : AnsOwn w w' x p) (q : w0.heap.size ≤ w.heap.size) : AnsOwn w0 w' x p :=
  ⟨h.reads, h.bytes, fun k hk => Nat.le_trans q (h.nr k hk), fun k hk => Nat.le_trans q (h.nb k hk)⟩
set_option maxRecDepth 100000 in
set_option maxHeartbeats 2000000 in
theorem ogetAns_any (w : World) (F : Nat → Prop) (A : Option Addr) (c : Nat) (bs : List UInt8) (hs : Sl w F A (bs.map B8)) (hsz : bs.length ≤ 1000000000) :
    Calls Tryz.prog 20 #[.slice A bs.length c] w fun e w' => GetATo w (ansGet bs) e w' := by
  obtain ⟨W0, hW0⟩ : ∃ W0, W0 = (w.alloc (.cells #[.slice A bs.length c] 22)).alloc (.cells zA 41) := ⟨_, rfl⟩
  have q0 : Nw w W0 := by rw [hW0]; exact ((Fr.refl (fun _ => False) w).alloc _).alloc _
  have hz0 : W0.heap.size = w.heap.size + 2 := by rw [hW0]; simp
  have b0 : Blk W0 w.heap.size 22 #[.slice A bs.length c] := by rw [hW0]; exact (Blk.new w _ _).alloc _
  have d0 : Blk W0 (w.heap.size + 1) 41 zA := by rw [hW0]; simpa using Blk.new (w.alloc (.cells #[.slice A bs.length c] 22)) 41 zA
  have hc1 := fun w1 (f : Nw W0 w1) => ogetAns_c1 w1 F w.heap.size A c bs (b0.fr f (fun h => h)) ((hs.fr q0 (fun _ _ h => h)).fr f (fun _ _ h => h)) hsz
  have hmf : ∀ (fn : Fn) (first cap : Array Value) (w : World), (Instr.makeFunc fn first cap).run Tryz.prog w = .ok (.func fn first cap) w := fun _ _ _ _ => rfl
  generalize ansGet bs = r at hc1 ⊢
  generalize bs.length = n at hW0 ⊢
  have HW0 := Lib.hid hW0
  clear hW0 b0
  cases r with
  | none =>
    have ht := triedA_no W0 w.heap.size (fun w1 f => (hc1 w1 f).mono fun e w' h => ⟨h.2, h.1⟩)
    have hone := af_one ansZ plZ
    go_enter Tryz.func20, Tryz.ntmps20
    go_upto_region 1 with (fail)
    rw [← HW0.out]
    go_wp2_with (first | (go_at_call 69; refine ht.mono ?_; rintro e w1 ⟨rfl, q1⟩; have d1 := d0.fr q1 (fun h => h)) | (refine wpList_store_row rfl 41 _ _ rfl (w.heap.size + 1) _ rfl rfl 41 _ d1 ans_size rfl hone ?_))
    refine bodyPost_ret (v := .tuple #[.agg zA, .int .i64 4]) ?_ rfl ?_
    · exact results_cell_tmp_row rfl _ _ (w.heap.size + 1) 41 _ (0, 0) _ _ rfl rfl (d1.row _) Tryz.underlying41 rfl ans_size
    exact ⟨(q0.tr q1).new ((Fr.refl (· = w.heap.size + 1) w1).setRow (.inl rfl) _) (fun k hk => by have h : k = w.heap.size + 1 := hk; omega), rfl⟩
  | some x =>
    have ht := triedA_yes W0 w.heap.size (fun p => afA x p) (fun p w1 w' => AnsOwn w1 w' x p) (fun w1 f => (hc1 w1 f).mono fun e w' ⟨h1, p, h2, h3⟩ => ⟨p, h2, rfl, af_one x p, h1, h3⟩)
    go_enter Tryz.func20, Tryz.ntmps20
    go_upto_region 1 with (fail)
    rw [← HW0.out]
    go_wp2_with (first | (go_at_call 69; refine ht.mono ?_; rintro e w3 ⟨p, w1, w2, rfl, q1, hz1, how, q2, f3⟩; have d1 := ((d0.fr q1 (fun h => h)).fr q2 (fun h => h)).fr f3 (fun h => by omega); have hone := af_one x p) | (refine wpList_store_row rfl 41 _ _ rfl (w.heap.size + 1) _ rfl rfl 41 _ d1 ans_size rfl hone ?_))
    refine bodyPost_ret (v := .tuple #[.agg (afA x p), .int .i64 0]) ?_ rfl ?_
    · exact results_cell_tmp_row rfl _ _ (w.heap.size + 1) 41 _ (0, 0) _ _ rfl rfl (d1.row _) Tryz.underlying41 rfl ans_size
    have f4 : Fr (fun k => w.heap.size ≤ k ∧ k < w1.heap.size) w2 (w3.setRow (w.heap.size + 1) (afA x p)) := (f3.mono (fun k hk => .inl (by omega))).setRow (.inl (by omega)) _
    refine ⟨((q0.tr q1).tr q2).new f4 (fun k hk => hk.1), p, rfl, (how.fr f4 (fun k hk h => by have := how.nr k hk; omega) (fun k hk h => by have := how.nb k hk; omega)).base (by omega)⟩
end Go.Proofs.YtkjnlhidnkbelaaGreatDoor
