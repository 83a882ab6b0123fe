/- Lemmas of the walks: NoD, FlB, HdA, NoE, NoF. (Laid together by shake.py.) -/
import Derived.Test.YtippdjaakcgeoaaGreatNe01
import Derived.Test.YtippdjaakcgeoaaGreatNe03
import Derived.Test.YtippdjaakcgeoaaGreatNe04
set_option linter.unusedVariables false
set_option linter.unusedSimpArgs false
namespace Go.Proofs.YtippdjaakcgeoaaGreat
open Go Go.RowKit
set_option linter.unusedVariables false
set_option linter.unusedSimpArgs false

abbrev WayMap (w : World) (b s : Nat) (f : Nm → Option Value) : Prop := MapW Tryz.prog 90 w b s f
abbrev nilLets : Value := .slice none 0 0
set_option maxRecDepth 100000 in
theorem netNew_any (w : World) : Calls Tryz.prog 10 #[] w fun e w' => e = .returned (.pointer (some ⟨w.heap.size + 1, 0, none⟩)) ∧ Blk w' (w.heap.size + 1) 58 #[.map (some w.heap.size)] ∧ WayMap w' w.heap.size 0 (fun _ => none) ∧ Nw w w' := by
  have hmm := @run_makeMap Tryz.prog
  go_enter Tryz.func10, Tryz.ntmps10
  go_wp2
  go_ret
  have hb : Blk ((w.alloc (.map #[] 0)).alloc (.cells #[.map (some w.heap.size)] 58)) (w.heap.size + 1) 58 #[.map (some w.heap.size)] := by
    simpa using Blk.new (w.alloc (.map #[] 0)) 58 #[.map (some w.heap.size)]
  have hM : WayMap (w.alloc (.map #[] 0)) w.heap.size 0 (fun _ => none) := MapW.made w
  have q : Nw (w.alloc (.map #[] 0)) ((w.alloc (.map #[] 0)).alloc (.cells #[.map (some w.heap.size)] 58)) := (Fr.refl _ _).alloc _
  exact ⟨rfl, hb, hM.fr q (fun h => h), ((Fr.refl _ w).alloc _).alloc _⟩
set_option maxRecDepth 100000 in
theorem netKnown_yes (w : World) (g m : Nat) (hb : Blk w g 58 #[.map (some m)]) :
    Calls Tryz.prog 49 #[.pointer (some ⟨g, 0, none⟩)] w fun e w' => e = .returned (.bool true) ∧ w = w' := by
  have c0 := hb.cell 0
  simp at c0
  have hne := fun (w : World) (m : Option Nat) => run_neq_map_nil (P := Tryz.prog) w 54 90 28 m Tryz.underlying54
  go_enter Tryz.func49, Tryz.ntmps49
  go_wp2
  go_ret
  exact ⟨rfl, rfl⟩
set_option maxRecDepth 100000 in
theorem netKnown_void (w : World) (g : Nat) (hb : Blk w g 58 #[.map none]) :
    Calls Tryz.prog 49 #[.pointer (some ⟨g, 0, none⟩)] w fun e w' => e = .returned (.bool false) ∧ w = w' := by
  have c0 := hb.cell 0
  simp at c0
  have hne := fun (w : World) (m : Option Nat) => run_neq_map_nil (P := Tryz.prog) w 54 90 28 m Tryz.underlying54
  go_enter Tryz.func49, Tryz.ntmps49
  go_wp2
  go_ret
  exact ⟨rfl, rfl⟩
set_option maxRecDepth 100000 in
theorem netKnown_nil (w : World) :
    Calls Tryz.prog 49 #[.pointer none] w fun e w' => e = .returned (.bool false) ∧ w = w' := by
  go_enter Tryz.func49, Tryz.ntmps49
  go_wp2
  go_ret
  exact ⟨rfl, rfl⟩
theorem zero_lets (W : World) : (zeroValue 28).run Tryz.prog W = .ok nilLets W := by kernel_rfl
set_option maxRecDepth 100000 in
set_option maxHeartbeats 4000000 in
theorem netWaits_any (w : World) (g m s : Nat) (f : Nm → Option Value) (hb : Blk w g 58 #[.map (some m)]) (hM : WayMap w m s f) (n : Nm) (hn : NmWf n) :
    Calls Tryz.prog 62 #[.pointer (some ⟨g, 0, none⟩), nmKey n] w fun e w' => e = .returned ((f n).getD nilLets) ∧ Nw w w' := by
  obtain ⟨n1, n2⟩ := n
  have q0 : Nw w (w.alloc (.cells #[I64 n1, I64 n2] 90)) := (Fr.refl _ w).alloc _
  have hB := Blk.new w 90 #[I64 n1, I64 n2]
  obtain ⟨G, hG⟩ : ∃ G, G = w.heap.size := ⟨_, rfl⟩
  obtain ⟨W, hW⟩ : ∃ W, W = w.alloc (.cells #[I64 n1, I64 n2] 90) := ⟨_, rfl⟩
  have hbW := hb.fr q0 (fun h => h)
  have hMW := hM.fr q0 (fun h => h)
  rw [← hW, ← hG] at hB
  rw [← hW] at q0 hbW hMW
  have HG := Lib.hid hG
  have HW := Lib.hid hW
  clear hG hW
  go_enter Tryz.func62, Tryz.ntmps62
  go_upto_region 1 with (fail)
  rw [← HW.out, ← HG.out]
  go_wp2_with (go_at_call 49; refine (netKnown_yes _ g m hbW).mono ?_; rintro e w' ⟨rfl, rfl⟩)
  have k0 : W.cell? ⟨G, 0, none⟩ = some (I64 n1) := by simpa using hB.cell 0
  have k1 : W.cell? ⟨G, 1, none⟩ = some (I64 n2) := by simpa using hB.cell 1
  have g0 : W.cell? ⟨g, 0, none⟩ = some (.map (some m)) := by simpa using hbW.cell 0
  have hrun : ∀ j, (Instr.lookup 54 (.map (some m)) (.agg #[I64 n1, I64 n2]) false).run Tryz.prog (W.drewN j) = .ok ((f (n1, n2)).getD nilLets) (W.drewN j) := fun j =>
    (hMW.fr ((Fr.refl (fun _ => False) W).drewN j) (fun h => h)).look1 no_way Tryz.underlying54 (zero_lets _) (n1, n2) hn
  obtain ⟨v, hv⟩ : ∃ v, v = (f (n1, n2)).getD nilLets := ⟨_, rfl⟩
  rw [← hv] at hrun
  have HV := Lib.hid hv
  clear hv
  go_quiet (fail)
  go_wp2
  go_ret
  exact ⟨by rw [← HV.out]; rfl, q0.drewN _⟩
/-- What a link set makes of a map. -/
def setW (f : Nm → Option Value) (n : Nm) (v : Option Value) : Nm → Option Value := fun x => if x = n then v else f x
set_option maxRecDepth 100000 in
set_option maxHeartbeats 4000000 in
theorem netSet_drop (w : World) (m s : Nat) (f : Nm → Option Value) (hM : WayMap w m s f) (n : Nm) (hn : NmWf n) (A : Option Addr) (c : Nat) :
    Calls Tryz.prog 50 #[.agg #[.map (some m)], nmKey n, .slice A 0 c] w fun e w' => e = .returned (.tuple #[]) ∧ WayMap w' m s (setW f n none) ∧ Fr (· = m) w w' := by
  obtain ⟨n1, n2⟩ := n
  obtain ⟨W, hW⟩ : ∃ W, W = (w.alloc (.cells #[.map (some m)] 56)).alloc (.cells #[I64 n1, I64 n2] 90) := ⟨_, rfl⟩
  have q0 : Nw w W := by rw [hW]; exact ((Fr.refl _ w).alloc _).alloc _
  have hB : Blk W (w.heap.size + 1) 90 #[I64 n1, I64 n2] := by rw [hW]; simpa using Blk.new (w.alloc (.cells #[.map (some m)] 56)) 90 #[I64 n1, I64 n2]
  have hL : Blk W w.heap.size 56 #[.map (some m)] := by rw [hW]; exact (Blk.new w 56 #[.map (some m)]).alloc _
  have hMW := hM.fr q0 (fun h => h)
  obtain ⟨G, hG⟩ : ∃ G, G = w.heap.size := ⟨_, rfl⟩
  rw [← hG] at hB hL
  have HG := Lib.hid hG
  have HW := Lib.hid hW
  clear hG hW
  have k0 : W.cell? ⟨G + 1, 0, none⟩ = some (I64 n1) := by simpa using hB.cell 0
  have k1 : W.cell? ⟨G + 1, 1, none⟩ = some (I64 n2) := by simpa using hB.cell 1
  have g0 : W.cell? ⟨G, 0, none⟩ = some (.map (some m)) := by simpa using hL.cell 0
  go_enter Tryz.func50, Tryz.ntmps50
  go_upto_region 1 with (fail)
  rw [← HW.out, ← HG.out]
  go_wp2_with (at_delete; refine wl_dropW rfl _ _ 54 90 rfl 28 no_way Tryz.underlying54 m s f rfl hMW (n1, n2) hn rfl ?_; intro w2 hM2 hf2)
  refine bodyPost_ret (results_none rfl _ _ _) rfl ?_
  exact ⟨rfl, hM2, q0.on.tr hf2⟩
set_option maxRecDepth 100000 in
set_option maxHeartbeats 4000000 in
theorem netSet_put (w : World) (m s : Nat) (f : Nm → Option Value) (hM : WayMap w m s f) (hs : s < maxLen) (n : Nm) (hn : NmWf n) (A : Option Addr) (l c : Nat) (hl : 0 < l) :
    Calls Tryz.prog 50 #[.agg #[.map (some m)], nmKey n, .slice A l c] w fun e w' => e = .returned (.tuple #[]) ∧ WayMap w' m (s + 1) (setW f n (some (.slice A l c))) ∧ Fr (· = m) w w' := by
  obtain ⟨n1, n2⟩ := n
  obtain ⟨W, hW⟩ : ∃ W, W = (w.alloc (.cells #[.map (some m)] 56)).alloc (.cells #[I64 n1, I64 n2] 90) := ⟨_, rfl⟩
  have q0 : Nw w W := by rw [hW]; exact ((Fr.refl _ w).alloc _).alloc _
  have hB : Blk W (w.heap.size + 1) 90 #[I64 n1, I64 n2] := by rw [hW]; simpa using Blk.new (w.alloc (.cells #[.map (some m)] 56)) 90 #[I64 n1, I64 n2]
  have hL : Blk W w.heap.size 56 #[.map (some m)] := by rw [hW]; exact (Blk.new w 56 #[.map (some m)]).alloc _
  have hMW := hM.fr q0 (fun h => h)
  obtain ⟨G, hG⟩ : ∃ G, G = w.heap.size := ⟨_, rfl⟩
  rw [← hG] at hB hL
  have HG := Lib.hid hG
  have HW := Lib.hid hW
  clear hG hW
  have k0 : W.cell? ⟨G + 1, 0, none⟩ = some (I64 n1) := by simpa using hB.cell 0
  have k1 : W.cell? ⟨G + 1, 1, none⟩ = some (I64 n2) := by simpa using hB.cell 1
  have g0 : W.cell? ⟨G, 0, none⟩ = some (.map (some m)) := by simpa using hL.cell 0
  have hl0 : decide ((l : Int) = 0) = false := by simp; omega
  go_enter Tryz.func50, Tryz.ntmps50
  go_upto_region 1 with (fail)
  rw [← HW.out, ← HG.out]
  go_wp2_with (at_mapUpdate; refine wl_putW rfl _ _ _ 54 rfl 90 28 no_way Tryz.underlying54 m s f rfl hMW hs (n1, n2) hn _ rfl rfl ?_; intro w2 hM2 hf2)
  refine bodyPost_end (results_none rfl _ _ _) rfl ?_
  exact ⟨rfl, hM2, q0.on.tr hf2⟩
end Go.Proofs.YtippdjaakcgeoaaGreat

namespace Go.Proofs.YtippdjaakcgeoaaGreat
open Go Go.RowKit

section
variable {w w' wr wo wx w1 : World} {E : TypeId} {z m : Nat} {A : Nat → Option Addr} {N cp : Nat → Nat} {f : Nat → List Value}
/-- Lists of one kind, each the call's own. -/
def RowsC (w : World) (E : TypeId) (z m : Nat) (A : Nat → Option Addr) (N cp : Nat → Nat) (f : Nat → List Value) : Prop := ∀ k, k < m → OwnC w E z (A k) (N k) (cp k) (f k)
/-- No two lie in one block. -/
def FarC (m : Nat) (A : Nat → Option Addr) (cp : Nat → Nat) : Prop := ∀ i j, i < m → j < m → i ≠ j → ∀ b, inA (hom (A i) (cp i)) b → ¬ inA (hom (A j) (cp j)) b
def InC (m : Nat) (A : Nat → Option Addr) (cp : Nat → Nat) (b : Nat) : Prop := ∃ k, k < m ∧ inA (hom (A k) (cp k)) b
theorem RowsC.fr {S : Nat → Prop} (h : RowsC w E z m A N cp f) (hf : Fr S w w') (hn : ∀ k, k < m → ∀ b, inA (hom (A k) (cp k)) b → ¬ S b) : RowsC w' E z m A N cp f := fun k hk => (h k hk).fr hf (hn k hk)
theorem RowsC.nw (h : RowsC w E z m A N cp f) (hf : Nw w w') : RowsC w' E z m A N cp f := h.fr hf (fun _ _ _ _ h => h)
theorem RowsC.congr {g : Nat → List Value} (h : RowsC w E z m A N cp f) (hg : ∀ k, k < m → f k = g k) : RowsC w E z m A N cp g := fun k hk => by rw [← hg k hk]; exact h k hk
theorem RowsC.inlt (h : RowsC w E z m A N cp f) {b : Nat} (hb : InC m A cp b) : b < w.heap.size := by
  obtain ⟨k, hk, hb⟩ := hb
  exact (h k hk).lt b hb
def updL (f : Nat → List Value) (k : Nat) (g : List Value) : Nat → List Value := fun j => if j = k then g else f j
theorem updL_same (f : Nat → List Value) (k : Nat) (g : List Value) : updL f k g k = g := by simp [updL]
theorem updL_ne (f : Nat → List Value) {k j : Nat} (g : List Value) (h : j ≠ k) : updL f k g j = f j := by simp [updL, h]
theorem RowsC.step (h : RowsC w E z m A N cp f) (hfar : FarC m A cp) {k : Nat} (hk : k < m) {g : List Value} (hf : Fr (inA (hom (A k) (cp k))) w w') (ho : OwnC w' E z (A k) (N k) (cp k) g) : RowsC w' E z m A N cp (updL f k g) := by
  intro j hj
  by_cases e : j = k
  · subst e; rw [updL_same]; exact ho
  · rw [updL_ne f g e]
    exact (h j hj).fr hf (fun b hb hb2 => hfar j k hj hk e b hb hb2)
theorem RowsC.same (h : RowsC w E z m A N cp f) (hfar : FarC m A cp) {k : Nat} (hk : k < m) (hf : Fr (inA (hom (A k) (cp k))) w w') (ho : OwnC w' E z (A k) (N k) (cp k) (f k)) : RowsC w' E z m A N cp f := by
  intro j hj
  by_cases e : j = k
  · subst e; exact ho
  · exact (h j hj).fr hf (fun b hb hb2 => hfar j k hj hk e b hb hb2)
theorem InC.fr {k : Nat} (hk : k < m) (hf : Fr (inA (hom (A k) (cp k))) w w') : Fr (InC m A cp) w w' := hf.mono fun _ hb => .inl ⟨k, hk, hb⟩

/-- How the lists' headers stand in a list. -/
abbrev hdr (A : Nat → Option Addr) (N cp : Nat → Nat) (k : Nat) : Value := .slice (A k) (N k) (cp k)
def hdrs (m : Nat) (A : Nat → Option Addr) (N cp : Nat → Nat) : List Value := (List.range m).map (hdr A N cp)
theorem hdrs_len : (hdrs m A N cp).length = m := by simp [hdrs]
theorem hdrs_at {k : Nat} (h : k < m) : (hdrs m A N cp)[k]? = some (hdr A N cp k) := by simp [hdrs, h]
theorem Sl.hdr {F : Nat → Prop} {B : Option Addr} (h : Sl w F B (hdrs m A N cp)) {k : Nat} (hk : k < m) : ∃ b o, B = some ⟨b, o, none⟩ ∧ F b ∧ w.cell? ⟨b, o + k, none⟩ = some (.slice (A k) (N k) (cp k)) := by
  obtain ⟨b, o, hB, hF, _, hc⟩ := h.at_ (by intro e; have := congrArg List.length e; rw [hdrs_len] at this; simp at this; omega)
  exact ⟨b, o, hB, hF, hc k _ (hdrs_at hk)⟩

variable {mk : Nat → Nat → List Value}
/-- Stage one: the first k lists bear their marks, and i places of the next one. -/
def Fl1 (mk : Nat → Nat → List Value) (E : TypeId) (z : Nat) (w : World) (m : Nat) (A : Nat → Option Addr) (N cp : Nat → Nat) (k : Nat) (wr : World) : Prop :=
  ∃ f, RowsC wr E z m A N cp f ∧ (∀ j, j < k → f j = mksL mk j (N j)) ∧ Fr (InC m A cp) w wr
def Fl1o (mk : Nat → Nat → List Value) (E : TypeId) (z : Nat) (w : World) (m : Nat) (A : Nat → Option Addr) (N cp : Nat → Nat) (i : Value) (wr : World) : Prop := ∃ k : Nat, k ≤ m ∧ i = .int .i64 k ∧ Fl1 mk E z w m A N cp k wr
def Fl1i (mk : Nat → Nat → List Value) (E : TypeId) (z : Nat) (w : World) (m : Nat) (A : Nat → Option Addr) (N cp : Nat → Nat) (k : Nat) (i : Value) (wr : World) : Prop :=
  ∃ (j : Nat) (f : Nat → List Value), j ≤ N k ∧ i = .int .i64 j ∧ RowsC wr E z m A N cp f ∧ (∀ j, j < k → f j = mksL mk j (N j)) ∧ (f k).take (j * z) = mksL mk k j ∧ Fr (InC m A cp) w wr
theorem putL_next (hmk : ∀ k i, (mk k i).length = z) {l : List Value} {k j n : Nat} (hl : l.length = n * z) (hj : j < n) (ht : l.take (j * z) = mksL mk k j) : (putL l (j * z) (mk k j)).take ((j + 1) * z) = mksL mk k (j + 1) := by
  have h1 := Nat.mul_le_mul_right z (show j + 1 ≤ n from hj)
  rw [Nat.succ_mul] at h1 ⊢
  rw [putL_at _ _ _ (by rw [hmk]; omega), ht, mksL_succ, ← List.append_assoc]
  rw [List.take_left' (by rw [List.length_append, mksL_len hmk, hmk])]
theorem Fl1i.next (hmk : ∀ k i, (mk k i).length = z) {k j : Nat} (hfar : FarC m A cp) (hk : k < m) (hj : j < N k) (hr : RowsC wr E z m A N cp f) (hb : ∀ j, j < k → f j = mksL mk j (N j)) (ht : (f k).take (j * z) = mksL mk k j) (hf : Fr (InC m A cp) w wr)
    {g : Nat} (hA : A k = some ⟨g, 0, none⟩) (hw : w' = wr.setCells g (j * z) (mk k j)) : Fl1i mk E z w m A N cp k (.int .i64 ((j : Int) + 1)) w' := by
  subst hw
  have ho := hr k hk
  have hcp : 0 < cp k := by have := ho.cap_le.1; omega
  have hh : hom (A k) (cp k) = some ⟨g, 0, none⟩ := by rw [hom_pos _ hcp, hA]
  obtain ⟨g', e1, _, o1⟩ := ho.at_ hcp
  rw [hA] at e1
  injection e1 with e1
  injection e1 with e1
  subst e1
  have hs := o1.storeL (j * z) (mk k j)
  have hf1 : Fr (inA (hom (A k) (cp k))) wr (wr.setCells g (j * z) (mk k j)) := by
    rw [hh]
    exact (Fr.setCells (Fr.refl (· = g) wr) _ _).mono fun b hb => .inl ((inA_some _ _).2 hb)
  rw [← hA] at hs
  refine ⟨j + 1, updL f k (putL (f k) (j * z) (mk k j)), hj, by go_num, hr.step hfar hk hf1 hs.c, fun i hi => ?_, ?_, hf.tr (InC.fr hk hf1)⟩
  · rw [updL_ne _ _ (by omega)]; exact hb i hi
  · rw [updL_same]
    exact putL_next hmk ho.len hj ht

/-- The first k lists have grown, to these; what was handed in bears its marks still. -/
def FlG (mk : Nat → Nat → List Value) (E EE : TypeId) (z : Nat) (w : World) (m : Nat) (A : Nat → Option Addr) (N cp : Nat → Nat) (gg : Nat) (con : Nat → List Value) (k : Nat) (wr : World) : Prop :=
  ∃ (cells : List Value) (GA : Nat → Option Addr) (Gc : Nat → Nat), Own wr EE 1 (some ⟨gg, 0, none⟩) m m cells ∧ (∀ j, j < k → cells[j]? = some (.slice (GA j) (N j + 64) (Gc j))) ∧
    (∀ j, j < k → OwnC wr E z (GA j) (N j + 64) (Gc j) (con j)) ∧ (∀ j, j < k → ∀ b, inA (GA j) b → inA (hom (A j) (cp j)) b ∨ w.heap.size ≤ b) ∧ RowsC wr E z m A N cp (fun j => mksL mk j (N j)) ∧ Fr (InC m A cp) w wr
def FlGo (mk : Nat → Nat → List Value) (E EE : TypeId) (z : Nat) (w : World) (m : Nat) (A : Nat → Option Addr) (N cp : Nat → Nat) (gg : Nat) (con : Nat → List Value) (i : Value) (wr : World) : Prop := ∃ k : Nat, k ≤ m ∧ i = .int .i64 k ∧ FlG mk E EE z w m A N cp gg con k wr
/-- The k-th has grown. -/
def FlX (mk : Nat → Nat → List Value) (E : TypeId) (z : Nat) (A : Nat → Option Addr) (N cp : Nat → Nat) (k : Nat) (wo : World) (con : List Value) (X : Option Addr) (n c : Nat) (wx : World) : Prop :=
  Fr (inA (hom (A k) (cp k))) wo wx ∧ OwnC wx E z X n c con ∧ ((X = A k ∧ c = cp k) ∨ ∀ b, inA X b → wo.heap.size ≤ b) ∧ OwnC wx E z (A k) (N k) (cp k) (mksL mk k (N k))
def FlXi (mk : Nat → Nat → List Value) (E : TypeId) (z : Nat) (A : Nat → Option Addr) (N cp : Nat → Nat) (k : Nat) (wo : World) (v i : Value) (wx : World) : Prop :=
  ∃ (j : Nat) (X : Option Addr) (c : Nat), j ≤ 64 ∧ i = .int .i64 j ∧ v = .slice X (N k + j) c ∧ FlX mk E z A N cp k wo (mksL mk k (N k + j)) X (N k + j) c wx
variable {EE : TypeId} {gg k : Nat} {con : Nat → List Value}
theorem FlG.next (hEE : EE ≠ E) (hn64 : 0 < 64) (h : FlG mk E EE z w m A N cp gg con k wo) (hgg : w.heap.size ≤ gg) (hr : RowsC w E z m A N cp f) (hfar : FarC m A cp) (hk : k < m) {X : Option Addr} {c : Nat} (hx : FlX mk E z A N cp k wo (con k) X (N k + 64) c wx) (hw : w' = wx.setCell ⟨gg, k, none⟩ (.slice X (N k + 64) c)) : FlG mk E EE z w m A N cp gg con (k + 1) w' := by
  subst hw
  obtain ⟨cells, GA, Gc, ho, hc, hG, hb, hrow, hf⟩ := h
  obtain ⟨hf2, hX, hXb, hk2⟩ := hx
  have hcX : 0 < c := by have := hX.cap_le.1; omega
  obtain ⟨gX, hXA, hhX, oX⟩ := hX.at_ hcX
  have hok := hrow k hk
  obtain ⟨cur0, hbg, _⟩ := ho.blk
  have hgk : ¬ inA (hom (A k) (cp k)) gg := fun h => hok.offB hbg hEE h
  have ho2 := ho.fr hf2 (fun j hj => by rw [(inA_some _ _).1 hj]; exact hgk)
  obtain ⟨cur2, hbg2, _⟩ := ho2.blk
  have hst := ho2.store k (.slice X (N k + 64) c)
  have hs1 : Fr (· = gg) wx (wx.setCell ⟨gg, k, none⟩ (.slice X (N k + 64) c)) := (Fr.refl (· = gg) wx).setCell (p := ⟨gg, k, none⟩) (.inl rfl) _
  have keep : ∀ {A' : Option Addr} {n' c' : Nat} {cs' : List Value}, OwnC wx E z A' n' c' cs' → OwnC (wx.setCell ⟨gg, k, none⟩ (.slice X (N k + 64) c)) E z A' n' c' cs' := fun h1 =>
    h1.fr hs1 (fun b hb hb2 => by rw [hb2] at hb; exact h1.offB hbg2 hEE hb)
  refine ⟨_, fun j => if j = k then X else GA j, fun j => if j = k then c else Gc j, hst, fun j hj => ?_, fun j hj => ?_, fun j hj b hbb => ?_, ?_, (hf.tr (InC.fr hk hf2)).setCell (p := ⟨gg, k, none⟩) (.inr hgg) _⟩
  · by_cases e : j = k
    · subst e
      simp only [if_true]
      have hcl := ho2.1
      rw [List.getElem?_set_self (by omega)]
    · simp only [if_neg e]
      rw [List.getElem?_set_ne (fun h => e h.symm)]
      exact hc j (by omega)
  · by_cases e : j = k
    · subst e
      simp only [if_true]
      exact keep hX
    · simp only [if_neg e]
      refine keep ((hG j (by omega)).fr hf2 (fun b hb1 hb2 => ?_))
      rcases hb j (by omega) b (hom_in hb1).1 with h | h
      · exact hfar j k (by omega) hk e b h hb2
      · have := hr.inlt ⟨k, hk, hb2⟩; omega
  · by_cases e : j = k
    · subst e
      simp only [if_true] at hbb
      rcases hXb with ⟨rfl, hcc⟩ | h
      · refine .inl ?_
        rw [← hcc, hom_pos _ hcX]
        exact hbb
      · exact .inr (Nat.le_trans hf.size (h b hbb))
    · simp only [if_neg e] at hbb
      exact hb j (by omega) b hbb
  · have h1 := hrow.same hfar hk hf2 hk2
    exact fun j hj => keep (h1 j hj)
theorem FlG.rows (h : FlG mk E EE z w m A N cp gg con k wo) : RowsC wo E z m A N cp (fun j => mksL mk j (N j)) := by obtain ⟨_, _, _, _, _, _, _, h, _⟩ := h; exact h
theorem FlG.fr (h : FlG mk E EE z w m A N cp gg con k wo) : Fr (InC m A cp) w wo := by obtain ⟨_, _, _, _, _, _, _, _, h⟩ := h; exact h
theorem FlG.own (h : FlG mk E EE z w m A N cp gg con k wo) : ∃ cells, Own wo EE 1 (some ⟨gg, 0, none⟩) m m cells := by obtain ⟨c, _, _, h, _⟩ := h; exact ⟨c, h⟩
theorem FlX.next {con x : List Value} {X A' : Option Addr} {n c cap' q : Nat} (h : FlX mk E z A N cp k wo con X n c wx) (q1 : Nw wx w1) (hq : 0 < q) (hcn : con.length = n * z) (hNn : N k ≤ n) (hpre : con.take (N k * z) = mksL mk k (N k)) (hlt : ∀ b, inA (hom (A k) (cp k)) b → b < wo.heap.size)
    (hap : AppC w1 E z X n c q con x A' cap' w') : FlX mk E z A N cp k wo (con ++ x) A' (n + q) cap' w' := by
  obtain ⟨hf, ho, hXb, hk2⟩ := h
  obtain ⟨ho2, hcase⟩ := hap
  have hsz := hf.size
  refine ⟨?_, ho2.c, ?_, ?_⟩
  · rcases hcase with ⟨_, rfl, _, hf2⟩ | ⟨_, _, hf2⟩
    · rcases hXb with ⟨rfl, rfl⟩ | h
      · exact (hf.tr (Nw.on q1)).tr hf2
      · exact (hf.tr (Nw.on q1)).trans hf2 (fun b hb => .inr (h b (hom_in hb).1))
    · exact (hf.tr (Nw.on q1)).tr (Nw.on hf2)
  · rcases hcase with ⟨_, rfl, rfl, _⟩ | ⟨_, rfl, _⟩
    · exact hXb
    · refine .inr fun b hb => ?_
      rw [(inA_some _ _).1 hb]
      exact Nat.le_trans hsz q1.size
  · have hk3 := hk2.nw q1
    rcases hcase with ⟨hcp, rfl, rfl, hf2⟩ | ⟨_, rfl, hf2⟩
    · rcases hXb with ⟨rfl, rfl⟩ | h
      · have hne : A k ≠ none := by
          intro he
          rcases ho2.2 with ⟨_, h, _⟩ | ⟨g, cur, h, _⟩
          · omega
          · rw [he] at h; cases h
        have h3 := ho2.pre (k := N k) (by omega) hne
        have h4 := Nat.mul_le_mul_right z hNn
        rw [List.take_append_of_le_length (by omega), hpre] at h3
        exact h3.c
      · exact hk3.fr hf2 (fun b hb hb2 => by have := h b (hom_in hb2).1; have := hlt b hb; omega)
    · exact hk3.nw hf2
end

theorem Own.cellEx {w : World} {E : TypeId} {g n c k z : Nat} {cs : List Value} (h : Own w E z (some ⟨g, 0, none⟩) n c cs) (hk : k < n * z) : ∃ u, w.cell? ⟨g, k, none⟩ = some u := by
  have hl := h.1
  exact ⟨_, (h.cellAt hk).trans (List.getElem?_eq_getElem (by omega))⟩
/-- What is to be appended, as far as it is filled. -/
def ManyL (mk : Nat → Nat → List Value) (E : TypeId) (z : Nat) (kk : Nat) (g : Nat) (wy : World) (i : Value) (wx : World) : Prop :=
  ∃ (j : Nat) (cs : List Value), j ≤ 64 ∧ i = .int .i64 j ∧ Own wx E z (some ⟨g, 0, none⟩) 64 64 cs ∧ cs.take (j * z) = mksL mk kk j ∧ Fr (· = g) wy wx
theorem ManyL.next {mk : Nat → Nat → List Value} {E : TypeId} {z kk g j : Nat} {wy wx w' : World} {cs : List Value} (hmk : ∀ k i, (mk k i).length = z) (ho : Own wx E z (some ⟨g, 0, none⟩) 64 64 cs) (ht : cs.take (j * z) = mksL mk kk j) (hf : Fr (· = g) wy wx) (hj : j < 64) (hw : w' = wx.setCells g (j * z) (mk kk j)) : ManyL mk E z kk g wy (.int .i64 ((j : Int) + 1)) w' := by
  subst hw
  exact ⟨j + 1, _, hj, by go_num, ho.storeL (j * z) (mk kk j), putL_next hmk ho.1 hj ht, hf.setCells _ _⟩
/-- What has grown, by the first sort of growth, and by the second. -/
def conA (mk : Nat → Nat → List Value) (N : Nat → Nat) (j : Nat) : List Value := mksL mk j (N j + 64)
def conB (mk : Nat → Nat → List Value) (m : Nat) (N : Nat → Nat) (j : Nat) : List Value := mksL mk j (N j) ++ mksL mk (j + m) 64
theorem conB_at {mk : Nat → Nat → List Value} {z : Nat} (hmk : ∀ k i, (mk k i).length = z) (m : Nat) (N : Nat → Nat) (j i p : Nat) (h : i < N j) (hp : p < z) : (conB mk m N j)[i * z + p]? = (mk j i)[p]? := by
  unfold conB
  have h2 := Nat.mul_le_mul_right z (show i + 1 ≤ N j from h)
  rw [Nat.succ_mul] at h2
  rw [List.getElem?_append_left (by rw [mksL_len hmk]; omega)]
  exact mksL_at hmk _ _ _ _ h hp
/-- The header of a grown list, and its cells. -/
theorem FlG.cells {mk : Nat → Nat → List Value} {E EE : TypeId} {z : Nat} {w wr : World} {m : Nat} {A : Nat → Option Addr} {N cp : Nat → Nat} {gg : Nat} {con : Nat → List Value} (h : FlG mk E EE z w m A N cp gg con m wr) {k : Nat} (hk : k < m) :
    ∃ (X : Option Addr) (c : Nat), wr.cell? ⟨gg, k, none⟩ = some (.slice X (N k + 64) c) ∧ ∀ i x, (con k)[i]? = some x → ∃ g, X = some ⟨g, 0, none⟩ ∧ wr.cell? ⟨g, i, none⟩ = some x := by
  obtain ⟨cells, GA, Gc, ho, hc, hG, hb, hrow, hf⟩ := h
  refine ⟨GA k, Gc k, (ho.cellAt (k := k) (by omega)).trans (hc k hk), fun i x hx => ?_⟩
  have h1 := hG k hk
  obtain ⟨g, hg, _, o1⟩ := h1.at_ (by have := h1.cap_le.1; omega)
  refine ⟨g, hg, ?_⟩
  have hi : i < (con k).length := by
    rcases Nat.lt_or_ge i (con k).length with h | h
    · exact h
    · rw [List.getElem?_eq_none h] at hx; cases hx
  rw [o1.cellAt (by have := h1.len; omega)]
  exact hx
/-- A cell of a list that bears its marks. -/
theorem RowsC.cell {mk : Nat → Nat → List Value} {E : TypeId} {z : Nat} {w : World} {m : Nat} {A : Nat → Option Addr} {N cp : Nat → Nat} (hmk : ∀ k i, (mk k i).length = z) (h : RowsC w E z m A N cp (fun j => mksL mk j (N j))) {k i : Nat} (hk : k < m) (hi : i < N k) :
    ∃ g, A k = some ⟨g, 0, none⟩ ∧ ∀ p u, (mk k i)[p]? = some u → w.cell? ⟨g, i * z + p, none⟩ = some u := by
  have h1 := h k hk
  obtain ⟨g, hg, _, o1⟩ := h1.at_ (by have := h1.cap_le.1; omega)
  refine ⟨g, hg, fun p u hu => ?_⟩
  have hp : p < z := by
    rcases Nat.lt_or_ge p (mk k i).length with h | h
    · rwa [hmk] at h
    · rw [List.getElem?_eq_none h] at hu; cases hu
  have h2 := Nat.mul_le_mul_right z (show i + 1 ≤ N k from hi)
  rw [Nat.succ_mul] at h2
  rw [o1.cellAt (by omega), mksL_at hmk _ _ _ _ hi hp]
  exact hu
def KnownNw (w : World) (n : Nat) (i : Value) (wx : World) : Prop := ∃ k : Nat, k ≤ n ∧ i = .int .i64 k ∧ Nw w wx
end Go.Proofs.YtippdjaakcgeoaaGreat

namespace Go.Proofs.YtippdjaakcgeoaaGreat
open Go Go.RowKit
set_option linter.unusedVariables false
set_option linter.unusedSimpArgs false
/-- Two lists that lie in no common block. -/
def LsFar {α : Type} (s t : Ls α) : Prop := ∀ k, inA s.a k → ¬ inA t.a k
/-- A list of the call's own, in blocks of F. -/
structure LsHd {α : Type} (w : World) (F : Nat → Prop) (E : TypeId) (z : Nat) (f : List α → List Value) (s : Ls α) : Prop where
  own : Own w E z s.a s.l.length s.c (f s.l)
  base : ∀ k, inA s.a k → F k
/-- Lists of the call's own, each apart from the others. -/
structure Held {α : Type} (w : World) (F : Nat → Prop) (E : TypeId) (z : Nat) (f : List α → List Value) (ss : List (Ls α)) : Prop where
  each : ∀ s ∈ ss, LsHd w F E z f s
  far : ss.Pairwise LsFar
section
variable {α : Type} {w w' w0 : World} {F G H S : Nat → Prop} {E : TypeId} {z : Nat} {f : List α → List Value} {s : Ls α} {ss tt : List (Ls α)}
theorem LsHd.fr (h : LsHd w F E z f s) (hf : Fr S w w') (hn : ∀ k, F k → ¬ S k) : LsHd w' F E z f s := ⟨h.own.fr hf (fun k hk => hn k (h.base k hk)), h.base⟩
theorem LsHd.mono (h : LsHd w F E z f s) (hF : ∀ k, F k → k < w.heap.size → G k) : LsHd w G E z f s := ⟨h.own, fun k hk => hF k (h.base k hk) (h.own.lt k hk)⟩
theorem Held.fr (h : Held w F E z f ss) (hf : Fr S w w') (hn : ∀ k, F k → ¬ S k) : Held w' F E z f ss := ⟨fun s hs => (h.each s hs).fr hf hn, h.far⟩
theorem Held.mono (h : Held w F E z f ss) (hF : ∀ k, F k → k < w.heap.size → G k) : Held w G E z f ss := ⟨fun s hs => (h.each s hs).mono hF, h.far⟩
theorem Held.nw (h : Held w F E z f ss) (hf : Nw w w') : Held w' F E z f ss := h.fr hf (fun _ _ h => h)
theorem Held.nil (w : World) (F : Nat → Prop) (E : TypeId) (z : Nat) (f : List α → List Value) : Held w F E z f [] := ⟨fun _ h => (by cases h), .nil⟩
theorem Held.one (h : LsHd w F E z f s) : Held w F E z f [s] := ⟨fun t ht => by rw [List.mem_singleton.1 ht]; exact h, List.pairwise_singleton _ _⟩
theorem Held.append (h : Held w F E z f ss) (h' : Held w G E z f tt) (hFG : ∀ k, F k → ¬ G k) (hF : ∀ k, F k → k < w.heap.size → H k) (hG : ∀ k, G k → k < w.heap.size → H k) : Held w H E z f (ss ++ tt) :=
  ⟨fun s hs => (List.mem_append.1 hs).elim (fun hs => (h.each s hs).mono hF) (fun hs => (h'.each s hs).mono hG),
    List.pairwise_append.2 ⟨h.far, h'.far, fun a ha b hb k h1 h2 => hFG k ((h.each a ha).base k h1) ((h'.each b hb).base k h2)⟩⟩
/-- The blocks of these lists. -/
def InH (ss : List (Ls α)) (k : Nat) : Prop := ∃ s ∈ ss, inA s.a k
theorem Held.inH (h : Held w F E z f ss) {k : Nat} (hk : InH ss k) : F k := by
  obtain ⟨s, hs, hk⟩ := hk
  exact (h.each s hs).base k hk
theorem Held.frH (h : Held w F E z f ss) (hf : Fr S w w') (hn : ∀ k, InH ss k → ¬ S k) : Held w' F E z f ss := ⟨fun s hs => ⟨(h.each s hs).own.fr hf (fun k hk => hn k ⟨s, hs, hk⟩), (h.each s hs).base⟩, h.far⟩
theorem LsOwn.hd (h : LsOwn w0 w E z f s) : LsHd w (Since w0) E z f s := ⟨h.own, h.base⟩
end
def cfgInts (c : CfgM) : List (Ls Int) := [c.v, c.o, c.l, c.w]
def entInts (e : EntM) : List (Ls Int) := cfgInts e.cfg
def letInts (y : LetM) : List (Ls Int) := y.ents.l.flatMap entInts ++ cfgInts y.base.cfg
def letByts (y : LetM) : List (Ls UInt8) := y.ents.l.map EntM.cmd ++ [y.bytes]
/-- Letters whose lists are their own, each apart from all others. -/
structure LetsHd (w : World) (F : Nat → Prop) (l : List LetM) : Prop where
  each : ∀ y ∈ l, LetIn w F y
  ints : Held w F 3 1 intsC (l.flatMap letInts)
  byts : Held w F 5 1 bytesC (l.flatMap letByts)
  ents : Held w F 87 7 entsC (l.map LetM.ents)
def LetHd (w : World) (F : Nat → Prop) (y : LetM) : Prop := LetsHd w F [y]
section
variable {w w' w0 : World} {F G H S : Nat → Prop}
theorem LetsHd.fr {l : List LetM} (h : LetsHd w F l) (hf : Fr S w w') (hn : ∀ k, F k → ¬ S k) : LetsHd w' F l := ⟨fun e he => (h.each e he).fr hf hn, h.ints.fr hf hn, h.byts.fr hf hn, h.ents.fr hf hn⟩
theorem LetsHd.mono {l : List LetM} (h : LetsHd w F l) (hF : ∀ k, F k → k < w.heap.size → G k) : LetsHd w G l := ⟨fun e he => (h.each e he).mono hF, h.ints.mono hF, h.byts.mono hF, h.ents.mono hF⟩
theorem LetsHd.nw {l : List LetM} (h : LetsHd w F l) (hf : Nw w w') : LetsHd w' F l := h.fr hf (fun _ _ h => h)
theorem LetsHd.nil (w : World) (F : Nat → Prop) : LetsHd w F [] := ⟨fun _ h => (by cases h), Held.nil _ _ _ _ _, Held.nil _ _ _ _ _, Held.nil _ _ _ _ _⟩
theorem LetsHd.append {l m : List LetM} (h : LetsHd w F l) (h' : LetsHd w G m) (hFG : ∀ k, F k → ¬ G k) (hF : ∀ k, F k → k < w.heap.size → H k) (hG : ∀ k, G k → k < w.heap.size → H k) : LetsHd w H (l ++ m) := by
  refine ⟨fun e he => ?_, ?_, ?_, ?_⟩
  · rcases List.mem_append.1 he with he | he
    · exact (h.each e he).mono hF
    · exact (h'.each e he).mono hG
  · rw [List.flatMap_append]; exact h.ints.append h'.ints hFG hF hG
  · rw [List.flatMap_append]; exact h.byts.append h'.byts hFG hF hG
  · rw [List.map_append]; exact h.ents.append h'.ents hFG hF hG
theorem LetHd.fr {y : LetM} (h : LetHd w F y) (hf : Fr S w w') (hn : ∀ k, F k → ¬ S k) : LetHd w' F y := LetsHd.fr h hf hn
theorem LetHd.mono {y : LetM} (h : LetHd w F y) (hF : ∀ k, F k → k < w.heap.size → G k) : LetHd w G y := LetsHd.mono h hF
theorem LetHd.nw {y : LetM} (h : LetHd w F y) (hf : Nw w w') : LetHd w' F y := LetsHd.nw h hf
theorem CfgOwn.hd {c : CfgM} (h : CfgOwn w0 w c) : Held w (Since w0) 3 1 intsC (cfgInts c) := by
  have far : ∀ {s t : Ls Int}, (∀ k j, inA s.a k → inA t.a j → k < j) → LsFar s t := fun h k h1 h2 => by have := h k k h1 h2; omega
  refine ⟨fun s hs => ?_, ?_⟩
  · simp only [cfgInts, List.mem_cons, List.not_mem_nil, or_false] at hs
    rcases hs with rfl | rfl | rfl | rfl
    · exact h.v.hd
    · exact h.o.hd
    · exact h.l.hd
    · exact h.w.hd
  · unfold cfgInts
    refine List.pairwise_cons.2 ⟨fun t ht => ?_, List.pairwise_cons.2 ⟨fun t ht => ?_, List.pairwise_cons.2 ⟨fun t ht => ?_, List.pairwise_singleton _ _⟩⟩⟩
    · simp only [List.mem_cons, List.not_mem_nil, or_false] at ht
      rcases ht with rfl | rfl | rfl
      · exact far h.vo
      · exact far h.vl
      · exact far h.vw
    · simp only [List.mem_cons, List.not_mem_nil, or_false] at ht
      rcases ht with rfl | rfl
      · exact far h.ol
      · exact far h.ow
    · rw [List.mem_singleton.1 ht]
      exact far h.lw
theorem has_ints {c : CfgM} {s : Ls Int} (hs : s ∈ cfgInts c) {k : Nat} (hk : inA s.a k) : CfgHas c k := by
  simp only [cfgInts, List.mem_cons, List.not_mem_nil, or_false] at hs
  rcases hs with rfl | rfl | rfl | rfl
  · exact .inl hk
  · exact .inr (.inl hk)
  · exact .inr (.inr (.inl hk))
  · exact .inr (.inr (.inr hk))
theorem flatMap_far {α β : Type} {g : α → List (Ls β)} {l : List α} {R : α → α → Prop} (h : l.Pairwise R) (h1 : ∀ e ∈ l, (g e).Pairwise LsFar) (h2 : ∀ e ∈ l, ∀ f ∈ l, R e f → ∀ s ∈ g e, ∀ t ∈ g f, LsFar s t) : (l.flatMap g).Pairwise LsFar := by
  induction l with
  | nil => exact .nil
  | cons a l ih =>
    rw [List.flatMap_cons]
    obtain ⟨ha, hl⟩ := List.pairwise_cons.1 h
    refine List.pairwise_append.2 ⟨h1 a List.mem_cons_self, ih hl (fun e he => h1 e (List.mem_cons_of_mem _ he)) (fun e he f hf => h2 e (List.mem_cons_of_mem _ he) f (List.mem_cons_of_mem _ hf)), fun s hs t ht => ?_⟩
    obtain ⟨f, hf, ht⟩ := List.mem_flatMap.1 ht
    exact h2 a List.mem_cons_self f (List.mem_cons_of_mem _ hf) (ha f hf) s hs t ht
theorem LetOwn.hd {y : LetM} (h : LetOwn w0 w y) : LetHd w (Since w0) y := by
  have e1 : [y].flatMap letInts = letInts y := by simp
  have e2 : [y].flatMap letByts = letByts y := by simp
  have hI : ∀ e ∈ y.ents.l, Held w (Since w0) 3 1 intsC (entInts e) := fun e he => (h.each e he).cfg.hd
  refine ⟨fun x hx => by rw [List.mem_singleton.1 hx]; exact h.in_, ?_, ?_, Held.one h.ents.hd⟩
  · rw [e1]
    refine ⟨fun s hs => ?_, ?_⟩
    · rcases List.mem_append.1 hs with hs | hs
      · obtain ⟨e, he, hs⟩ := List.mem_flatMap.1 hs
        exact (hI e he).each s hs
      · exact h.cfg.hd.each s hs
    · refine List.pairwise_append.2 ⟨flatMap_far h.sorted (fun e he => (hI e he).far) (fun e he f hf hef s hs t ht k h1 h2 => ?_), h.cfg.hd.far, fun s hs t ht k h1 h2 => ?_⟩
      · have := hef k k (.inr (has_ints hs h1)) (.inr (has_ints ht h2))
        omega
      · obtain ⟨e, he, hs⟩ := List.mem_flatMap.1 hs
        have := h.behind e he k k (.inr (has_ints hs h1)) (has_ints ht h2)
        omega
  · rw [e2]
    refine ⟨fun s hs => ?_, ?_⟩
    · rcases List.mem_append.1 hs with hs | hs
      · obtain ⟨e, he, rfl⟩ := List.mem_map.1 hs
        exact (h.each e he).cmd.hd
      · rw [List.mem_singleton.1 hs]
        exact h.bytes.hd
    · refine List.pairwise_append.2 ⟨List.pairwise_map.2 (h.sorted.imp fun hef k h1 h2 => ?_), List.pairwise_singleton _ _, fun s hs t ht k h1 h2 => ?_⟩
      · have := hef k k (.inl h1) (.inl h2)
        omega
      · obtain ⟨e, he, rfl⟩ := List.mem_map.1 hs
        rw [List.mem_singleton.1 ht] at h2
        have := h.ahead e he k k h2 (.inl h1)
        omega
end

/-- Lists of two kinds lie in no common block. -/
theorem Own.off2 {w : World} {E E' : TypeId} {z z' n n' c c' : Nat} {A A' : Option Addr} {cs cs' : List Value} (h : Own w E z A n c cs) (h' : Own w E' z' A' n' c' cs') (hne : E' ≠ E) : ∀ k, inA A' k → ¬ inA A k := by
  intro k hk hh
  rcases h'.2 with ⟨rfl, _⟩ | ⟨g, cur, rfl, hb, _⟩
  · exact inA_none _ hk
  · rw [(inA_some _ _).1 hk] at hh
    exact h.ne_ hb hne hh
theorem Held.off {α β : Type} {w : World} {F G : Nat → Prop} {E E' : TypeId} {z z' : Nat} {f : List α → List Value} {f' : List β → List Value} {ss : List (Ls α)} {tt : List (Ls β)} (h : Held w F E z f ss) (h' : Held w G E' z' f' tt) (hne : E' ≠ E) : ∀ k, InH tt k → ¬ InH ss k := by
  rintro k ⟨t, ht, h1⟩ ⟨s, hs, h2⟩
  exact (h.each s hs).own.off2 (h'.each t ht).own hne k h1 h2

/-! Lists as functions of their place. -/
section
variable {α : Type} {w w' : World} {F : Nat → Prop} {E : TypeId} {z : Nat} {f : List α → List Value}
def atA (ss : List (Ls α)) (k : Nat) : Option Addr := (ss.getD k lsZ).a
def atN (ss : List (Ls α)) (k : Nat) : Nat := (ss.getD k lsZ).l.length
def atC (ss : List (Ls α)) (k : Nat) : Nat := (ss.getD k lsZ).c
theorem hdrs_of (ss : List (Ls α)) : hdrs ss.length (atA ss) (atN ss) (atC ss) = ss.map Ls.v := by
  refine List.ext_getElem (by simp [hdrs]) fun i h1 h2 => ?_
  simp only [List.length_map] at h2
  simp [hdrs, hdr, atA, atN, atC, h2]
theorem Held.rows {ss : List (Ls α)} (h : Held w F E z f ss) : RowsC w E z ss.length (atA ss) (atN ss) (atC ss) (fun k => f (ss.getD k lsZ).l) := fun k hk => by
  have h1 := (h.each _ (List.getElem_mem hk)).own.c
  simpa [atA, atN, atC, List.getD, List.getElem?_eq_getElem hk] using h1
theorem Held.farC {ss : List (Ls α)} (h : Held w F E z f ss) : FarC ss.length (atA ss) (atC ss) := by
  intro i j hi hj hij b hb hb2
  have h1 := (hom_in hb).1
  have h2 := (hom_in hb2).1
  simp only [atA, List.getD, List.getElem?_eq_getElem hi, List.getElem?_eq_getElem hj, Option.getD_some] at h1 h2
  rcases Nat.lt_or_ge i j with hlt | hge
  · exact (List.pairwise_iff_getElem.1 h.far i j hi hj hlt) b h1 h2
  · exact (List.pairwise_iff_getElem.1 h.far j i hj hi (by omega)) b h2 h1
theorem inC_H {ss : List (Ls α)} {b : Nat} (hb : InC ss.length (atA ss) (atC ss) b) : InH ss b := by
  obtain ⟨k, hk, hb⟩ := hb
  have h1 := (hom_in hb).1
  simp only [atA, List.getD, List.getElem?_eq_getElem hk, Option.getD_some] at h1
  exact ⟨_, List.getElem_mem hk, h1⟩
end
end Go.Proofs.YtippdjaakcgeoaaGreat

namespace Go.Proofs.YtippdjaakcgeoaaGreat
open Go Go.RowKit
set_option linter.unusedVariables false
set_option linter.unusedSimpArgs false

def copiedR (w : World) (xs : List LetM) (v i : Value) (wr : World) : Prop :=
  ∃ (k : Nat) (ys : List LetM) (B : Option Addr) (c : Nat), k ≤ xs.length ∧ i = .int .i64 k ∧ v = .slice B k c ∧ ys.map LetM.x = (xs.take k).map LetM.x ∧ Own wr 50 20 B k c (letsC ys) ∧ LetsHd wr (fun k => Since w k ∧ ¬ inA B k) ys ∧ Nw w wr ∧ ∀ j, inA B j → w.heap.size ≤ j
set_option maxRecDepth 100000 in
set_option maxHeartbeats 4000000 in
theorem copied_any (w : World) (F : Nat → Prop) (A : Option Addr) (c : Nat) (xs : List LetM) (h : Sl w F A (letsC xs)) (e1 : ∀ e ∈ xs, LetIn w F e) (hz : ∀ e ∈ xs, LetSz e) (hsz : xs.length ≤ 100000000) :
    Calls Tryz.prog 51 #[.slice A xs.length c] w fun e w' => ∃ A' c' ys, e = .returned (.slice A' xs.length c') ∧ ys.map LetM.x = xs.map LetM.x ∧ Own w' 50 20 A' xs.length c' (letsC ys) ∧ LetsHd w' (fun k => Since w k ∧ ¬ inA A' k) ys ∧ Nw w w' ∧ ∀ k, inA A' k → w.heap.size ≤ k := by
  have HZ := Lib.hid hz
  have E1 := Lib.hid e1
  clear hz e1
  go_enter Tryz.func51, Tryz.ntmps51
  go_wp2_with fail
  go_loopw [3, 8] (fun v i wr => copiedR w xs v i wr) (fun _ i _ => xs.length - (intOf i).toNat)
  case atStart => exact ⟨0, [], none, 0, Nat.zero_le _, rfl, rfl, rfl, Own.nil _ _ _, LetsHd.nil _ _, Fr.refl _ _, fun k hk => (inA_none k hk).elim⟩
  case round =>
    obtain ⟨k, ys, B, c2, hk, rfl, rfl, ht, ho, hys, hq, hB⟩ := hrel
    have HT := Lib.hid ht
    clear ht
    by_cases hlt : k < xs.length
    · obtain ⟨b, o, rfl, _, _, hc⟩ := (h.fr hq (fun _ _ h => h)).let_ hlt
      have hi0 : (k : Int) < (xs.length : Int) := by omega
      have x1 := (E1.out _ (List.getElem_mem hlt)).nw hq
      have z1 := HZ.out _ (List.getElem_mem hlt)
      obtain ⟨x, hx⟩ : ∃ x, xs[k] = x := ⟨_, rfl⟩
      rw [hx] at x1 z1 hc
      have HX := Lib.hid hx
      have HYS := Lib.hid hys
      clear hx hys
      obtain ⟨G, hG⟩ : ∃ G, G = wr.heap.size := ⟨_, rfl⟩
      obtain ⟨V0, hV0⟩ : ∃ V, V = wr.alloc (.cells #[U8V 0, I64 0, I64 0, I64 0, I64 0, I64 0, I64 0, I64 0, .bool false, .slice none 0 0, I64 0, I64 0, .slice none 0 0, .slice none 0 0, .slice none 0 0, .slice none 0 0, I64 0, I64 0, I64 0, .slice none 0 0] 50) := ⟨_, rfl⟩
      have qv0 : Nw wr V0 := by rw [hV0]; exact (Fr.refl (fun _ => False) wr).alloc _
      have g0 : Blk V0 G 50 #[U8V 0, I64 0, I64 0, I64 0, I64 0, I64 0, I64 0, I64 0, .bool false, .slice none 0 0, I64 0, I64 0, .slice none 0 0, .slice none 0 0, .slice none 0 0, .slice none 0 0, I64 0, I64 0, I64 0, .slice none 0 0] := by rw [hV0, hG]; exact Blk.new _ _ _
      obtain ⟨V1, hV1⟩ : ∃ V, V = V0.setCells G 0 [U8V x.kind, I64 x.group, I64 x.src, I64 x.dst, I64 x.term, I64 x.index, I64 x.logt, I64 x.commit, .bool x.ok, .slice x.ents.a x.ents.l.length x.ents.c, I64 x.base.index, I64 x.base.term, .slice x.base.cfg.v.a x.base.cfg.v.l.length x.base.cfg.v.c, .slice x.base.cfg.o.a x.base.cfg.o.l.length x.base.cfg.o.c, .slice x.base.cfg.l.a x.base.cfg.l.l.length x.base.cfg.l.c, .slice x.base.cfg.w.a x.base.cfg.w.l.length x.base.cfg.w.c, I64 x.size, I64 x.at_, I64 x.tag, .slice x.bytes.a x.bytes.l.length x.bytes.c] := ⟨_, rfl⟩
      have g1 : Blk V1 G 50 #[U8V x.kind, I64 x.group, I64 x.src, I64 x.dst, I64 x.term, I64 x.index, I64 x.logt, I64 x.commit, .bool x.ok, .slice x.ents.a x.ents.l.length x.ents.c, I64 x.base.index, I64 x.base.term, .slice x.base.cfg.v.a x.base.cfg.v.l.length x.base.cfg.v.c, .slice x.base.cfg.o.a x.base.cfg.o.l.length x.base.cfg.o.c, .slice x.base.cfg.l.a x.base.cfg.l.l.length x.base.cfg.l.c, .slice x.base.cfg.w.a x.base.cfg.w.l.length x.base.cfg.w.c, I64 x.size, I64 x.at_, I64 x.tag, .slice x.bytes.a x.bytes.l.length x.bytes.c] := by rw [hV1]; exact Blk.setCells (l := [U8V 0, I64 0, I64 0, I64 0, I64 0, I64 0, I64 0, I64 0, .bool false, .slice none 0 0, I64 0, I64 0, .slice none 0 0, .slice none 0 0, .slice none 0 0, .slice none 0 0, I64 0, I64 0, I64 0, .slice none 0 0]) g0 0 [U8V x.kind, I64 x.group, I64 x.src, I64 x.dst, I64 x.term, I64 x.index, I64 x.logt, I64 x.commit, .bool x.ok, .slice x.ents.a x.ents.l.length x.ents.c, I64 x.base.index, I64 x.base.term, .slice x.base.cfg.v.a x.base.cfg.v.l.length x.base.cfg.v.c, .slice x.base.cfg.o.a x.base.cfg.o.l.length x.base.cfg.o.c, .slice x.base.cfg.l.a x.base.cfg.l.l.length x.base.cfg.l.c, .slice x.base.cfg.w.a x.base.cfg.w.l.length x.base.cfg.w.c, I64 x.size, I64 x.at_, I64 x.tag, .slice x.bytes.a x.bytes.l.length x.bytes.c]
      have m1 : Fr (· = G) V0 V1 := by rw [hV1]; exact (Fr.refl (· = G) _).setCells _ _
      have qv1 : Nw wr V1 := qv0.new m1 (fun b hb => by omega)
      have hth := Blk.there (l := [U8V 0, I64 0, I64 0, I64 0, I64 0, I64 0, I64 0, I64 0, .bool false, .slice none 0 0, I64 0, I64 0, .slice none 0 0, .slice none 0 0, .slice none 0 0, .slice none 0 0, I64 0, I64 0, I64 0, .slice none 0 0]) g0 0 20 (by show 0 + 20 ≤ 20; omega)
      have hone := letA_one x
      have HG := Lib.hid hG
      have HV0 := Lib.hid hV0
      have HV1 := Lib.hid hV1
      clear hG hV0 hV1 m1 g0 qv0
      go_upto_region 5 with (first | (refine wl_load_cells rfl 50 _ rfl b (o + k * 20) rfl _ _ hc Tryz.underlying50 rfl (by kernel_rfl) ?_) | (rw [← HG.out, ← HV0.out]; refine wpList_store_mid rfl 50 _ _ rfl G 0 #[U8V x.kind, I64 x.group, I64 x.src, I64 x.dst, I64 x.term, I64 x.index, I64 x.logt, I64 x.commit, .bool x.ok, .slice x.ents.a x.ents.l.length x.ents.c, I64 x.base.index, I64 x.base.term, .slice x.base.cfg.v.a x.base.cfg.v.l.length x.base.cfg.v.c, .slice x.base.cfg.o.a x.base.cfg.o.l.length x.base.cfg.o.c, .slice x.base.cfg.l.a x.base.cfg.l.l.length x.base.cfg.l.c, .slice x.base.cfg.w.a x.base.cfg.w.l.length x.base.cfg.w.c, I64 x.size, I64 x.at_, I64 x.tag, .slice x.bytes.a x.bytes.l.length x.bytes.c] rfl rfl hth (by kernel_rfl) hone ?_; rw [← HV1.out]))
      have hcp := lCopy_any V1 F x (x1.nw qv1) z1
      go_wp2_with (first | (refine wpList_load_row rfl 50 _ rfl G rfl 50 _ (0, 0) _ g1 Tryz.underlying50 rfl (by kernel_rfl) ?_) | (go_at_call 33; refine hcp.mono ?_; rintro e w1 ⟨y, rfl, ey, iy, q1⟩; obtain ⟨V2, hV2⟩ : ∃ V, V = w1.alloc (.cells #[U8V y.kind, I64 y.group, I64 y.src, I64 y.dst, I64 y.term, I64 y.index, I64 y.logt, I64 y.commit, .bool y.ok, .slice y.ents.a y.ents.l.length y.ents.c, I64 y.base.index, I64 y.base.term, .slice y.base.cfg.v.a y.base.cfg.v.l.length y.base.cfg.v.c, .slice y.base.cfg.o.a y.base.cfg.o.l.length y.base.cfg.o.c, .slice y.base.cfg.l.a y.base.cfg.l.l.length y.base.cfg.l.c, .slice y.base.cfg.w.a y.base.cfg.w.l.length y.base.cfg.w.c, I64 y.size, I64 y.at_, I64 y.tag, .slice y.bytes.a y.bytes.l.length y.bytes.c] 50) := ⟨_, rfl⟩; have sln := sl_new w1 50 [U8V y.kind, I64 y.group, I64 y.src, I64 y.dst, I64 y.term, I64 y.index, I64 y.logt, I64 y.commit, .bool y.ok, .slice y.ents.a y.ents.l.length y.ents.c, I64 y.base.index, I64 y.base.term, .slice y.base.cfg.v.a y.base.cfg.v.l.length y.base.cfg.v.c, .slice y.base.cfg.o.a y.base.cfg.o.l.length y.base.cfg.o.c, .slice y.base.cfg.l.a y.base.cfg.l.l.length y.base.cfg.l.c, .slice y.base.cfg.w.a y.base.cfg.w.l.length y.base.cfg.w.c, I64 y.size, I64 y.at_, I64 y.tag, .slice y.bytes.a y.bytes.l.length y.bytes.c] _ rfl; have qa : Nw w1 (w1.alloc (.cells #[U8V y.kind, I64 y.group, I64 y.src, I64 y.dst, I64 y.term, I64 y.index, I64 y.logt, I64 y.commit, .bool y.ok, .slice y.ents.a y.ents.l.length y.ents.c, I64 y.base.index, I64 y.base.term, .slice y.base.cfg.v.a y.base.cfg.v.l.length y.base.cfg.v.c, .slice y.base.cfg.o.a y.base.cfg.o.l.length y.base.cfg.o.c, .slice y.base.cfg.l.a y.base.cfg.l.l.length y.base.cfg.l.c, .slice y.base.cfg.w.a y.base.cfg.w.l.length y.base.cfg.w.c, I64 y.size, I64 y.at_, I64 y.tag, .slice y.bytes.a y.bytes.l.length y.bytes.c] 50)) := (Fr.refl (fun _ => False) w1).alloc _; have hoa := ((ho.fr qv1 (fun _ _ h => h)).fr q1 (fun _ _ h => h)).alloc (.cells #[U8V y.kind, I64 y.group, I64 y.src, I64 y.dst, I64 y.term, I64 y.index, I64 y.logt, I64 y.commit, .bool y.ok, .slice y.ents.a y.ents.l.length y.ents.c, I64 y.base.index, I64 y.base.term, .slice y.base.cfg.v.a y.base.cfg.v.l.length y.base.cfg.v.c, .slice y.base.cfg.o.a y.base.cfg.o.l.length y.base.cfg.o.c, .slice y.base.cfg.l.a y.base.cfg.l.l.length y.base.cfg.l.c, .slice y.base.cfg.w.a y.base.cfg.w.l.length y.base.cfg.w.c, I64 y.size, I64 y.at_, I64 y.tag, .slice y.bytes.a y.bytes.l.length y.bytes.c] 50); rw [← hV2] at sln qa hoa; have HV2 := Lib.hid hV2; have hcy := letL_cell y; have HEY := Lib.hid ey; clear hV2 ey) | (at_builtin; rw [← HV2.out]; refine wl_append2 rfl _ _ _ rfl 256 (.agg #[U8V 0, I64 0, I64 0, I64 0, I64 0, I64 0, I64 0, I64 0, .bool false, .slice none 0 0, I64 0, I64 0, .slice none 0 0, .slice none 0 0, .slice none 0 0, .slice none 0 0, I64 0, I64 0, I64 0, .slice none 0 0]) Tryz.underlying28 info_let rfl (by decide) rfl hoa rfl sln rfl hcy (by omega) (by unfold maxLen; omega) ?_; intro B' c' w2 hap))
      go_roundw
      case rel =>
        obtain ⟨o2, q2, n2⟩ := hap.newOwn (hq.tr (qv1.tr (q1.tr qa))) hB
        have hfr := hap.fr
        refine ⟨k + 1, ys ++ [y], B', c', by omega, by go_num, rfl, ?_, by rw [letsC_append, letsC_one]; exact o2, ?_, q2, n2⟩
        · rw [List.take_succ_eq_append_getElem hlt, List.map_append, List.map_append, HT.out, HX.out, List.map_singleton, List.map_singleton, HEY.out]
        · have hin : ∀ j, inA B' j → inA B j ∨ j = V2.heap.size := hap.inA_
          have hBl : ∀ j, inA B j → j < wr.heap.size := ho.lt
          have hs0 := qv1.size
          have hs1 := q1.size
          have hsa := qa.size
          have hw0 := hq.size
          have i1 := (((HYS.out.mono (G := fun k => (Since w k ∧ ¬ inA B k) ∧ k < wr.heap.size) (fun k hk hl => ⟨hk, hl⟩)).nw qv1).nw q1).nw qa
          have i2 := (iy.hd.nw qa).mono (G := fun k => Since V1 k ∧ k < V2.heap.size) (fun k hk hl => ⟨hk, hl⟩)
          have j1 := i1.fr hfr (fun k hk => hk.1.2)
          have j2 := i2.fr hfr (fun k hk hj => by have := hBl k hj; have := hk.1; unfold Since at this; omega)
          refine j1.append j2 (fun k hk hj => by have := hj.1; unfold Since at this; have := hk.2; omega) (fun k hk _ => ⟨hk.1.1, fun hj => ?_⟩) (fun k hk _ => ⟨by have := hk.1; unfold Since at this ⊢; omega, fun hj => ?_⟩)
          · rcases hin k hj with h | h
            · exact hk.1.2 h
            · have := hk.2; omega
          · rcases hin k hj with h | h
            · have := hBl k h; have := hk.1; unfold Since at this; omega
            · have := hk.2; omega
      case measure => simp [intOf]; omega
    · obtain rfl : xs.length = k := by omega
      go_wp2_with fail
      go_ret
      have hT := HT.out
      rw [List.take_of_length_le (Nat.le_refl _)] at hT
      exact ⟨B, c2, ys, rfl, hT, ho, hys, hq, hB⟩
end Go.Proofs.YtippdjaakcgeoaaGreat

namespace Go.Proofs.YtippdjaakcgeoaaGreat
open Go Go.RowKit
set_option linter.unusedVariables false
set_option linter.unusedSimpArgs false

/-- A net: where it lies, how much was put into its map, its links. -/
structure NetM where
  g : Nat
  m : Nat
  s : Nat
  f : Nm → Option (Ls LetM)
def NetM.p (Y : NetM) (n : Nm) : List LetF := ((Y.f n).map fun s => s.l.map LetM.x).getD []
structure LinkIn (w : World) (O I : Nat → Prop) (n : Nm) (s : Ls LetM) : Prop where
  own : OwnO w 50 20 s.a s.l.length s.c (letsC s.l)
  base : ∀ k, inA s.a k → O k
  some_ : 0 < s.l.length
  most : s.l.length ≤ 40
  each : ∀ x ∈ s.l, LetIn w I x
  sz : ∀ x ∈ s.l, LetSz x
  ok : ∀ x ∈ s.l, letOk x.x = true ∧ (x.src, x.dst) = n
/-- A net in blocks O, what its letters lead to in blocks I. -/
structure IsNet (w : World) (O I : Nat → Prop) (Y : NetM) : Prop where
  blk : Blk w Y.g 58 #[.map (some Y.m)]
  map : WayMap w Y.m Y.s (fun n => (Y.f n).map Ls.v)
  link : ∀ n s, Y.f n = some s → LinkIn w O I n s
  far : ∀ n n' s s', Y.f n = some s → Y.f n' = some s' → n ≠ n' → LsFar s s'
  og : O Y.g
  om : O Y.m
  dis : ∀ k, O k → ¬ I k
  ol : ∀ k, O k → k < w.heap.size
  il : ∀ k, I k → k < w.heap.size
section
variable {w w' : World} {O O' I I' S : Nat → Prop} {n : Nm} {s : Ls LetM} {Y : NetM}
theorem way_wf {x : LetF} (h : letOk x = true) : NmWf (x.src, x.dst) := by
  have h1 : (1 ≤ x.src ∧ x.src ≤ 5) ∧ (1 ≤ x.dst ∧ x.dst ≤ 5) := by
    unfold letOk at h
    simp only [Bool.and_eq_true, decide_eq_true_eq] at h
    exact h.2.2.1.2.2
  constructor
  · simp [Lit.wf, IntKind.min, IntKind.max, IntKind.signed, IntKind.bits]; omega
  · simp [Lit.wf, IntKind.min, IntKind.max, IntKind.signed, IntKind.bits]; omega
theorem LinkIn.fr (h : LinkIn w O I n s) (hf : Fr S w w') (hO : ∀ k, inA s.a k → ¬ S k) (hI : ∀ k, I k → ¬ S k) : LinkIn w' O I n s :=
  ⟨h.own.fr hf hO, h.base, h.some_, h.most, fun x hx => (h.each x hx).fr hf hI, h.sz, h.ok⟩
theorem LinkIn.mono (h : LinkIn w O I n s) (hO : ∀ k, O k → O' k) (hI : ∀ k, I k → I' k) : LinkIn w O' I' n s :=
  ⟨h.own, fun k hk => hO k (h.base k hk), h.some_, h.most, fun x hx => (h.each x hx).mono (fun k hk _ => hI k hk), h.sz, h.ok⟩
theorem LinkIn.wf (h : LinkIn w O I n s) : NmWf n := by
  have h1 := h.some_
  obtain ⟨x, hx⟩ : ∃ x, x ∈ s.l := ⟨_, List.getElem_mem h1⟩
  obtain ⟨h2, h3⟩ := h.ok x hx
  rw [← h3]
  exact way_wf h2
theorem IsNet.fr (h : IsNet w O I Y) (hf : Fr S w w') (hO : ∀ k, O k → ¬ S k) (hI : ∀ k, I k → ¬ S k) : IsNet w' O I Y :=
  ⟨h.blk.fr hf (hO _ h.og), h.map.fr hf (hO _ h.om), fun n s hs => (h.link n s hs).fr hf (fun k hk => hO k ((h.link n s hs).base k hk)) hI, h.far, h.og, h.om, h.dis, fun k hk => Nat.lt_of_lt_of_le (h.ol k hk) hf.size, fun k hk => Nat.lt_of_lt_of_le (h.il k hk) hf.size⟩
theorem IsNet.nw (h : IsNet w O I Y) (hf : Nw w w') : IsNet w' O I Y := h.fr hf (fun _ _ h => h) (fun _ _ h => h)
theorem LinkIn.off_map {m s' : Nat} {f : Nm → Option Value} (h : LinkIn w O I n s) (hM : WayMap w m s' f) : ∀ k, inA s.a k → k ≠ m := by
  intro k hk e
  subst e
  rcases h.own.2 with ⟨h1, _⟩ | ⟨g, o, cur, h1, hb, _⟩
  · rw [h1] at hk; exact inA_none _ hk
  · rw [h1] at hk
    exact hM.blk hb ((inA_some _ _).1 hk)
theorem IsNet.gm (h : IsNet w O I Y) : Y.g ≠ Y.m := fun e => h.map.blk h.blk e.symm
theorem NetM.p_some {Y : NetM} (h : Y.f n = some s) : Y.p n = s.l.map LetM.x := by unfold NetM.p; rw [h]; rfl
theorem NetM.p_none {Y : NetM} (h : Y.f n = none) : Y.p n = [] := by unfold NetM.p; rw [h]; rfl
def setF (f : Nm → Option (Ls LetM)) (n : Nm) (v : Option (Ls LetM)) : Nm → Option (Ls LetM) := fun x => if x = n then v else f x
theorem setF_map (f : Nm → Option (Ls LetM)) (n : Nm) (v : Option (Ls LetM)) : (fun x => (setF f n v x).map Ls.v) = setW (fun x => (f x).map Ls.v) n (v.map Ls.v) := by
  funext x
  unfold setF setW
  split <;> rfl
/-- What a net is behind a link set. -/
theorem IsNet.set {v : Option (Ls LetM)} {s' : Nat} (h : IsNet w O I Y) (hM : WayMap w' Y.m s' (setW (fun x => (Y.f x).map Ls.v) n (v.map Ls.v))) (hf : Fr S w w') (hSg : ¬ S Y.g)
    (hSl : ∀ n' t, n' ≠ n → Y.f n' = some t → ∀ k, inA t.a k → ¬ S k) (hSI : ∀ k, I k → ¬ S k) (hO : ∀ k, O k → O' k) (hI : ∀ k, I k → I' k) (hd : ∀ k, O' k → ¬ I' k) (hOl : ∀ k, O' k → k < w'.heap.size) (hIl : ∀ k, I' k → k < w'.heap.size)
    (hv : ∀ t, v = some t → LinkIn w' O' I' n t ∧ ∀ n' t', n' ≠ n → Y.f n' = some t' → LsFar t t') : IsNet w' O' I' { Y with s := s', f := setF Y.f n v } := by
  refine ⟨h.blk.fr hf hSg, ?_, fun n' t ht => ?_, fun n1 n2 t1 t2 h1 h2 hne => ?_, hO _ h.og, hO _ h.om, hd, hOl, hIl⟩
  · show WayMap w' Y.m s' (fun x => (setF Y.f n v x).map Ls.v)
    rw [setF_map]
    exact hM
  · simp only [setF] at ht
    split at ht
    · rename_i e
      subst e
      exact (hv t ht).1
    · rename_i e
      exact ((h.link n' t ht).fr hf (hSl n' t e ht) hSI).mono hO hI
  · simp only [setF] at h1 h2
    split at h1
    · rename_i e1
      split at h2
      · rename_i e2
        exact (hne (e1.trans e2.symm)).elim
      · rename_i e2
        exact (hv t1 h1).2 n2 t2 e2 h2
    · rename_i e1
      split at h2
      · rename_i e2
        have := (hv t2 h2).2 n1 t1 e1 h1
        exact fun k h3 h4 => this k h4 h3
      · exact h.far n1 n2 t1 t2 h1 h2 hne
end
set_option maxRecDepth 100000 in
set_option maxHeartbeats 4000000 in
/-- What waits on a link, in memory of its own. -/
theorem netWaiting_any (w : World) (O I : Nat → Prop) (Y : NetM) (h : IsNet w O I Y) (a b : Int) (hn : NmWf (a, b)) :
    Calls Tryz.prog 17 #[.pointer (some ⟨Y.g, 0, none⟩), I64 a, I64 b] w fun e w' => ∃ A c ys, e = .returned (.slice A ys.length c) ∧ ys.map LetM.x = Y.p (a, b) ∧ Own w' 50 20 A ys.length c (letsC ys) ∧ LetsHd w' (fun k => Since w k ∧ ¬ inA A k) ys ∧ Nw w w' ∧ ∀ k, inA A k → w.heap.size ≤ k := by
  have hw := netWaits_any w Y.g Y.m Y.s _ h.blk h.map (a, b) hn
  obtain ⟨A0, c0, xs, ev, ep, hs0, hi0, hz0, hl0⟩ : ∃ (A0 : Option Addr) (c0 : Nat) (xs : List LetM), ((Y.f (a, b)).map Ls.v).getD nilLets = .slice A0 xs.length c0 ∧ xs.map LetM.x = Y.p (a, b) ∧ Sl w O A0 (letsC xs) ∧ (∀ x ∈ xs, LetIn w I x) ∧ (∀ x ∈ xs, LetSz x) ∧ xs.length ≤ 40 := by
    cases hf : Y.f (a, b) with
    | none => exact ⟨none, 0, [], rfl, (NetM.p_none hf).symm, .inl rfl, (by intro x hx; cases hx), (by intro x hx; cases hx), Nat.zero_le _⟩
    | some s =>
      have hk := h.link _ s hf
      exact ⟨s.a, s.c, s.l, rfl, (NetM.p_some hf).symm, hk.own.sl.mono fun k hk' _ => hk.base k hk', hk.each, hk.sz, hk.most⟩
  have hw2 : Calls Tryz.prog 62 #[.pointer (some ⟨Y.g, 0, none⟩), .agg #[I64 a, I64 b]] w fun e w' => e = .returned (.slice A0 xs.length c0) ∧ Nw w w' := hw.mono fun e w' h => ⟨by rw [← ev]; exact h.1, h.2⟩
  have hc : ∀ w1, Nw w w1 → _ := fun w1 q => copied_any w1 (fun _ => True) A0 c0 xs ((hs0.mono (F' := fun _ => True) (fun _ _ _ => trivial)).fr q (fun _ _ h => h)) (fun x hx => ((hi0 x hx).mono (F' := fun _ => True) (fun _ _ _ => trivial)).nw q) hz0 (by omega)
  rw [← ep]
  have HL := Lib.hid hl0
  clear hw ev ep hs0 hi0 hz0 hl0
  go_enter Tryz.func17, Tryz.ntmps17
  go_wp2_with (first | (go_at_call 62; refine hw2.mono ?_; rintro e w1 ⟨rfl, q1⟩) | (go_at_call 51; refine (hc w1 q1).mono ?_; rintro e w2 ⟨A', c', ys, rfl, ey, ho, hh, q2, hb⟩))
  go_ret
  have e3 : ys.length = xs.length := by simpa using congrArg List.length ey
  refine ⟨A', c', ys, by rw [e3]; rfl, ey, by rw [e3]; exact ho, hh.mono (fun k hk _ => ⟨Nat.le_trans q1.size hk.1, hk.2⟩), q1.tr q2, fun k hk => Nat.le_trans q1.size (hb k hk)⟩
end Go.Proofs.YtippdjaakcgeoaaGreat
