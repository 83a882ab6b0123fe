/- A drawn region in which one call turns lists that were told ahead of it; 'ApartBytes' of a list written out. -/
import Derived.Test.YtkjnlhidnkbelaaGreatDoorGr8
import Derived.Test.YtkjnlhidnkbelaaGreatDoorApD
namespace Go.Proofs.YtkjnlhidnkbelaaGreatDoor
open Go Go.RowKit
set_option linter.unusedVariables false
set_option linter.unusedSimpArgs false
/-- Where a list of bytes lies, and what it holds. -/
structure Hd where
  A : Option Addr
  n : Nat
  c : Nat
  bs : List UInt8
instance : Inhabited Hd := ⟨⟨none, 0, 0, []⟩⟩
abbrev hdV (h : Hd) : Value := .slice h.A h.n h.c
theorem apart_list (w : World) (b : Nat) (l : List Hd) (hb : Blk w b 22 (l.map hdV).toArray) (ho : ∀ h ∈ l, Own w 5 1 h.A h.n h.c (h.bs.map B8))
    (hd : l.Pairwise (fun x y => ∀ k, inA x.A k → ¬ inA y.A k)) (hm : l.length ≤ 1000000000) (hN : ∀ h ∈ l, h.n ≤ 1000000000000) :
    Calls Tryz.prog 32 #[.slice (some ⟨b, 0, none⟩) l.length l.length] w fun e w' => e = .returned (.bool true) ∧ Fr (fun k => ∃ h ∈ l, inA h.A k) w w' := by
  have hg : ∀ k (h : k < l.length), (l.getD k default) = l[k] := fun k h => by simp [List.getD, List.getElem?_eq_getElem h]
  have hmem : ∀ k, k < l.length → l.getD k default ∈ l := fun k h => by rw [hg k h]; exact List.getElem_mem h
  have hs : Sl w (· = b) (some ⟨b, 0, none⟩) (hdrs l.length (fun k => (l.getD k default).A) (fun k => (l.getD k default).n) (fun k => (l.getD k default).c)) := by
    have h1 := hb.sl 0 l.length
    have e : ((l.map hdV).toArray.toList.drop 0).take l.length = hdrs l.length (fun k => (l.getD k default).A) (fun k => (l.getD k default).n) (fun k => (l.getD k default).c) := by
      rw [List.drop_zero, List.take_of_length_le (by simp)]
      refine List.ext_getElem (by simp [hdrs]) fun k h1 h2 => ?_
      have hk : k < l.length := by simpa using h1
      simp only [hdrs, hdr, List.getElem_map, List.getElem_range]
      rw [hg k hk]
    rw [e] at h1
    exact h1
  refine (apartBytes_any w _ _ l.length l.length _ _ _ (fun k => (l.getD k default).bs) hs (fun k hk => ho _ (hmem k hk)) (fun i j hi hj hne k h1 h2 => ?_) hm (fun k hk => hN _ (hmem k hk))).mono fun e w' ⟨he, hf⟩ => ⟨he, hf.mono fun k ⟨i, hi, hk⟩ => .inl ⟨_, hmem i hi, hk⟩⟩
  rw [hg i hi] at h1
  rw [hg j hj] at h2
  rcases Nat.lt_or_gt_of_ne hne with h | h
  · exact List.pairwise_iff_getElem.1 hd i j hi hj h k h1 h2
  · exact List.pairwise_iff_getElem.1 hd j i hj hi h k h2 h1
/-- What is listed is closed under what it waits for. -/
def DownL (md : Region.Mode) (ops : Array Oper) (L : Nat → Bool) : Prop := ∀ k o, ops[k]? = some o → L k = true → ∀ j, waitsFor md o j = true → L j = true
theorem DownL.step {md : Region.Mode} {ops : Array Oper} {L : Nat → Bool} (h : DownL md ops L) {k : Nat} {o : Oper} (ho : ops[k]? = some o) (hD : ∀ j, waitsFor md o j = true → L j = true) : DownL md ops (onL L k) := fun i o' hi hl j hj => by
  unfold onL at hl ⊢
  by_cases e : j = k
  · rw [if_pos e]
  rw [if_neg e]
  by_cases e2 : i = k
  · subst e2
    rw [ho] at hi
    injection hi with hi
    subst hi
    exact hD j hj
  · rw [if_neg e2] at hl
    exact h i o' hi hl j hj
/-- Each of these waits for the next one. -/
def pathOk (md : Region.Mode) (ops : Array Oper) : List Nat → Bool
  | a :: b :: l => (match ops[a]? with
    | none => false
    | some o => waitsFor md o b) && pathOk md ops (b :: l)
  | _ => true
theorem DownL.path {md : Region.Mode} {ops : Array Oper} {L : Nat → Bool} (h : DownL md ops L) : ∀ (l : List Nat) (a : Nat), pathOk md ops (a :: l) = true → L a = true → ∀ j ∈ a :: l, L j = true := by
  intro l
  induction l with
  | nil =>
    intro a _ ha j hj
    rw [List.mem_singleton] at hj
    rw [hj]
    exact ha
  | cons b l ih =>
    intro a hp ha j hj
    unfold pathOk at hp
    rw [Bool.and_eq_true] at hp
    rcases List.mem_cons.1 hj with e | e
    · rw [e]; exact ha
    · refine ih b hp.2 ?_ j e
      cases ho : ops[a]? with
      | none => rw [ho] at hp; cases hp.1
      | some o => rw [ho] at hp; exact h a o ho ha b hp.1
/-- The class: blocks of S are turned by operation kA alone. -/
def RfS (md : Region.Mode) (ops : Array Oper) (W : World) (S : Nat → Prop) (kA : Nat) (fs : List Fact) (L : Nat → Bool) (B : Bk) (w : World) : Prop :=
  Fr S W w ∧ (L kA = false → Nw W w) ∧ DownL md ops L ∧ ∀ f ∈ fs, L f.k = true → f.φ (B f.k) w
def LastsS (S : Nat → Prop) (fs : List Fact) : Prop := ∀ f ∈ fs, ∀ b w w', f.φ b w → Fr S w w' → f.φ b w'
theorem blkF_lastsS (S : Nat → Prop) (W : World) (hS : ∀ k, S k → k < W.heap.size) (k : Nat) (t : TypeId) (cs : Array Value) : ∀ b w w', (blkF W k t cs).φ b w → Fr S w w' → (blkF W k t cs).φ b w' := fun _ _ _ h q => ⟨h.1.fr q (fun h2 => by have := hS _ h2; have := h.2; omega), h.2⟩
section
variable {md : Region.Mode} {ops : Array Oper} {W w w' : World} {S : Nat → Prop} {kA : Nat} {fs : List Fact} {L : Nat → Bool} {B : Bk}
theorem RfS.start (md : Region.Mode) (ops : Array Oper) (W : World) (S : Nat → Prop) (kA : Nat) (fs : List Fact) (B : Bk) : RfS md ops W S kA fs (fun _ => false) B W.drew :=
  ⟨(Fr.refl _ W).drew, fun _ => (Fr.refl _ W).drew, fun _ _ _ h => (by cases h), fun _ _ h => (by cases h)⟩
theorem RfS.fr (h : RfS md ops W S kA fs L B w) : Fr S W w := h.1
theorem RfS.nw (h : RfS md ops W S kA fs L B w) (path : List Nat) {k : Nat} (hp : pathOk md ops (kA :: path) = true) (hk : (kA :: path).contains k = true) (hL : L k = false) : Nw W w := by
  refine h.2.1 ?_
  cases hA : L kA with
  | false => rfl
  | true =>
    have := h.2.2.1.path path kA hp hA k (by simpa using hk)
    rw [hL] at this
    cases this
theorem RfS.get (h : RfS md ops W S kA fs L B w) (i : Nat) (f : Fact) (hi : fs[i]? = some f) (hl : L f.k = true) : f.φ (B f.k) w := h.2.2.2 f (List.mem_of_getElem? hi) hl
theorem RfS.keep (h : RfS md ops W S kA fs L B w) {k : Nat} {o : Oper} (ho : ops[k]? = some o) (hD : ∀ j, waitsFor md o j = true → L j = true) (hne : (kA != k) = true) (hj : fs.all (fun f => f.k != k) = true) : RfS md ops W S kA fs (onL L k) B w :=
  ⟨h.1, fun hl => h.2.1 (by rwa [show onL L k kA = L kA from if_neg (by simpa using hne)] at hl), h.2.2.1.step ho hD, fun f hf hl => h.2.2.2 f hf (by
    have := List.all_eq_true.1 hj f hf
    rw [bne_iff_ne] at this
    rwa [show onL L k f.k = L f.k from if_neg this] at hl)⟩
theorem RfS.go (h : RfS md ops W S kA fs L B w) (hlast : LastsS S fs) (q : Nw w w') : RfS md ops W S kA fs L B w' :=
  ⟨h.1.tr (Nw.on q), fun hl => (h.2.1 hl).tr q, h.2.2.1, fun f hf hl => hlast f hf _ _ _ (h.2.2.2 f hf hl) (Nw.on q)⟩
theorem RfS.put (h : RfS md ops W S kA fs L B w) (hlast : LastsS S fs) (q : Nw w w') (k : Nat) (b : Nat × Option Addr) {o : Oper} (ho : ops[k]? = some o) (hD : ∀ j, waitsFor md o j = true → L j = true) (hne : (kA != k) = true) (hk : ∀ f ∈ fs, f.k = k → f.φ b w') : RfS md ops W S kA fs (onL L k) (updB B k b) w' :=
  ⟨h.1.tr (Nw.on q), fun hl => (h.2.1 (by rwa [show onL L k kA = L kA from if_neg (by simpa using hne)] at hl)).tr q, h.2.2.1.step ho hD, fun f hf hl => by
    by_cases e : f.k = k
    · rw [show updB B k b f.k = b from if_pos e]
      exact hk f hf e
    · rw [show onL L k f.k = L f.k from if_neg e] at hl
      rw [show updB B k b f.k = B f.k from if_neg e]
      exact hlast f hf _ _ _ (h.2.2.2 f hf hl) (Nw.on q)⟩
theorem RfS.turn (h : RfS md ops W S kA fs L B w) (hlast : LastsS S fs) (q : Fr S w w') {o : Oper} (ho : ops[kA]? = some o) (hD : ∀ j, waitsFor md o j = true → L j = true) (hj : fs.all (fun f => f.k != kA) = true) : RfS md ops W S kA fs (onL L kA) B w' :=
  ⟨h.1.tr q, fun hl => (by rw [show onL L kA kA = true from if_pos rfl] at hl; cases hl), h.2.2.1.step ho hD, fun f hf hl => by
    have := List.all_eq_true.1 hj f hf
    rw [bne_iff_ne] at this
    rw [show onL L kA f.k = L f.k from if_neg this] at hl
    exact hlast f hf _ _ _ (h.2.2.2 f hf hl) q⟩
end
/-- A drawn region, walked once, in which one call turns what was told ahead of it. -/
theorem wp_region_effS {P : Program} {id : Nat} {Q : Exit → Act → World → Prop} {a : Act} {w : World} {l : List Oper} (S : Nat → Prop) (kA : Nat) (fs : List Fact) (hm : P.follows .mixedOrders = true) (hB : effB .any l.toArray = true)
    (h : wpEff2 .any P l.toArray (RfS .any l.toArray w S kA fs) (fun B a' => ∀ w', RfS .any l.toArray w S kA fs (fun j => decide (j < l.length)) B w' → Q .normal a' w') l 0 (fun _ => a)) : (Code.region id l.toArray true).wp P Q a w :=
  wp_region_eff2 (RfS .any l.toArray w S kA fs) (fun _ => (0, none)) hm hB (RfS.start _ _ _ _ _ _ _) h
end Go.Proofs.YtkjnlhidnkbelaaGreatDoor
