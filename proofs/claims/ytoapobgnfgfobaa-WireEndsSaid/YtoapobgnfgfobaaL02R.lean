/- WireReads: what any calls read of any bytes is what the document tells: the words. -/
import Derived.Test.YtoapobgnfgfobaaL02W
import Derived.Test.YtoapobgnfgfobaaRdQ
import Derived.Test.YtoapobgnfgfobaaRefB
import Derived.Deep.RegionHeld3
namespace Go.Proofs.Ytoapobgnfgfobaa
open Go Go.RowKit

def ext {α : Type} (F : Nat → α) (m : Nat) (v : α) : Nat → α := fun j => if j = m then v else F j
theorem ext_at {α : Type} (F : Nat → α) (m : Nat) (v : α) : ext F m v m = v := by simp [ext]
theorem ext_ne {α : Type} (F : Nat → α) {m j : Nat} (v : α) (h : j ≠ m) : ext F m v j = F j := by simp [ext, h]
section
variable {w : World} {m : Nat} {A : Nat → Option Addr} {N cp : Nat → Nat} {f : Nat → List UInt8}
theorem RowsAt.snoc (h : RowsAt w m A N cp f) {X : Option Addr} {n c : Nat} {bs : List UInt8} (hx : Own w 5 1 X n c (bs.map B8)) : RowsAt w (m + 1) (ext A m X) (ext N m n) (ext cp m c) (ext f m bs) := by
  intro k hk
  by_cases e : k = m
  · subst e; rw [ext_at, ext_at, ext_at, ext_at]; exact hx
  · rw [ext_ne _ _ e, ext_ne _ _ e, ext_ne _ _ e, ext_ne _ _ e]
    exact h k (by omega)
theorem FarR.snoc (hfar : FarR m A) {X : Option Addr} (hn : ∀ b, inA X b → ¬ InR m A b) : FarR (m + 1) (ext A m X) := by
  intro i j hi hj hne b
  by_cases e1 : i = m
  · subst e1
    rw [ext_at, ext_ne _ _ (fun h => hne h.symm)]
    exact fun h1 h2 => hn b h1 ⟨j, by omega, h2⟩
  · rw [ext_ne _ _ e1]
    by_cases e2 : j = m
    · subst e2
      rw [ext_at]
      exact fun h1 h2 => hn b h2 ⟨i, by omega, h1⟩
    · rw [ext_ne _ _ e2]
      exact hfar i j (by omega) (by omega) hne b
theorem InR.snoc {X : Option Addr} {b : Nat} (h : InR (m + 1) (ext A m X) b) : InR m A b ∨ inA X b := by
  obtain ⟨k, hk, h⟩ := h
  by_cases e : k = m
  · subst e; rw [ext_at] at h; exact .inr h
  · rw [ext_ne _ _ e] at h
    exact .inl ⟨k, by omega, h⟩
theorem hdrs_snoc (X : Option Addr) (n c : Nat) : hdrs (m + 1) (ext A m X) (ext N m n) (ext cp m c) = hdrs m A N cp ++ [.slice X n c] := by
  unfold hdrs
  rw [List.range_succ, List.map_append]
  congr 1
  · refine List.map_congr_left fun k hk => ?_
    have : k ≠ m := by have := List.mem_range.1 hk; omega
    simp [hdr, ext, this]
  · simp [hdr, ext]
end

/-- How both readers stand, and the rows that were read. -/
def RdsAt (wS : World) (F F2 : Nat → Prop) (gr gm : Nat) (t8 : Value) (st : Rd) (m : Nat) (wr : World) : Prop :=
  ∃ (A : Nat → Option Addr) (N cp : Nat → Nat) (f : Nat → List UInt8) (Br : Option Addr) (cr : Nat), t8 = .slice Br m cr ∧ Own wr 43 1 Br m cr (hdrs m A N cp) ∧ RowsAt wr m A N cp f ∧ FarR m A ∧ (∀ j, j < m → N j ≤ 20000) ∧
    (∀ b, inA Br b → wS.heap.size ≤ b) ∧ (∀ b, InR m A b → wS.heap.size ≤ b) ∧ IsRd wr F gr st ∧ IsRR wr F2 gm st ∧ Fr (fun b => b = gr ∨ b = gm) wS wr
def RdsRel (wS : World) (F F2 : Nat → Prop) (gr gm : Nat) (n : Nat) (t8 i : Value) (wr : World) : Prop :=
  ∃ (k : Nat) (st : Rd) (m : Nat), k ≤ n ∧ i = .int .i64 k ∧ m ≤ k ∧ rdLeft st ≤ 20000 ∧ RdsAt wS F F2 gr gm t8 st m wr

section
variable {wS wr W0 v v' : World} {F F2 : Nat → Prop} {gr gm m : Nat} {t8 : Value} {st st' : Rd}
theorem RdsAt.step (h : RdsAt wS F F2 gr gm t8 st m wr) (f1 : Fr (fun b => b = gr ∨ b = gm) wr v) (ir : IsRd v F gr st') (im : IsRR v F2 gm st') (hgr : gr < wS.heap.size) (hgm : gm < wS.heap.size) : RdsAt wS F F2 gr gm t8 st' m v := by
  obtain ⟨A, N, cp, f, Br, cr, e, ho, hrw, hfar, hNs, hBr, hIn, _, _, hf⟩ := h
  exact ⟨A, N, cp, f, Br, cr, e, ho.fr f1 (fun b hb h => by have := hBr b hb; omega), hrw.fr f1 (fun k hk b hb h => by have := hIn b ⟨k, hk, hb⟩; omega), hfar, hNs, hBr, hIn, ir, im, hf.tr f1⟩
theorem RdsAt.nw (h : RdsAt wS F F2 gr gm t8 st m wr) (q : Nw wr v) (hgr : gr < wS.heap.size) (hgm : gm < wS.heap.size) : RdsAt wS F F2 gr gm t8 st m v := by
  have h' := h
  obtain ⟨_, _, _, _, _, _, _, _, _, _, _, _, _, ir, im, _⟩ := h'
  exact h.step (Nw.on q) (ir.fr q (fun h => h) (fun _ _ h => h)) (im.fr q (fun h => h) (fun _ _ h => h)) hgr hgm
theorem RdsAt.rd (h : RdsAt wS F F2 gr gm t8 st m wr) : IsRd wr F gr st := by obtain ⟨_, _, _, _, _, _, _, _, _, _, _, _, _, ir, _, _⟩ := h; exact ir
theorem RdsAt.rr (h : RdsAt wS F F2 gr gm t8 st m wr) : IsRR wr F2 gm st := by obtain ⟨_, _, _, _, _, _, _, _, _, _, _, _, _, _, im, _⟩ := h; exact im
end

theorem own_apart {w : World} {E E' : TypeId} {s s' n n' c c' : Nat} {A A' : Option Addr} {cs cs' : List Value} (h : Own w E s A n c cs) (h' : Own w E' s' A' n' c' cs') (hne : E' ≠ E) : ∀ j, inA A' j → ¬ inA A j := by
  intro j hj hh
  rcases h'.2 with ⟨rfl, _⟩ | ⟨g, cur, rfl, hbk, _⟩
  · exact inA_none _ hj
  · rw [(inA_some _ _).1 hj] at hh
    exact h.ne_ hbk hne hh
theorem RdsAt.row {wS v v4 : World} {F F2 : Nat → Prop} {gr gm m : Nat} {st : Rd} {A : Nat → Option Addr} {N cp : Nat → Nat} {f : Nat → List UInt8} {Br B' X : Option Addr} {cr c' n c : Nat} {bs : List UInt8} {ob : Obj}
    (ho : Own v 43 1 Br m cr (hdrs m A N cp)) (hrw : RowsAt v m A N cp f) (hfar : FarR m A) (hNs : ∀ j, j < m → N j ≤ 20000) (hBr : ∀ b, inA Br b → wS.heap.size ≤ b) (hIn : ∀ b, InR m A b → wS.heap.size ≤ b)
    (ir : IsRd v F gr st) (im : IsRR v F2 gm st) (hf : Fr (fun b => b = gr ∨ b = gm) wS v) (o : Own v 5 1 X n c (bs.map B8)) (hn : n ≤ 20000) (hX : ∀ b, inA X b → wS.heap.size ≤ b) (hXr : ∀ b, inA X b → ¬ InR m A b)
    (hF : ∀ b, F b → b < wS.heap.size) (hF2 : ∀ b, F2 b → b < wS.heap.size) (hgr : gr < wS.heap.size) (hgm : gm < wS.heap.size)
    (ho4 : Own v4 43 1 B' (m + 1) c' (hdrs m A N cp ++ [.slice X n c])) (hf4 : Fr (inA Br) (v.alloc ob) v4) (hin4 : ∀ k, inA B' k → inA Br k ∨ k = (v.alloc ob).heap.size) :
    RdsAt wS F F2 gr gm (.slice B' (m + 1) c') st (m + 1) v4 := by
  have qa : Nw v (v.alloc ob) := (Fr.refl _ v).alloc _
  have hs := hf.size
  refine ⟨ext A m X, ext N m n, ext cp m c, ext f m bs, B', c', rfl, by rw [hdrs_snoc]; exact ho4, RowsAt.snoc ((hrw.nw qa).fr hf4 fun k hk b hb h => own_apart ho (hrw k hk) (by decide) b hb h) ((o.fr qa (fun _ _ h => h)).fr hf4 fun b hb h => own_apart ho o (by decide) b hb h), hfar.snoc hXr, ?_, ?_, ?_, ?_, ?_, ?_⟩
  · intro j hj
    by_cases e : j = m
    · subst e; rw [ext_at]; exact hn
    · rw [ext_ne _ _ e]; exact hNs j (by omega)
  · intro b hb
    rcases hin4 b hb with h | h
    · exact hBr b h
    · rw [h, World.size_alloc]; omega
  · intro b hb
    rcases InR.snoc hb with h | h
    · exact hIn b h
    · exact hX b h
  · exact (ir.fr qa (fun h => h) (fun _ _ h => h)).fr hf4 (fun h => by have := hBr _ h; omega) (fun b hb h => by have := hBr _ h; have := hF b hb; omega)
  · exact (im.fr qa (fun h => h) (fun _ _ h => h)).fr hf4 (fun h => by have := hBr _ h; omega) (fun b hb h => by have := hBr _ h; have := hF2 b hb; omega)
  · exact (hf.tr (Nw.on qa)).trans hf4 fun b hb => .inr (hBr b hb)
theorem IsRR.leftCell {w : World} {F : Nat → Prop} {g : Nat} {s : Rd} (h : IsRR w F g s) : ∃ A c, w.cell? ⟨g, 0, none⟩ = some (.slice A (rdLeft s) c) := by
  cases s with
  | none => exact ⟨none, 0, by have := h.1.cell 0; simpa [rdLeft] using this⟩
  | some bs => obtain ⟨A, c, hb, _⟩ := h; exact ⟨A, c, by have := hb.cell 0; simpa [rdLeft] using this⟩
theorem rdRow_len (m : Int) (s : Rd) : (rdRow m s).1.length ≤ rdLeft s := by
  rcases rdNum_cases m s with hn | ⟨bs, q, r, rfl, hn, _, _, hbs⟩
  · rw [rdRow_none hn]; exact Nat.zero_le _
  · rw [rdRow_some hn]
    split
    · exact Nat.zero_le _
    · rw [List.length_take]
      have : r.length ≤ bs.length := by rw [hbs, List.length_append]; omega
      show min q r.length ≤ bs.length
      omega
end Go.Proofs.Ytoapobgnfgfobaa
