/- Rulings: what is decided is as the document says: plain laws. -/
import Derived.Test.YtgmcjfjdjnoljaaFiA
import Derived.Test.YtgmcjfjdjnoljaaRuT
import Derived.Test.YtgmcjfjdjnoljaaRuV
import Derived.Test.YtgmcjfjdjnoljaaRuX
import Derived.Test.YtgmcjfjdjnoljaaKitRd
import Derived.Deep.DeepCutAuto
namespace Go.Proofs.Ytgmcjfjdjnoljaa
open Go Go.RowKit

def upd (F : Nat → Nat → Prop) (i : Nat) (G : Nat → Prop) : Nat → Nat → Prop := fun j => if j = i then G else F j
theorem upd_disj {F : Nat → Nat → Prop} {i n : Nat} {G : Nat → Prop} (h : ∀ a b q, F a q → F b q → a = b) (hlt : ∀ a q, F a q → q < n) (hG : ∀ q, G q → F i q ∨ n ≤ q) : ∀ a b q, upd F i G a q → upd F i G b q → a = b := by
  intro a b q ha hb
  unfold upd at ha hb
  by_cases h1 : a = i
  · rw [if_pos h1] at ha
    by_cases h2 : b = i
    · omega
    · rw [if_neg h2] at hb
      rcases hG q ha with h3 | h3
      · rw [h1]; exact h i b q h3 hb
      · have := hlt b q hb; omega
  · rw [if_neg h1] at ha
    by_cases h2 : b = i
    · rw [if_pos h2] at hb
      rcases hG q hb with h3 | h3
      · rw [h2]; exact h a i q ha h3
      · have := hlt a q ha; omega
    · rw [if_neg h2] at hb
      exact h a b q ha hb
/-- Two books, and the document's fellow of each, apart. -/
structure Four (w : World) (X : Nat → Prop) (F : Nat → Nat → Prop) (gB gM gC gD : Nat) (B M C D : List Ver) (wx : World) : Prop where
  b : IsBk wx (F 0) gB B
  m : IsRB wx (F 1) gM M
  c : IsBk wx (F 2) gC C
  d : IsRB wx (F 3) gD D
  out : ∀ a q, F a q → w.heap.size ≤ q ∧ q < wx.heap.size ∧ ¬ X q
  dis : ∀ a b q, F a q → F b q → a = b
  x : ∀ q, X q → w.heap.size ≤ q ∧ q < wx.heap.size
  q : Nw w wx
section
variable {w wx wy : World} {X X' S G : Nat → Prop} {F : Nat → Nat → Prop} {gB gM gC gD g : Nat} {B M C D L : List Ver}
theorem Four.sz (h : Four w X F gB gM gC gD B M C D wx) : w.heap.size ≤ wx.heap.size := h.q.size
theorem Four.frX (h : Four w X F gB gM gC gD B M C D wx) (f : Fr S wx wy) (hS : ∀ q, S q → X q) : Four w X F gB gM gC gD B M C D wy :=
  have hn : ∀ a q, F a q → ¬ S q := fun a q h1 h2 => (h.out a q h1).2.2 (hS q h2)
  ⟨h.b.fr f (hn 0), h.m.fr f (hn 1), h.c.fr f (hn 2), h.d.fr f (hn 3), fun a q h1 => ⟨(h.out a q h1).1, Nat.lt_of_lt_of_le (h.out a q h1).2.1 f.size, (h.out a q h1).2.2⟩, h.dis,
    fun q h1 => ⟨(h.x q h1).1, Nat.lt_of_lt_of_le (h.x q h1).2 f.size⟩, h.q.trans f fun q h1 => .inr (h.x q (hS q h1)).1⟩
theorem Four.nw (h : Four w X F gB gM gC gD B M C D wx) (f : Nw wx wy) : Four w X F gB gM gC gD B M C D wy := h.frX f fun _ h => h.elim
theorem Four.more (h : Four w X F gB gM gC gD B M C D wx) (f : Nw wx wy) (hX : ∀ q, X' q → X q ∨ (wx.heap.size ≤ q ∧ q < wy.heap.size)) : Four w X' F gB gM gC gD B M C D wy :=
  have h2 := h.nw f
  { h2 with
    out := fun a q h1 => ⟨(h2.out a q h1).1, (h2.out a q h1).2.1, fun h3 => (hX q h3).elim (h2.out a q h1).2.2 fun h4 => by have := (h.out a q h1).2.1; omega⟩
    x := fun q h1 => (hX q h1).elim (h2.x q) fun h4 => ⟨Nat.le_trans h.sz h4.1, h4.2⟩ }
theorem Four.less (h : Four w X F gB gM gC gD B M C D wx) : Four w (fun _ => False) F gB gM gC gD B M C D wx :=
  { h with
    out := fun a q h1 => ⟨(h.out a q h1).1, (h.out a q h1).2.1, fun h => h⟩
    x := fun _ h => h.elim }
/-- What is left apart behind a step that turned one of the books. -/
def Xn (X : Nat → Prop) (wx wy : World) (G : Nat → Prop) : Nat → Prop := fun q => X q ∨ (wx.heap.size ≤ q ∧ q < wy.heap.size ∧ ¬ G q)
theorem Four.out2 (h : Four w X F gB gM gC gD B M C D wx) (i : Nat) (f : Fr (F i) wx wy) (hG : ∀ q, G q → F i q ∨ wx.heap.size ≤ q) (hGl : ∀ q, G q → q < wy.heap.size) :
    (∀ a q, upd F i G a q → w.heap.size ≤ q ∧ q < wy.heap.size ∧ ¬ Xn X wx wy G q) ∧ (∀ a b q, upd F i G a q → upd F i G b q → a = b) ∧ (∀ q, Xn X wx wy G q → w.heap.size ≤ q ∧ q < wy.heap.size) ∧ Nw w wy := by
  have hs := f.size
  have hs2 := h.sz
  refine ⟨fun a q h1 => ?_, upd_disj h.dis (fun a q h1 => (h.out a q h1).2.1) hG, fun q h1 => ?_, h.q.trans f fun q h1 => .inr (h.out i q h1).1⟩
  · unfold upd at h1
    split at h1
    · refine ⟨(hG q h1).elim (fun h2 => (h.out i q h2).1) (fun h2 => by omega), hGl q h1, ?_⟩
      rintro (h3 | h3)
      · exact (hG q h1).elim (fun h2 => (h.out i q h2).2.2 h3) (fun h2 => by have := (h.x q h3).2; omega)
      · exact h3.2.2 h1
    · have h2 := h.out a q h1
      refine ⟨h2.1, by omega, ?_⟩
      rintro (h3 | h3)
      · exact h2.2.2 h3
      · omega
  · rcases h1 with h3 | h3
    · have := h.x q h3; exact ⟨this.1, by omega⟩
    · exact ⟨by omega, h3.2.1⟩
theorem Four.far (h : Four w X F gB gM gC gD B M C D wx) {a b : Nat} (hab : a ≠ b) : ∀ q, F a q → ¬ F b q := fun q h1 h2 => hab (h.dis a b q h1 h2)
theorem Four.decB (h : Four w X F gB gM gC gD B M C D wx) (hn : IsBk wy G gB L) (f : Fr (F 0) wx wy) (hG : ∀ q, G q → F 0 q ∨ wx.heap.size ≤ q) : Four w (Xn X wx wy G) (upd F 0 G) gB gM gC gD L M C D wy := by
  obtain ⟨h1, h2, h3, h4⟩ := h.out2 0 f hG hn.lt
  exact ⟨hn, h.m.fr f (h.far (by decide)), h.c.fr f (h.far (by decide)), h.d.fr f (h.far (by decide)), h1, h2, h3, h4⟩
theorem Four.decM (h : Four w X F gB gM gC gD B M C D wx) (hn : IsRB wy G gM L) (f : Fr (F 1) wx wy) (hG : ∀ q, G q → F 1 q ∨ wx.heap.size ≤ q) : Four w (Xn X wx wy G) (upd F 1 G) gB gM gC gD B L C D wy := by
  obtain ⟨h1, h2, h3, h4⟩ := h.out2 1 f hG hn.lt
  exact ⟨h.b.fr f (h.far (by decide)), hn, h.c.fr f (h.far (by decide)), h.d.fr f (h.far (by decide)), h1, h2, h3, h4⟩
theorem Four.decC (h : Four w X F gB gM gC gD B M C D wx) (hn : IsBk wy G gC L) (f : Fr (F 2) wx wy) (hG : ∀ q, G q → F 2 q ∨ wx.heap.size ≤ q) : Four w (Xn X wx wy G) (upd F 2 G) gB gM gC gD B M L D wy := by
  obtain ⟨h1, h2, h3, h4⟩ := h.out2 2 f hG hn.lt
  exact ⟨h.b.fr f (h.far (by decide)), h.m.fr f (h.far (by decide)), hn, h.d.fr f (h.far (by decide)), h1, h2, h3, h4⟩
theorem Four.decD (h : Four w X F gB gM gC gD B M C D wx) (hn : IsRB wy G gD L) (f : Fr (F 3) wx wy) (hG : ∀ q, G q → F 3 q ∨ wx.heap.size ≤ q) : Four w (Xn X wx wy G) (upd F 3 G) gB gM gC gD B M C L wy := by
  obtain ⟨h1, h2, h3, h4⟩ := h.out2 3 f hG hn.lt
  exact ⟨h.b.fr f (h.far (by decide)), h.m.fr f (h.far (by decide)), h.c.fr f (h.far (by decide)), hn, h1, h2, h3, h4⟩
theorem Four.outc (h : Four w X F gB gM gC gD B M C D wx) (i : Nat) (f : Nw wx wy) (hG : ∀ q, G q → wx.heap.size ≤ q) (hGl : ∀ q, G q → q < wy.heap.size) :
    (∀ a q, upd F i G a q → w.heap.size ≤ q ∧ q < wy.heap.size ∧ ¬ X q) ∧ (∀ a b q, upd F i G a q → upd F i G b q → a = b) ∧ (∀ q, X q → w.heap.size ≤ q ∧ q < wy.heap.size) ∧ Nw w wy := by
  have hs := f.size
  have hs2 := h.sz
  refine ⟨fun a q h1 => ?_, upd_disj h.dis (fun a q h1 => (h.out a q h1).2.1) (fun q h => .inr (hG q h)), fun q h1 => ?_, h.q.tr f⟩
  · unfold upd at h1
    split at h1
    · have h2 := hG q h1
      exact ⟨by omega, hGl q h1, fun h3 => by have := (h.x q h3).2; omega⟩
    · have h2 := h.out a q h1
      exact ⟨h2.1, by omega, h2.2.2⟩
  · have := h.x q h1; exact ⟨this.1, by omega⟩
theorem Four.copyC (h : Four w X F gB gM gC gD B M C D wx) (hn : IsBk wy G g L) (f : Nw wx wy) (hG : ∀ q, G q → wx.heap.size ≤ q) : Four w X (upd F 2 G) gB gM g gD B M L D wy := by
  obtain ⟨h1, h2, h3, h4⟩ := h.outc 2 f hG hn.lt
  exact ⟨h.b.fr f (fun _ _ h => h), h.m.fr f (fun _ _ h => h), hn, h.d.fr f (fun _ _ h => h), h1, h2, h3, h4⟩
theorem Four.copyD (h : Four w X F gB gM gC gD B M C D wx) (hn : IsRB wy G g L) (f : Nw wx wy) (hG : ∀ q, G q → wx.heap.size ≤ q) : Four w X (upd F 3 G) gB gM gC g B M C L wy := by
  obtain ⟨h1, h2, h3, h4⟩ := h.outc 3 f hG hn.lt
  exact ⟨h.b.fr f (fun _ _ h => h), h.m.fr f (fun _ _ h => h), h.c.fr f (fun _ _ h => h), hn, h1, h2, h3, h4⟩
def pick4 (FB FM FC FD : Nat → Prop) : Nat → Nat → Prop
  | 0 => FB
  | 1 => FM
  | 2 => FC
  | 3 => FD
  | _ => fun _ => False
theorem Four.start {FB FM FC FD : Nat → Prop} {n1 n2 n3 : Nat} (hb : IsBk wx FB gB B) (hm : IsRB wx FM gM M) (hc : IsBk wx FC gC C) (hd : IsRB wx FD gD D) (q : Nw w wx) (h0 : w.heap.size ≤ n1) (h1 : n1 ≤ n2) (h2 : n2 ≤ n3)
    (f1 : ∀ q, FB q → w.heap.size ≤ q ∧ q < n1) (f2 : ∀ q, FM q → n1 ≤ q ∧ q < n2) (f3 : ∀ q, FC q → n2 ≤ q ∧ q < n3) (f4 : ∀ q, FD q → n3 ≤ q) : Four w (fun _ => False) (pick4 FB FM FC FD) gB gM gC gD B M C D wx := by
  have lb := hb.lt
  have lm := hm.lt
  have lc := hc.lt
  have ld := hd.lt
  have key : ∀ a z, pick4 FB FM FC FD a z → (a = 0 ∧ w.heap.size ≤ z ∧ z < n1 ∧ z < wx.heap.size) ∨ (a = 1 ∧ n1 ≤ z ∧ z < n2 ∧ z < wx.heap.size) ∨ (a = 2 ∧ n2 ≤ z ∧ z < n3 ∧ z < wx.heap.size) ∨ (a = 3 ∧ n3 ≤ z ∧ z < wx.heap.size) := by
    intro a z h
    match a, h with
    | 0, h => exact .inl ⟨rfl, (f1 z h).1, (f1 z h).2, lb z h⟩
    | 1, h => exact .inr (.inl ⟨rfl, (f2 z h).1, (f2 z h).2, lm z h⟩)
    | 2, h => exact .inr (.inr (.inl ⟨rfl, (f3 z h).1, (f3 z h).2, lc z h⟩))
    | 3, h => exact .inr (.inr (.inr ⟨rfl, f4 z h, ld z h⟩))
    | _ + 4, h => exact h.elim
  refine ⟨hb, hm, hc, hd, fun a z h => ?_, fun a b z ha hb => ?_, fun _ h => h.elim, q⟩
  · rcases key a z h with h | h | h | h
    all_goals exact ⟨by omega, by omega, fun h => h⟩
  · have k1 := key a z ha
    have k2 := key b z hb
    omega
theorem Four.farX (h : Four w X F gB gM gC gD B M C D wx) (a : Nat) : ∀ q, X q → ¬ F a q := fun q h1 h2 => (h.out a q h2).2.2 h1
theorem Four.farO (h : Four w X F gB gM gC gD B M C D wx) (a : Nat) : ∀ q, q < w.heap.size → ¬ F a q := fun q h1 h2 => by have := (h.out a q h2).1; omega
end
theorem LentRd.lt {w : World} {g : Nat} {l : List Rdg} (h : LentRd w g l) : g < w.heap.size := by
  obtain ⟨cur, hb, _⟩ := Own.blk h
  exact hb.lt
theorem LentRd.blkT {w : World} {g : Nat} {l : List Rdg} (h : LentRd w g l) : ∃ cur, Blk w g 83 cur := by
  obtain ⟨cur, hb, _⟩ := Own.blk h
  exact ⟨cur, hb⟩
theorem of_len {B : List Ver} (n : Nm) (hz : VersSz B) : ((findV n B).getD verZero).2.2.2.length ≤ 1000000000 := by
  cases h : findV n B with
  | none => exact Nat.zero_le _
  | some u => exact (hz u (findV_some h).1).1
theorem cells5 {w : World} {g : Nat} {T : TypeId} {a b c d e : Value} (h : Blk w g T #[a, b, c, d, e]) :
    w.cell? ⟨g, 0, none⟩ = some a ∧ w.cell? ⟨g, 1, none⟩ = some b ∧ w.cell? ⟨g, 2, none⟩ = some c ∧ w.cell? ⟨g, 3, none⟩ = some d ∧ w.cell? ⟨g, 4, none⟩ = some e :=
  ⟨by simpa using h.cell 0, by simpa using h.cell 1, by simpa using h.cell 2, by simpa using h.cell 3, by simpa using h.cell 4⟩
theorem cellsL {w : World} {b o : Nat} {v : Ver} {A : Option Addr} {c : Nat} (h : ∀ p u, (verL v A c)[p]? = some u → w.cell? ⟨b, o + p, none⟩ = some u) :
    w.cell? ⟨b, o, none⟩ = some (I64 v.1.1) ∧ w.cell? ⟨b, o + 1, none⟩ = some (I64 v.1.2) ∧ w.cell? ⟨b, o + 2, none⟩ = some (.bool v.2.1) ∧ w.cell? ⟨b, o + 3, none⟩ = some (I64 v.2.2.1) ∧ w.cell? ⟨b, o + 4, none⟩ = some (.slice A v.2.2.2.length c) :=
  ⟨h 0 _ rfl, h 1 _ rfl, h 2 _ rfl, h 3 _ rfl, h 4 _ rfl⟩
theorem all_succ (l : List Ver) (j : Nat) (h : j < l.length) : (l.take (j + 1)).all verOk = ((l.take j).all verOk && verOk l[j]) := by
  rw [List.take_succ_eq_append_getElem h, List.all_append]
  simp
end Go.Proofs.Ytgmcjfjdjnoljaa
