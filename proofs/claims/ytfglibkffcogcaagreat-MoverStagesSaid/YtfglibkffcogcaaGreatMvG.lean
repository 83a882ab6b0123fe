/- MoverRuns: how both movers, and the rows, stand between the deeds. -/
import Derived.Test.YtfglibkffcogcaaGreatMvF
import Derived.Test.YtfglibkffcogcaaGreatApD
import Derived.Test.YtfglibkffcogcaaGreatPick
namespace Go.Proofs.YtfglibkffcogcaaGreat
open Go Go.RowKit

/-- The program's mover in block g; what it has lies from B on, and not in X. -/
def DuoM (w : World) (B g : Nat) (X : Nat → Prop) (s : Mv) : Prop := ∃ I, IsMv w I g s ∧ ∀ k, I k → B ≤ k ∧ ¬ X k
def DuoR (w : World) (B g : Nat) (X : Nat → Prop) (s : Mv) : Prop := ∃ I, IsRMv w I g s ∧ ∀ k, I k → B ≤ k ∧ ¬ X k
section
variable {w w' : World} {B g : Nat} {X Y S : Nat → Prop} {s : Mv}
theorem DuoM.fr (h : DuoM w B g X s) (f : Fr S w w') (hg : ¬ S g) (hX : ∀ k, S k → B ≤ k → X k) : DuoM w' B g X s := by
  obtain ⟨I, h1, h2⟩ := h
  exact ⟨I, h1.fr f hg (fun k hk hs => (h2 k hk).2 (hX k hs (h2 k hk).1)), h2⟩
theorem DuoR.fr (h : DuoR w B g X s) (f : Fr S w w') (hg : ¬ S g) (hX : ∀ k, S k → B ≤ k → X k) : DuoR w' B g X s := by
  obtain ⟨I, h1, h2⟩ := h
  exact ⟨I, h1.fr f hg (fun k hk hs => (h2 k hk).2 (hX k hs (h2 k hk).1)), h2⟩
theorem DuoM.nw (h : DuoM w B g X s) (f : Nw w w') : DuoM w' B g X s := h.fr f (fun h => h) (fun _ h => h.elim)
theorem DuoR.nw (h : DuoR w B g X s) (f : Nw w w') : DuoR w' B g X s := h.fr f (fun h => h) (fun _ h => h.elim)
theorem DuoM.fresh (h : DuoM w B g X s) (hY : ∀ k, Y k → X k ∨ w.heap.size ≤ k) : DuoM w B g Y s := by
  obtain ⟨I, h1, h2⟩ := h
  refine ⟨I, h1, fun k hk => ⟨(h2 k hk).1, fun hy => (hY k hy).elim (h2 k hk).2 fun h => ?_⟩⟩
  obtain ⟨_, _, _, _, _, _, _, _, _, _, _, _, _, _, _, h10⟩ := h1
  have := h10 k hk
  omega
theorem DuoR.fresh (h : DuoR w B g X s) (hY : ∀ k, Y k → X k ∨ w.heap.size ≤ k) : DuoR w B g Y s := by
  obtain ⟨I, h1, h2⟩ := h
  refine ⟨I, h1, fun k hk => ⟨(h2 k hk).1, fun hy => (hY k hy).elim (h2 k hk).2 fun h => ?_⟩⟩
  obtain ⟨_, _, _, _, _, _, _, _, _, _, _, _, _, _, _, h10⟩ := h1
  have := h10 k hk
  omega
theorem DuoM.lt (h : DuoM w B g X s) : g < w.heap.size := by
  obtain ⟨I, h1, _⟩ := h
  exact h1.lt
theorem DuoR.lt (h : DuoR w B g X s) : g < w.heap.size := by
  obtain ⟨I, h1, _⟩ := h
  exact h1.lt
end
theorem ToldV.fr {w0 w w' : World} {T : TypeId} {kv : Int → Value} {l : List AskT} {v : Value} {S : Nat → Prop} (h : ToldV w0 T kv l v w) (f : Fr S w w') (hS : ∀ k, S k → k < w0.heap.size) : ToldV w0 T kv l v w' := by
  rcases h with h | ⟨a, gA, A, c, h1, h2, h3, h4, h5, h6⟩
  · exact .inl h
  · exact .inr ⟨a, gA, A, c, h1, h2, h3.fr f (fun h => by have := hS _ h; omega), h4.fr f (fun k hk h => by have := hS _ h; have := h6 k hk; omega), h5, h6⟩
theorem ToldR.fr {w0 w w' : World} {I : Nat → Prop} {l : List AskT} {v : Value} {S : Nat → Prop} (h : ToldR w0 I l v w) (f : Fr S w w') (hS : ∀ k, S k → k < w0.heap.size ∧ ¬ I k) : ToldR w0 I l v w' := by
  rcases h with h | ⟨a, gA, A, c, J, h1, h2, h3, h4, h5, h6, h7⟩
  · exact .inl h
  · exact .inr ⟨a, gA, A, c, J, h1, h2, h3.fr f (fun h => by have := (hS _ h).1; omega), h4.fr f (fun k hk h => by have := hS _ h; exact (h7 k hk).elim this.2 (fun h8 => by omega)), h5, h6, h7⟩
/-- What the document tells, wherever its bytes lie. -/
def ToldD (w0 : World) (X : Nat → Prop) (l : List AskT) (v : Value) (w : World) : Prop := ∃ I, ToldR w0 I l v w ∧ ∀ k, I k → ¬ X k
theorem ToldD.fr {w0 w w' : World} {X S : Nat → Prop} {l : List AskT} {v : Value} (h : ToldD w0 X l v w) (f : Fr S w w') (hS : ∀ k, S k → k < w0.heap.size ∧ X k) : ToldD w0 X l v w' := by
  obtain ⟨I, h1, h2⟩ := h
  exact ⟨I, h1.fr f fun k hk => ⟨(hS k hk).1, fun hi => h2 k hi (hS k hk).2⟩, h2⟩
theorem ToldD.back {w w1 w2 : World} {X : Nat → Prop} {l : List AskT} {v : Value} (h : ToldD w1 X l v w2) (hs : w.heap.size ≤ w1.heap.size) : ToldD w (fun _ => False) l v w2 := by
  obtain ⟨I, h1, h2⟩ := h
  exact ⟨I, h1.back hs (fun k hk => .inl hk), fun _ _ h => h⟩
theorem lent_sl {w : World} {A : Option Addr} {ys : List UInt8} (h : Lent w A ys) : Sl w (inA A) A (ys.map B8) := by
  have h1 := (Own.sl h).pre (k := ys.length)
  rwa [List.map_append, List.take_left' (by simp)] at h1
section
variable {w : World} {B g : Nat} {X : Nat → Prop} {s : Mv}
theorem duo_tick (h : DuoM w B g X s) (hB : B ≤ w.heap.size) (hX : ∀ k, X k → k < w.heap.size) (x : Sch) (u : Bool) (hl : x.lo.length ≤ 1000000000000) (hh : x.hi.length ≤ 1000000000000) (hst : 0 ≤ x.stage ∧ x.stage ≤ 255) {N : Int} (hv : MvInv s N) (hN : N ≤ 4611686018427387904) :
    Calls Tryz.prog 10 #[.pointer (some ⟨g, 0, none⟩), .agg (schA x), .bool u] w fun e w' => ∃ v, e = .returned v ∧ ToldV w 70 U8V (tickM s x u).2 v w' ∧ DuoM w' B g X (tickM s x u).1 ∧ Fr (· = g) w w' := by
  obtain ⟨I, h1, h2⟩ := h
  refine (mtick_any w I g s x u h1 hl hh hst ⟨hv.next.1, Int.le_trans hv.next.2 hN⟩ hv.since).mono ?_
  rintro e w' ⟨v, rfl, t1, ⟨I', t2, t3⟩, t4⟩
  exact ⟨v, rfl, t1, ⟨I', t2, fun k hk => (t3 k hk).elim (h2 k) fun h => ⟨Nat.le_trans hB h, fun hx => by have := hX k hx; omega⟩⟩, t4⟩
theorem duo_rtick (h : DuoR w B g X s) (hB : B ≤ w.heap.size) (hX : ∀ k, X k → k < w.heap.size) (x : Sch) (u : Bool) (hl : x.lo.length ≤ 1000000000000) (hh : x.hi.length ≤ 1000000000000) {N : Int} (hv : MvInv s N) (hN : N ≤ 4611686018427387904) :
    Calls Tryz.prog 11 #[.pointer (some ⟨g, 0, none⟩), .agg (schA x), .bool u] w fun e w' => ∃ v, e = .returned v ∧ ToldD w X (tickM s x u).2 v w' ∧ DuoR w' B g X (tickM s x u).1 ∧ Fr (· = g) w w' := by
  obtain ⟨I, h1, h2⟩ := h
  refine (rtick_any w I g s x u h1 hl hh ⟨hv.next.1, Int.le_trans hv.next.2 hN⟩ hv.since).mono ?_
  rintro e w' ⟨v, rfl, t1, ⟨I', t2, t3⟩, t4⟩
  exact ⟨v, rfl, ⟨I, t1, fun k hk => (h2 k hk).2⟩, ⟨I', t2, fun k hk => (t3 k hk).elim (h2 k) fun h => ⟨Nat.le_trans hB h, fun hx => by have := hX k hx; omega⟩⟩, t4⟩
theorem duo_answer (h : DuoM w B g X s) (hB : B ≤ w.heap.size) (hX : ∀ k, X k → k < w.heap.size) (tag : Int) {N : Int} (hv : MvInv s N) (hN : N ≤ 4611686018427387904) (a : AnT) (A : Option Addr) (c : Nat) {J : Nat → Prop} (hs : Sl w J A (a.bytes.map B8)) (hl : a.bytes.length ≤ 1000000000) :
    Calls Tryz.prog 13 #[.pointer (some ⟨g, 0, none⟩), .int .i64 tag, .agg (anA a A c)] w fun e w' => ∃ v, e = .returned v ∧ ToldV w 70 U8V (answerM s tag a.err a.bytes).2 v w' ∧ DuoM w' B g X (answerM s tag a.err a.bytes).1 ∧ Fr (· = g) w w' := by
  obtain ⟨I, h1, h2⟩ := h
  refine (manswer_any w I J g s tag h1 hv.ok ⟨hv.next.1, Int.le_trans hv.next.2 hN⟩ a A c hs hl).mono ?_
  rintro e w' ⟨v, rfl, t1, ⟨I', t2, t3⟩, t4⟩
  exact ⟨v, rfl, t1, ⟨I', t2, fun k hk => (t3 k hk).elim (h2 k) fun h => ⟨Nat.le_trans hB h, fun hx => by have := hX k hx; omega⟩⟩, t4⟩
theorem duo_ranswer (h : DuoR w B g X s) (hB : B ≤ w.heap.size) (hX : ∀ k, X k → k < w.heap.size) (tag : Int) {N : Int} (hv : MvInv s N) (hN : N ≤ 4611686018427387904) (a : AnT) (A : Option Addr) (c : Nat) {J : Nat → Prop} (hs : Sl w J A (a.bytes.map B8)) (hJ : ¬ J g) (hl : a.bytes.length ≤ 1000000000) :
    Calls Tryz.prog 14 #[.pointer (some ⟨g, 0, none⟩), .int .i64 tag, .agg (anA a A c)] w fun e w' => ∃ v, e = .returned v ∧ ToldD w X (answerM s tag a.err a.bytes).2 v w' ∧ DuoR w' B g X (answerM s tag a.err a.bytes).1 ∧ Fr (· = g) w w' := by
  obtain ⟨I, h1, h2⟩ := h
  refine (ranswer_any w I J g s tag h1 hv.ok ⟨hv.next.1, Int.le_trans hv.next.2 hN⟩ a A c hs hJ hl).mono ?_
  rintro e w' ⟨v, rfl, t1, ⟨I', t2, t3⟩, t4⟩
  exact ⟨v, rfl, ⟨I, t1, fun k hk => (h2 k hk).2⟩, ⟨I', t2, fun k hk => (t3 k hk).elim (h2 k) fun h => ⟨Nat.le_trans hB h, fun hx => by have := hX k hx; omega⟩⟩, t4⟩
end
/-- The rows of bytes that were told. -/
def RwAt (B : Nat) (t : Value) (w' : World) : Prop :=
  ∃ (m : Nat) (A : Nat → Option Addr) (N cp : Nat → Nat) (f : Nat → List UInt8) (Br : Option Addr) (cr : Nat), t = .slice Br m cr ∧ m ≤ 40 ∧ Own w' 39 1 Br m cr (hdrs m A N cp) ∧ RowsAt w' m A N cp f ∧ FarR m A ∧ (∀ j, j < m → N j ≤ 1000000000) ∧
    (∀ b, inA Br b → B ≤ b) ∧ (∀ b, InR m A b → B ≤ b)
theorem RwAt.fr {w w' : World} {B : Nat} {t : Value} {S : Nat → Prop} (h : RwAt B t w) (f : Fr S w w') (hS : ∀ k, S k → k < B) : RwAt B t w' := by
  obtain ⟨m, A, N, cp, f', Br, cr, e, hm, ho, hr, hf, hN, hB, hI⟩ := h
  exact ⟨m, A, N, cp, f', Br, cr, e, hm, ho.fr f (fun k hk h => by have := hS k h; have := hB k hk; omega), hr.fr f (fun k hk b hb h => by have := hS b h; have := hI b ⟨k, hk, hb⟩; omega), hf, hN, hB, hI⟩
def ext {α : Type} (F : Nat → α) (m : Nat) (v : α) : Nat → α := fun j => if j = m then v else F j
theorem ext_at {α : Type} (F : Nat → α) (m : Nat) (v : α) : ext F m v m = v := by simp [ext]
theorem ext_ne {α : Type} (F : Nat → α) {m j : Nat} (v : α) (h : j ≠ m) : ext F m v j = F j := by simp [ext, h]
section
variable {w : World} {m : Nat} {A : Nat → Option Addr} {N cp : Nat → Nat} {f : Nat → List UInt8}
theorem RowsAt.snoc (h : RowsAt w m A N cp f) {X : Option Addr} {n c : Nat} {bs : List UInt8} (hx : Own w 5 1 X n c (bs.map B8)) : RowsAt w (m + 1) (ext A m X) (ext N m n) (ext cp m c) (ext f m bs) := by
  intro k hk
  by_cases e : k = m
  · subst e; rw [ext_at, ext_at, ext_at, ext_at]; exact hx
  · rw [ext_ne _ _ e, ext_ne _ _ e, ext_ne _ _ e, ext_ne _ _ e]
    exact h k (by omega)
theorem FarR.snoc (hfar : FarR m A) {X : Option Addr} (hn : ∀ b, inA X b → ¬ InR m A b) : FarR (m + 1) (ext A m X) := by
  intro i j hi hj hne b
  by_cases e1 : i = m
  · subst e1
    rw [ext_at, ext_ne _ _ (fun h => hne h.symm)]
    exact fun h1 h2 => hn b h1 ⟨j, by omega, h2⟩
  · rw [ext_ne _ _ e1]
    by_cases e2 : j = m
    · subst e2
      rw [ext_at]
      exact fun h1 h2 => hn b h2 ⟨i, by omega, h1⟩
    · rw [ext_ne _ _ e2]
      exact hfar i j (by omega) (by omega) hne b
theorem InR.snoc {X : Option Addr} {b : Nat} (h : InR (m + 1) (ext A m X) b) : InR m A b ∨ inA X b := by
  obtain ⟨k, hk, h⟩ := h
  by_cases e : k = m
  · subst e; rw [ext_at] at h; exact .inr h
  · rw [ext_ne _ _ e] at h
    exact .inl ⟨k, by omega, h⟩
theorem hdrs_snoc (X : Option Addr) (n c : Nat) : hdrs (m + 1) (ext A m X) (ext N m n) (ext cp m c) = hdrs m A N cp ++ [.slice X n c] := by
  unfold hdrs
  rw [List.range_succ, List.map_append]
  congr 1
  · refine List.map_congr_left fun k hk => ?_
    have : k ≠ m := by have := List.mem_range.1 hk; omega
    simp [hdr, ext, this]
  · simp [hdr, ext]
end

theorem own_apart {w : World} {E E' : TypeId} {s s' n n' c c' : Nat} {A A' : Option Addr} {cs cs' : List Value} (h : Own w E s A n c cs) (h' : Own w E' s' A' n' c' cs') (hne : E' ≠ E) : ∀ j, inA A' j → ¬ inA A j := by
  intro j hj hh
  rcases h'.2 with ⟨rfl, _⟩ | ⟨g, cur, rfl, hbk, _⟩
  · exact inA_none _ hj
  · rw [(inA_some _ _).1 hj] at hh
    exact h.ne_ hbk hne hh
/-- One more row. -/
theorem RwAt.row {v v4 : World} {B m : Nat} {A : Nat → Option Addr} {N cp : Nat → Nat} {f : Nat → List UInt8} {Br B' X : Option Addr} {cr c' n c : Nat} {bs : List UInt8} {ob : Obj}
    (hm : m < 40) (ho : Own v 39 1 Br m cr (hdrs m A N cp)) (hrw : RowsAt v m A N cp f) (hfar : FarR m A) (hNs : ∀ j, j < m → N j ≤ 1000000000) (hBr : ∀ b, inA Br b → B ≤ b) (hIn : ∀ b, InR m A b → B ≤ b)
    (o : Own v 5 1 X n c (bs.map B8)) (hn : n ≤ 1000000000) (hX : ∀ b, inA X b → B ≤ b) (hXr : ∀ b, inA X b → ¬ InR m A b) (hBv : B ≤ v.heap.size)
    (ho4 : Own v4 39 1 B' (m + 1) c' (hdrs m A N cp ++ [.slice X n c])) (hf4 : Fr (inA Br) (v.alloc ob) v4) (hin4 : ∀ k, inA B' k → inA Br k ∨ k = (v.alloc ob).heap.size) : RwAt B (.slice B' (m + 1) c') v4 := by
  have qa : Nw v (v.alloc ob) := (Fr.refl _ v).alloc _
  refine ⟨m + 1, ext A m X, ext N m n, ext cp m c, ext f m bs, B', c', rfl, by omega, by rw [hdrs_snoc]; exact ho4, RowsAt.snoc ((hrw.nw qa).fr hf4 fun k hk b hb h => own_apart ho (hrw k hk) (by decide) b hb h) ((o.fr qa (fun _ _ h => h)).fr hf4 fun b hb h => own_apart ho o (by decide) b hb h), hfar.snoc hXr, ?_, ?_, ?_⟩
  · intro j hj
    by_cases e : j = m
    · subst e; rw [ext_at]; exact hn
    · rw [ext_ne _ _ e]; exact hNs j (by omega)
  · intro b hb
    rcases hin4 b hb with h | h
    · exact hBr b h
    · rw [h, World.size_alloc]; omega
  · intro b hb
    rcases InR.snoc hb with h | h
    · exact hIn b h
    · exact hX b h
end Go.Proofs.YtfglibkffcogcaaGreat
