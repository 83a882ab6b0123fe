/- Lemmas of the walks: WkA, JwA, JwB. (Laid together by shake.py.) -/
import Derived.Test.YtippdjaakcgeoaaGreatEa02
import Derived.Test.YtippdjaakcgeoaaGreatEa03
import Derived.Test.YtippdjaakcgeoaaGreatEa04
import Derived.Test.YtippdjaakcgeoaaGreatEa15
set_option linter.unusedVariables false
set_option linter.unusedSimpArgs false
set_option maxRecDepth 100000
set_option maxHeartbeats 16000000
namespace Go.Proofs.YtippdjaakcgeoaaGreat
open Go Go.RowKit
abbrev W8 (bs : List UInt8) : Wr := ⟨true, bs⟩
theorem zil {w : World} {F : Nat → Prop} {b : Nat} {t : TypeId} {cs : Array Value} (hb : Blk w b t cs) (hF : ¬ F b) : zbN w (· = b) F := fun k hk => by subst hk; exact ⟨hb.lt, hF⟩
theorem zdF (w : World) (F : Nat → Prop) (g : Nat) (bs : List UInt8) (h : IsWr w F g (W8 bs)) (b n : Nat) (ns : List Int) (cs : Array Value) (hb : Blk w b 3 cs) (hF : ¬ F b) (hcs : cs.toList = ns.map I64) (hn : ns.length = n) (hn2 : n ≤ 1000) (hr : ∀ x ∈ ns, zcf x) (hsz : bs.length ≤ 700000000000) :
  Calls Tryz.prog 69 #[.pointer (some ⟨g, 0, none⟩), .slice (some ⟨b, 0, none⟩) n n] w fun e w' => e = .returned (.pointer (some ⟨g, 0, none⟩)) ∧ WrTo w F g (W8 (bs ++ zah ns)) w' := by
 subst hn
 have hs := hb.sl 0 cs.size
 rw [List.drop_zero, List.take_of_length_le (by simp), hcs] at hs
 refine (zfT w F (· = b) g ⟨true, bs⟩ h (some ⟨b, 0, none⟩) ns.length ns hs (zil hb hF) (by omega) (by show bs.length ≤ _; omega)).mono ?_
 rintro e w' ⟨rfl, h2⟩
 rw [zeb _ _ hr] at h2
 exact ⟨rfl, h2⟩
theorem zlG (w : World) (F : Nat → Prop) (g : Nat) (bs : List UInt8) (h : IsWr w F g (W8 bs)) (b n : Nat) (ns : List Bool) (cs : Array Value) (hb : Blk w b 4 cs) (hF : ¬ F b) (hcs : cs.toList = ns.map Value.bool) (hn : ns.length = n) (hn2 : n ≤ 1000) (hsz : bs.length ≤ 700000000000) :
  Calls Tryz.prog 142 #[.pointer (some ⟨g, 0, none⟩), .slice (some ⟨b, 0, none⟩) n n] w fun e w' => e = .returned (.pointer (some ⟨g, 0, none⟩)) ∧ WrTo w F g (W8 (bs ++ (ns.map zcl).flatten)) w' := by
 subst hn
 have hs := hb.sl 0 cs.size
 rw [List.drop_zero, List.take_of_length_le (by simp), hcs] at hs
 refine (zku w F (· = b) g ⟨true, bs⟩ h (some ⟨b, 0, none⟩) ns.length ns hs (zil hb hF) (by omega) (by show bs.length ≤ _; omega)).mono ?_
 rintro e w' ⟨rfl, h2⟩
 have e1 : ∀ (ns : List Bool) (bs : List UInt8), zb9 ns ⟨true, bs⟩ = ⟨true, bs ++ (ns.map zcl).flatten⟩ := by
  intro ns
  induction ns with
  | nil => intro bs; simp [zb9]
  | cons m ns ih =>
   intro bs
   have e2 : zb9 (m :: ns) ⟨true, bs⟩ = zb9 ns ⟨true, bs ++ zcl m⟩ := rfl
   rw [e2, ih]
   simp
 rw [e1] at h2
 exact ⟨rfl, h2⟩
theorem zkA (w : World) (F F2 : Nat → Prop) (g : Nat) (bs : List UInt8) (h : IsWr w F g (W8 bs)) (b : Nat) (A : Option Addr) (c : Nat) (s : List UInt8) (hb : Blk w b 48 #[.slice A s.length c]) (hF : ¬ F b) (hs : Sl w F2 A (s.map B8)) (hF2 : zbN w F2 F) (hs2 : s.length ≤ 1000000) (hc : s.length ≤ c) (hcm : c ≤ maxLen) (hsz : bs.length ≤ 700000000000) :
  Calls Tryz.prog 145 #[.pointer (some ⟨g, 0, none⟩), .slice (some ⟨b, 0, none⟩) 1 1] w fun e w' => e = .returned (.pointer (some ⟨g, 0, none⟩)) ∧ WrTo w F g (W8 (bs ++ rowB s)) w' := by
 have hsl : Sl w (fun k => F2 k ∨ k = b) (some ⟨b, 0, none⟩) [.slice A s.length c] := (hb.sl 0 1).mono (fun k hk _ => .inr hk)
 have hrs : zfE w (fun k => F2 k ∨ k = b) [.slice A s.length c] [s] := ⟨rfl, fun k hk => by
  have hk0 : k = 0 := by simpa using hk
  subst hk0
  exact ⟨_, rfl, ⟨A, c, rfl, hc, hcm, hs.mono (fun k hk _ => .inl hk)⟩⟩⟩
 have hap : zbN w (fun k => F2 k ∨ k = b) F := fun k hk => by
  rcases hk with hk | rfl
  ·exact hF2 k hk
  ·exact ⟨hb.lt, hF⟩
 refine (zlU w F _ g ⟨true, bs⟩ h (some ⟨b, 0, none⟩) 1 [.slice A s.length c] [s] hsl hrs hap (by show bs.length + 9 * 1 + zcn [s] ≤ _; simp [zcn]; omega)).mono ?_
 rintro e w' ⟨rfl, h2⟩
 have e1 : zb0 [s] ⟨true, bs⟩ = ⟨true, bs ++ rowB s⟩ := by simp [zb0, zf1, rowB]
 rw [e1] at h2
 exact ⟨rfl, h2⟩
structure zhU where
 k : Nat
 c : Nat
 t : TypeId
 cs : Array Value
 bs : List UInt8
def zhV : List Nat → Bool
 | [] => true
 | a :: l => l.all (· != a) && zhV l
theorem zlk {l : List Nat} (h : zhV l = true) : ∀ (i j a b : Nat), l[i]? = some a → l[j]? = some b → i ≠ j → a ≠ b := by
 induction l with
 | nil => intro i j a b h1; simp at h1
 | cons x l ih =>
  unfold zhV at h
  rw [Bool.and_eq_true, List.all_eq_true] at h
  intro i j a b h1 h2 hij
  cases i with
  | zero =>
   cases j with
   | zero => exact absurd rfl hij
   | succ j =>
    simp at h1 h2
    subst h1
    have := h.1 b (List.mem_of_getElem? h2)
    rw [bne_iff_ne] at this
    exact Ne.symm this
  | succ i =>
   cases j with
   | zero =>
    simp at h1 h2
    subst h2
    have := h.1 a (List.mem_of_getElem? h1)
    rwa [bne_iff_ne] at this
   | succ j => exact ih h.2 i j a b (by simpa using h1) (by simpa using h2) (by omega)
def zbp (cl : List zhU) : List UInt8 := (cl.map (·.bs)).flatten
def WrC (W : World) (F : Nat → Prop) (g : Nat) (bs0 : List UInt8) (cl : List zhU) (L : Nat → Bool) (B : Bk) (w : World) : Prop :=
 ∃ n F', n ≤ cl.length ∧ (∀ i d, cl[i]? = some d → L d.c = decide (i < n)) ∧ IsWr w F' g (W8 (bs0 ++ zbp (cl.take n))) ∧ Fr F W w ∧ (∀ k, F' k → F k ∨ W.heap.size ≤ k) ∧ ∀ d ∈ cl, L d.k = true → Blk w (B d.k).1 d.t d.cs ∧ ¬ F' (B d.k).1
section
variable {W w w' : World} {F : Nat → Prop} {g : Nat} {bs0 : List UInt8} {cl : List zhU} {L : Nat → Bool} {B : Bk}
theorem WrC.fr (h : WrC W F g bs0 cl L B w) : Fr F W w := by
 obtain ⟨_, _, _, _, _, h, _⟩ := h
 exact h
theorem WrC.start (h : IsWr W F g (W8 bs0)) (B : Bk) : WrC W F g bs0 cl (fun _ => false) B W.drew :=
 ⟨0, F, Nat.zero_le _, fun i d _ => by simp, by simpa [zbp] using h.fr ((Fr.refl (fun _ => False) W).drew) (fun _ _ h => h), (Fr.refl _ W).drew, fun k hk => .inl hk, fun d _ h => by cases h⟩
theorem WrC.keep (h : WrC W F g bs0 cl L B w) (j : Nat) (hj : cl.all (fun d => d.k != j && d.c != j) = true) : WrC W F g bs0 cl (onL L j) B w := by
 obtain ⟨n, F', h1, h2, h3, h4, h5, h6⟩ := h
 have hk : ∀ d ∈ cl, onL L j d.k = L d.k ∧ onL L j d.c = L d.c := fun d hd => by
  have := List.all_eq_true.1 hj d hd
  simp only [Bool.and_eq_true, bne_iff_ne, ne_eq] at this
  exact ⟨if_neg this.1, if_neg this.2⟩
 refine ⟨n, F', h1, fun i d hd => ?_, h3, h4, h5, fun d hd hl => h6 d hd ?_⟩
 ·rw [(hk d (List.mem_of_getElem? hd)).2]
  exact h2 i d hd
 ·rw [← (hk d hd).1]
  exact hl
theorem WrC.make (h : WrC W F g bs0 cl L B w) (k : Nat) (t : TypeId) (cs : Array Value) (hu : ∀ d ∈ cl, d.k = k → d.t = t ∧ d.cs = cs) (hc : cl.all (fun d => d.c != k) = true) : WrC W F g bs0 cl (onL L k) (updB B k (w.heap.size, none)) (w.alloc (.cells cs t)) := by
 obtain ⟨n, F', h1, h2, h3, h4, h5, h6⟩ := h
 refine ⟨n, F', h1, fun i d hd => ?_, h3.alloc _, h4.alloc _, h5, fun d hd hl => ?_⟩
 ·have := List.all_eq_true.1 hc d (List.mem_of_getElem? hd)
  rw [bne_iff_ne] at this
  rw [show onL L k d.c = L d.c from if_neg this]
  exact h2 i d hd
 ·by_cases hk : d.k = k
  ·obtain ⟨e1, e2⟩ := hu d hd hk
   rw [show updB B k (w.heap.size, none) d.k = (w.heap.size, none) from if_pos hk, e1, e2]
   exact ⟨Blk.new w t cs, fun hF => by have := h3.bound _ hF; omega⟩
  ·rw [show onL L k d.k = L d.k from if_neg hk] at hl
   rw [show updB B k (w.heap.size, none) d.k = B d.k from if_neg hk]
   obtain ⟨g1, g2⟩ := h6 d hd hl
   exact ⟨g1.alloc _, g2⟩
theorem WrC.call (h : WrC W F g bs0 cl L B w) (m : Nat) (d : zhU) (hd : cl[m]? = some d) (hL : L d.c = false) (hk : L d.k = true) (hp : m = 0 ∨ ∃ m' d', m = m' + 1 ∧ cl[m']? = some d' ∧ L d'.c = true) (hu : cl.all (fun e => e.k != d.c) = true) (hu3 : zhV (cl.map (·.c)) = true) :
  ∃ F', IsWr w F' g (W8 (bs0 ++ zbp (cl.take m))) ∧ Blk w (B d.k).1 d.t d.cs ∧ ¬ F' (B d.k).1 ∧ (∀ k, F' k → F k ∨ W.heap.size ≤ k) ∧ ∀ w', WrTo w F' g (W8 ((bs0 ++ zbp (cl.take m)) ++ d.bs)) w' → WrC W F g bs0 cl (onL L d.c) B w' := by
 have hu2 : ∀ i e, cl[i]? = some e → i ≠ m → e.c ≠ d.c := fun i e he hi => zlk hu3 i m e.c d.c (by simp [he]) (by simp [hd]) hi
 obtain ⟨n, F', h1, h2, h3, h4, h5, h6⟩ := h
 have hml : m < cl.length := (List.getElem?_eq_some_iff.1 hd).1
 have e1 := h2 m d hd
 rw [hL] at e1
 have e2 : ¬ m < n := of_decide_eq_false e1.symm
 have e3 : n = m := by
  rcases hp with rfl | ⟨m', d', rfl, hd', hl'⟩
  ·omega
  ·have := h2 m' d' hd'
   rw [hl'] at this
   have := of_decide_eq_true this.symm
   omega
 subst e3
 obtain ⟨g1, g2⟩ := h6 d (List.mem_of_getElem? hd) hk
 refine ⟨F', h3, g1, g2, h5, fun w' ht => ?_⟩
 obtain ⟨F'', t1, t2, t3⟩ := ht
 have hsz := h4.size
 refine ⟨n + 1, F'', by omega, fun i e he => ?_, ?_, h4.trans t2 h5, fun k hk => (t3 k hk).elim (h5 k) (fun h => .inr (by omega)), fun e he hl => ?_⟩
 ·by_cases hi : i = n
  ·subst hi
   rw [hd] at he
   injection he with he
   subst he
   rw [show onL L d.c d.c = true from if_pos rfl]
   exact (decide_eq_true (by omega)).symm
  ·rw [show onL L d.c e.c = L e.c from if_neg (hu2 i e he hi), h2 i e he]
   by_cases h : i < n
   ·rw [decide_eq_true h, decide_eq_true (by omega : i < n + 1)]
   ·rw [decide_eq_false h, decide_eq_false (by omega : ¬ i < n + 1)]
 ·have : zbp (cl.take (n + 1)) = zbp (cl.take n) ++ d.bs := by
   unfold zbp
   rw [List.take_add_one, hd]
   simp
  rw [this, ← List.append_assoc]
  exact t1
 ·have hne := List.all_eq_true.1 hu e he
  rw [bne_iff_ne] at hne
  rw [show onL L d.c e.k = L e.k from if_neg hne] at hl
  obtain ⟨g3, g4⟩ := h6 e he hl
  refine ⟨g3.fr t2 g4, fun hF => (t3 _ hF).elim g4 (fun h => ?_)⟩
  have := g3.lt
  omega
theorem WrC.done (h : WrC W F g bs0 cl L B w) (hL : ∀ d ∈ cl, L d.c = true) : WrTo W F g (W8 (bs0 ++ zbp cl)) w := by
 obtain ⟨n, F', h1, h2, h3, h4, h5, h6⟩ := h
 have hn : n = cl.length := by
  rcases Nat.lt_or_ge n cl.length with hlt | hge
  ·have h7 := h2 n cl[n] (List.getElem?_eq_getElem hlt)
   rw [hL _ (List.getElem_mem hlt)] at h7
   have := of_decide_eq_true h7.symm
   omega
  ·omega
 rw [hn, List.take_length] at h3
 exact ⟨F', h3, h4, h5⟩
end
open Go Go.RowKit
theorem WrTo.after {w w1 w2 : World} {F F1 : Nat → Prop} {g : Nat} {s2 : Wr} (hf : Fr F w w1) (hn : ∀ k, F1 k → F k ∨ w.heap.size ≤ k) (h : WrTo w1 F1 g s2 w2) : WrTo w F g s2 w2 := by
 obtain ⟨F2, h1, h2, h3⟩ := h
 have hs := hf.size
 exact ⟨F2, h1, hf.trans h2 hn, fun k hk => (h3 k hk).elim (hn k) (fun h => .inr (by omega))⟩
theorem zdj (n : Nat) (h : n ≤ 1073741824) : zcf (n : Int) := ⟨by omega, by unfold topN; omega⟩
theorem zbI (n : Int) (h0 : 0 ≤ n) (h : n ≤ 1073741824) : zcf n := ⟨h0, by unfold topN; omega⟩
theorem zbZ (l : List Int) : (zah l).length ≤ 9 * l.length := by
 induction l with
 | nil => simp [zah]
 | cons n l ih =>
  have e : zah (n :: l) = enc n.toNat ++ zah l := rfl
  have := zaR n.toNat
  rw [e, List.length_append, List.length_cons]
  omega
theorem zbN.fr {w w' : World} {F2 F F' S : Nat → Prop} (h : zbN w F2 F) (hf : Fr S w w') (hn : ∀ k, F' k → F k ∨ w.heap.size ≤ k) : zbN w' F2 F' := h.step hf.size hn
def NdsR (l : List Int) : Prop := ∀ n ∈ l, zcf n
theorem zcT (l : List Int) : (zbe l).length ≤ 9 * l.length + 9 := by
 have := zaR l.length
 have := zbZ l
 unfold zbe
 rw [List.length_append]
 omega
theorem ziw (w : World) (F F2 : Nat → Prop) (g : Nat) (bs : List UInt8) (h : IsWr w F g (W8 bs)) (A : Option Addr) (c : Nat) (l : List Int) (hs : Sl w F2 A (zac l)) (hap : zbN w F2 F) (hr : ∀ n ∈ l, zcf n) (hl : l.length ≤ 1000000) (hsz : bs.length ≤ 600000000000) :
  Calls Tryz.prog 224 #[.pointer (some ⟨g, 0, none⟩), .slice A l.length c] w fun e w' => e = .returned (.tuple #[]) ∧ WrTo w F g (W8 (bs ++ zbe l)) w' := by
 obtain ⟨n, hn⟩ : ∃ n, l.length = n := ⟨_, rfl⟩
 obtain ⟨W1, hW1⟩ : ∃ W1, W1 = w.alloc (.cells #[I64 n] 3) := ⟨_, rfl⟩
 have q1 : Nw w W1 := by rw [hW1]; exact (Fr.refl (fun _ => False) w).alloc _
 have b1 : Blk W1 w.heap.size 3 #[I64 n] := by rw [hW1]; exact Blk.new w _ _
 have h1 := h.fr q1 (fun _ _ h => h)
 have hF1 : ¬ F w.heap.size := fun hF => by have := h.bound _ hF; omega
 have hcon := zdF W1 F g bs h1 w.heap.size 1 [(n : Int)] #[I64 n] b1 hF1 rfl rfl (by omega) (by intro x hx; rw [List.mem_singleton.1 hx]; exact zdj _ (by omega)) (by omega)
 have e1 : zah [(n : Int)] = enc n := by simp [zah]
 rw [e1] at hcon
 have hcon2 : ∀ w2, WrTo W1 F g (W8 (bs ++ enc n)) w2 → Calls Tryz.prog 69 #[.pointer (some ⟨g, 0, none⟩), .slice A n c] w2 fun e w' => e = .returned (.pointer (some ⟨g, 0, none⟩)) ∧ WrTo w F g (W8 (bs ++ zbe l)) w' := by
  intro w2 ht
  obtain ⟨F', t1, t2, t3⟩ := ht
  have f02 : Fr F w w2 := (Nw.on q1).tr t2
  have n02 : ∀ k, F' k → F k ∨ w.heap.size ≤ k := fun k hk => (t3 k hk).elim .inl (fun h => .inr (Nat.le_trans q1.size h))
  have he := zaR n
  have hc := zfT w2 F' F2 g (W8 (bs ++ enc n)) t1 A c l (hs.fr f02 hap.no) (hap.fr f02 n02) (by omega) (by show (bs ++ enc n).length ≤ _; rw [List.length_append]; omega)
  rw [hn, zeb _ _ hr] at hc
  refine hc.mono ?_
  rintro e w' ⟨rfl, t⟩
  refine ⟨rfl, WrTo.after f02 n02 ?_⟩
  have e2 : (⟨(W8 (bs ++ enc n)).ok, (W8 (bs ++ enc n)).bs ++ zah l⟩ : Wr) = W8 (bs ++ zbe l) := by
   show (⟨true, (bs ++ enc n) ++ zah l⟩ : Wr) = _
   rw [List.append_assoc, ← hn]
   rfl
  rw [← e2]
  exact t
 rw [hn]
 have HW1 := Lib.hid hW1
 have HN := Lib.hid hn
 clear hW1 hn
 go_enter Tryz.func224, Tryz.ntmps224
 go_wp2_with fail
 rw [← HW1.out]
 refine hcon.mono ?_
 rintro e w2 ⟨rfl, t⟩
 have hc2 := hcon2 w2 t
 go_wp2_with fail
 refine hc2.mono ?_
 rintro e w3 ⟨rfl, t3⟩
 go_wp2_with fail
 go_end0
 exact ⟨rfl, t3⟩
def cfgM (c : Cfg) : Nat := c.v.length + c.o.length + c.l.length + c.w.length
theorem zjk (c : Cfg) : (cfgB c).length ≤ 9 * cfgM c + 36 := by
 have h1 := zcT c.v
 have h2 := zcT c.o
 have h3 := zcT c.l
 have h4 := zcT c.w
 unfold cfgB cfgM
 simp only [List.length_append]
 omega
structure CfgR (c : Cfg) : Prop where
 v : NdsR c.v
 o : NdsR c.o
 l : NdsR c.l
 w : NdsR c.w
def cfg4 (c : Cfg) : List (List Int) := [c.v, c.o, c.l, c.w]
def JcRel (w : World) (F : Nat → Prop) (g : Nat) (bs : List UInt8) (l4 : List (List Int)) (i : Value) (wr : World) : Prop :=
 ∃ k : Nat, k ≤ 4 ∧ i = .int .i64 k ∧ WrTo w F g (W8 (bs ++ ((l4.take k).map zbe).flatten)) wr
theorem zfV (w : World) (F F2 : Nat → Prop) (g : Nat) (bs : List UInt8) (h : IsWr w F g (W8 bs)) (x : CfgM) (hx : zaD w F2 x) (hz : zaY x) (hap : zbN w F2 F) (hr : CfgR x.x) (hsz : bs.length ≤ 500000000000) :
  Calls Tryz.prog 204 #[.pointer (some ⟨g, 0, none⟩), .agg (cfgA x)] w fun e w' => e = .returned (.tuple #[]) ∧ WrTo w F g (W8 (bs ++ cfgB x.x)) w' := by
 obtain ⟨X, hX⟩ : ∃ X, X = w.heap.size := ⟨_, rfl⟩
 obtain ⟨Y, hY⟩ : ∃ Y, Y = w.heap.size + 1 := ⟨_, rfl⟩
 obtain ⟨W0, hW0⟩ : ∃ W, W = w.alloc (.cells (cfgA x) 45) := ⟨_, rfl⟩
 have p0 : Nw w W0 := by rw [hW0]; exact (Fr.refl (fun _ => False) _).alloc _
 have x0 : Blk W0 X 45 (cfgA x) := by rw [hW0, hX]; exact Blk.new _ _ _
 have hz0 : W0.heap.size = Y := by rw [hW0, hY]; simp
 have cv : W0.cell? ⟨X, 0, none⟩ = some (.slice x.v.a x.v.l.length x.v.c) := by simpa using x0.cell 0
 have co : W0.cell? ⟨X, 1, none⟩ = some (.slice x.o.a x.o.l.length x.o.c) := by simpa using x0.cell 1
 have cl : W0.cell? ⟨X, 2, none⟩ = some (.slice x.l.a x.l.l.length x.l.c) := by simpa using x0.cell 2
 have cw : W0.cell? ⟨X, 3, none⟩ = some (.slice x.w.a x.w.l.length x.w.c) := by simpa using x0.cell 3
 obtain ⟨W1, hW1⟩ : ∃ W, W = W0.alloc (.cells (cfgA x) 41) := ⟨_, rfl⟩
 have p1 : Nw W0 W1 := by rw [hW1]; exact (Fr.refl (fun _ => False) _).alloc _
 have y1 : Blk W1 Y 41 (cfgA x) := by rw [hW1, ← hz0]; exact Blk.new _ _ _
 have Q1 : Nw w W1 := p0.tr p1
 have h1 := h.fr Q1 (fun _ _ h => h)
 have hYF : ¬ F Y := fun hF => by have := h.bound _ hF; omega
 have hx1 := hx.nw Q1
 have hap1 : zbN W1 F2 F := hap.fr Q1 (fun _ h => .inl h)
 have hrow : ∀ k, k < 4 → ∃ s : Ls Int, ((cfgA x) : Array Value)[k]? = some (.slice s.a s.l.length s.c) ∧ Sl W1 F2 s.a (zac s.l) ∧ NdsR s.l ∧ s.l.length ≤ 1000000 ∧ (cfg4 x.x)[k]? = some s.l := by
  intro k hk
  match k, hk with
  | 0, _ => exact ⟨x.v, rfl, hx1.v.sl, hr.v, hz.v, rfl⟩
  | 1, _ => exact ⟨x.o, rfl, hx1.o.sl, hr.o, hz.o, rfl⟩
  | 2, _ => exact ⟨x.l, rfl, hx1.l.sl, hr.l, hz.l, rfl⟩
  | 3, _ => exact ⟨x.w, rfl, hx1.w.sl, hr.w, hz.w, rfl⟩
 have hall : ((cfg4 x.x).map zbe).flatten = cfgB x.x := by simp [cfg4, cfgB]
 have hmost : ∀ k, (((cfg4 x.x).take k).map zbe).flatten.length ≤ 100000000 := by
  intro k
  have h1 := zjk x.x
  have h2 : cfgM x.x ≤ 4000000 := by have h1 := hz.v; have h2 := hz.o; have h3 := hz.l; have h4 := hz.w; show x.v.l.length + x.o.l.length + x.l.l.length + x.w.l.length ≤ _; omega
  have h3 : (((cfg4 x.x).take k).map zbe).flatten.length ≤ (cfgB x.x).length := by
   rw [← hall]
   conv => rhs; rw [← List.take_append_drop k (cfg4 x.x), List.map_append, List.flatten_append, List.length_append]
   omega
  omega
 obtain ⟨l4, hl4⟩ : ∃ l4, cfg4 x.x = l4 := ⟨_, rfl⟩
 rw [hl4] at hrow hall hmost
 have h4 : l4.length = 4 := by rw [← hl4]; rfl
 have HALL := Lib.hid hall
 have HROW := Lib.hid hrow
 have HW0 := Lib.hid hW0
 have HW1 := Lib.hid hW1
 have HX := Lib.hid hX
 have HZ0 := Lib.hid hz0
 clear hW0 hW1 hX hY hz0 hrow hall hl4
 go_enter Tryz.func204, Tryz.ntmps204
 go_upto_region 1 with (fail)
 rw [← HX.out, ← HW0.out]
 go_wp2_with fail
 rw [← HW1.out, HZ0.out]
 have hj0 : WrTo W1 F g (W8 (bs ++ ((l4.take 0).map zbe).flatten)) W1 := ⟨F, by simpa using h1, Fr.refl _ _, fun k hk => .inl hk⟩
 clear h1 cv co cl cw x0
 go_loopw [16] (fun i wr => JcRel W1 F g bs l4 i wr) (fun i _ => 4 - (intOf i).toNat)
 case atStart => exact ⟨0, by omega, rfl, hj0⟩
 case round =>
  clear hj0
  obtain ⟨k, hk, rfl, FC, hC, fC, nC⟩ := hrel
  have yr := y1.fr fC hYF
  by_cases hlt : k < 4
  ·obtain ⟨s, hs1, hs2, hs3, hs4, hs5⟩ := HROW.out k hlt
   have ck : wr.cell? ⟨Y, k, none⟩ = some (.slice s.a s.l.length s.c) := (yr.cell k).trans hs1
   have hcon := ziw wr FC F2 g _ hC s.a s.c s.l (hs2.fr fC hap1.no) (hap1.fr fC nC) hs3 hs4 (by have := hmost k; rw [List.length_append]; omega)
   have hi0 : (k : Int) < 4 := by omega
   have HS := Lib.hid (And.intro hs1 hs5)
   clear hs1 hs5 yr
   go_wp2_with fail
   refine hcon.mono ?_
   rintro e w2 ⟨rfl, t⟩
   go_wp2_with fail
   go_roundw
   case rel =>
    obtain ⟨hs1, hs5⟩ := HS.out
    have hkl : k < l4.length := by omega
    have e5 : l4[k] = s.l := by rw [List.getElem?_eq_getElem hkl] at hs5; injection hs5
    refine ⟨k + 1, by omega, by go_num, WrTo.after fC nC ?_⟩
    have e : bs ++ ((l4.take (k + 1)).map zbe).flatten = bs ++ ((l4.take k).map zbe).flatten ++ zbe s.l := by
     rw [List.take_succ_eq_append_getElem hkl, e5, List.map_append, List.flatten_append]
     simp
    rw [e]
    exact t
   case measure => simp [intOf]; omega
  ·obtain rfl : k = 4 := by omega
   go_wp2_with fail
   go_end0
   rw [List.take_of_length_le (by omega), HALL.out] at hC
   exact ⟨rfl, WrTo.after (Nw.on Q1) (fun k hk => .inl hk) ⟨FC, hC, fC, nC⟩⟩
open Go Go.RowKit
theorem zfG {c : Cfg} (h : zby c = true) : CfgR c := by
 obtain ⟨h1, h2, h3, h4⟩ := zdO h
 have hh : ∀ l, zaq l = true → NdsR l := fun l hl n hn => by have := zda hl n hn; exact zbI n this.1 (by omega)
 exact ⟨hh _ h1, hh _ h2, hh _ h3, hh _ h4⟩
theorem zeL {c : Cfg} (h : zby c = true) : (cfgB c).length ≤ 216 := by
 obtain ⟨h1, h2, h3, h4⟩ := zdO h
 have := zjk c
 have := zbq h1
 have := zbq h2
 have := zbq h3
 have := zbq h4
 unfold cfgM at *
 omega
theorem zeW {c : CfgM} (h : zby c.x = true) : zaY c := by
 obtain ⟨h1, h2, h3, h4⟩ := zdO h
 have h1 : c.v.l.length ≤ 5 := zbq h1
 have h2 : c.o.l.length ≤ 5 := zbq h2
 have h3 : c.l.l.length ≤ 5 := zbq h3
 have h4 : c.w.l.length ≤ 5 := zbq h4
 exact ⟨by omega, by omega, by omega, by omega⟩
theorem zdo (s : List UInt8) : (rowB s).length ≤ 9 + s.length := by
 have := zaR s.length
 unfold rowB
 simp only [List.length_append]
 omega
theorem zje {e : Ent} (h : zbm e = true) : (entB e).length ≤ 131400 := by
 obtain ⟨_, _, h3, h4⟩ := zeV h
 have := zeL h4
 have := zdo e.cmd
 have := zaR e.term.toNat
 have := zaR e.kind.toNat
 unfold entB
 simp only [List.length_append]
 omega
theorem zeY (l : List Ent) (h : ∀ e ∈ l, zbm e = true) : (zaX l).length ≤ 131400 * l.length := by
 induction l with
 | nil => simp [zaX]
 | cons e l ih =>
  have h1 := zje (h e (by simp))
  have h2 := ih (fun x hx => h x (by simp [hx]))
  have e1 : zaX (e :: l) = entB e ++ zaX l := rfl
  rw [e1, List.length_append, List.length_cons]
  omega
theorem zh4 {b : Bas} (h : zbi b = true) : (basB b).length ≤ 300 := by
 obtain ⟨_, _, h3⟩ := zef h
 have := zeL h3
 have := zaR b.index.toNat
 have := zaR b.term.toNat
 unfold basB
 simp only [List.length_append]
 omega
theorem zgF (l : List EntM) (k : Nat) (h : k < l.length) : zaX ((l.take (k + 1)).map EntM.x) = zaX ((l.take k).map EntM.x) ++ entB (l[k]).x := by
 unfold zaX
 rw [List.take_succ_eq_append_getElem h, List.map_append, List.map_append, List.flatten_append]
 simp
theorem zjs (a b : Int) : zah [a, b] = enc a.toNat ++ enc b.toNat := by simp [zah]
theorem zh1 (w : World) (F F2 : Nat → Prop) (g : Nat) (bs : List UInt8) (h : IsWr w F g (W8 bs)) (x : BasM) (hx : zaD w F2 x.cfg) (hz : zaY x.cfg) (hap : zbN w F2 F) (hok : zbi x.x = true) (hsz : bs.length ≤ 400000000000) :
  Calls Tryz.prog 143 #[.pointer (some ⟨g, 0, none⟩), .agg (basA x)] w fun e w' => e = .returned (.pointer (some ⟨g, 0, none⟩)) ∧ WrTo w F g (W8 (bs ++ basB x.x)) w' := by
 obtain ⟨hi, ht, hc⟩ := zef hok
 have hi : 0 ≤ x.index ∧ x.index ≤ 1073741824 := hi
 have ht : 0 ≤ x.term ∧ x.term ≤ 1073741824 := ht
 obtain ⟨X, hX⟩ : ∃ X, X = w.heap.size := ⟨_, rfl⟩
 obtain ⟨Y, hY⟩ : ∃ Y, Y = w.heap.size + 1 := ⟨_, rfl⟩
 obtain ⟨W0, hW0⟩ : ∃ W, W = w.alloc (.cells (basA x) 47) := ⟨_, rfl⟩
 have p0 : Nw w W0 := by rw [hW0]; exact (Fr.refl (fun _ => False) _).alloc _
 have x0 : Blk W0 X 47 (basA x) := by rw [hW0, hX]; exact Blk.new _ _ _
 have hz0 : W0.heap.size = Y := by rw [hW0, hY]; simp
 have c0 : W0.cell? ⟨X, 0, none⟩ = some (I64 x.index) := by simpa using x0.cell 0
 have c1 : W0.cell? ⟨X, 1, none⟩ = some (I64 x.term) := by simpa using x0.cell 1
 obtain ⟨W1, hW1⟩ : ∃ W, W = W0.alloc (.cells #[I64 x.index, I64 x.term] 3) := ⟨_, rfl⟩
 have p1 : Nw W0 W1 := by rw [hW1]; exact (Fr.refl (fun _ => False) _).alloc _
 have y1 : Blk W1 Y 3 #[I64 x.index, I64 x.term] := by rw [hW1, ← hz0]; exact Blk.new _ _ _
 have x1 := x0.fr p1 (fun h => h)
 have Q1 : Nw w W1 := p0.tr p1
 have h1 := h.fr Q1 (fun _ _ h => h)
 have hXF : ¬ F X := fun hF => by have := h.bound _ hF; omega
 have hYF : ¬ F Y := fun hF => by have := h.bound _ hF; omega
 have hcon := zdF W1 F g bs h1 Y 2 [x.index, x.term] #[I64 x.index, I64 x.term] y1 hYF rfl rfl (by omega) (by intro z hz; simp only [List.mem_cons, List.not_mem_nil, or_false] at hz; rcases hz with rfl | rfl <;> exact zbI _ (by omega) (by omega)) (by omega)
 have hcon2 : ∀ w2, WrTo W1 F g (W8 (bs ++ zah [x.index, x.term])) w2 → Calls Tryz.prog 204 #[.pointer (some ⟨g, 0, none⟩), .agg (cfgA x.cfg)] w2 fun e w' => e = .returned (.tuple #[]) ∧ WrTo w F g (W8 (bs ++ basB x.x)) w' := by
  rintro w2 ⟨F', t1, t2, t3⟩
  have f02 : Fr F w w2 := (Nw.on Q1).tr t2
  have n02 : ∀ k, F' k → F k ∨ w.heap.size ≤ k := fun k hk => (t3 k hk).elim .inl (fun h => .inr (Nat.le_trans Q1.size h))
  have hl := zbZ [x.index, x.term]
  simp only [List.length_cons, List.length_nil] at hl
  refine (zfV w2 F' F2 g _ t1 x.cfg (hx.fr f02 hap.no) hz (hap.fr f02 n02) (zfG hc) (by rw [List.length_append]; omega)).mono ?_
  rintro e w' ⟨rfl, t⟩
  refine ⟨rfl, WrTo.after f02 n02 ?_⟩
  rw [List.append_assoc, zjs, List.append_assoc] at t
  exact t
 have l3 : ∀ w2, WrTo W1 F g (W8 (bs ++ zah [x.index, x.term])) w2 → ∀ p u, ((cl9 x.cfg) : List Value)[p]? = some u → w2.cell? ⟨X, 2 + p, none⟩ = some u := by
  rintro w2 ⟨F', t1, t2, t3⟩
  exact Blk.cells_in (l := (bl9 x)) (x1.fr t2 hXF) 2 4
 have HX := Lib.hid hX
 have HZ0 := Lib.hid hz0
 have HW0 := Lib.hid hW0
 have HW1 := Lib.hid hW1
 clear hX hY hz0 hW0 hW1 x0 h1
 go_enter Tryz.func143, Tryz.ntmps143
 go_upto_region 1 with (fail)
 rw [← HX.out, ← HW0.out]
 go_wp2_with fail
 rw [← HW1.out, HZ0.out]
 refine hcon.mono ?_
 rintro e w2 ⟨rfl, t⟩
 have hc2 := hcon2 w2 t
 have hl3 := l3 w2 t
 clear hcon2 l3
 go_wp2_with (refine za5 rfl 45 _ rfl X 2 rfl (cl9 x.cfg) _ hl3 Tryz.underlying45 rfl (by kernel_rfl) ?_)
 refine hc2.mono ?_
 rintro e w3 ⟨rfl, t3⟩
 go_wp2_with fail
 go_ret
 exact ⟨rfl, t3⟩
def JwRel (w : World) (F : Nat → Prop) (g : Nat) (bs : List UInt8) (l : List EntM) (i : Value) (wr : World) : Prop :=
 ∃ k : Nat, k ≤ l.length ∧ i = .int .i64 k ∧ WrTo w F g (W8 (bs ++ zaX ((l.take k).map EntM.x))) wr
theorem zjJ (w : World) (F F2 : Nat → Prop) (g : Nat) (bs : List UInt8) (h : IsWr w F g (W8 bs)) (A : Option Addr) (c : Nat) (l : List EntM) (hs : Sl w F2 A (zal l)) (he : ∀ e ∈ l, zau w F2 e) (hap : zbN w F2 F) (hok : ∀ e ∈ l, zbm e.x = true) (hl : l.length ≤ 30) (hsz : bs.length ≤ 400000000000) :
  Calls Tryz.prog 144 #[.pointer (some ⟨g, 0, none⟩), .slice A l.length c] w fun e w' => e = .returned (.pointer (some ⟨g, 0, none⟩)) ∧ WrTo w F g (W8 (bs ++ zaX (l.map EntM.x))) w' := by
 have hmost : ∀ k, (zaX ((l.take k).map EntM.x)).length ≤ 5000000 := fun k => by
  have h1 := zeY ((l.take k).map EntM.x) (fun x hx => by
   obtain ⟨e, he, rfl⟩ := List.mem_map.1 hx
   exact hok e (List.mem_of_mem_take he))
  have h2 : ((l.take k).map EntM.x).length ≤ 30 := by rw [List.length_map, List.length_take]; omega
  omega
 have HE := Lib.hid he
 have HOK := Lib.hid hok
 have hj0 : WrTo w F g (W8 (bs ++ zaX ((l.take 0).map EntM.x))) w := ⟨F, by simpa [zaX] using h, Fr.refl _ _, fun k hk => .inl hk⟩
 clear he hok h
 go_enter Tryz.func144, Tryz.ntmps144
 go_wp2_with fail
 go_loopw [9] (fun i wr => JwRel w F g bs l i wr) (fun i _ => l.length - (intOf i).toNat)
 case atStart => exact ⟨0, by omega, rfl, hj0⟩
 case round =>
  clear hj0
  obtain ⟨k, hk, rfl, FC, hC, fC, nC⟩ := hrel
  by_cases hlt : k < l.length
  ·obtain ⟨b, of, rfl, _, _, hc⟩ := (hs.fr fC hap.no).ent hlt
   have hi0 : (k : Int) < (l.length : Int) := by omega
   have ie := (HE.out _ (List.getElem_mem hlt)).fr fC hap.no
   have hsn := zgF l k hlt
   have hoke := HOK.out _ (List.getElem_mem hlt)
   obtain ⟨e, hee⟩ : ∃ e, l[k] = e := ⟨_, rfl⟩
   rw [hee] at ie hc hsn hoke
   obtain ⟨ht, hkd, hcm, hcf⟩ := zeV hoke
   have hcm : e.cmd.l.length ≤ 131072 := hcm
   have ht : 0 ≤ e.term ∧ e.term ≤ 1073741824 := ht
   have hkd : 1 ≤ e.kind ∧ e.kind ≤ 3 := hkd
   have hsze : zaY e.cfg := zeW hcf
   have hcv : IntKind.i64.wrap e.kind = e.kind := IntWalk.i64_in _ (by omega)
   have hcap := ie.cmd.cap
   have hmk := hmost k
   have hmk1 := hmost (k + 1)
   obtain ⟨bs0, hbs0⟩ : ∃ bs0, bs ++ zaX ((l.take k).map EntM.x) = bs0 := ⟨_, rfl⟩
   have hb0 : bs0.length ≤ 400000000000 + 5000000 := by rw [← hbs0, List.length_append]; omega
   rw [hbs0] at hC
   obtain ⟨E, hE⟩ : ∃ E, E = wr.heap.size := ⟨_, rfl⟩
   obtain ⟨V0, hV0⟩ : ∃ V, V = wr.alloc (.cells zE9A 87) := ⟨_, rfl⟩
   have qv0 : Nw wr V0 := by rw [hV0]; exact (Fr.refl (fun _ => False) wr).alloc _
   have g0 : Blk V0 E 87 zE9A := by rw [hV0, hE]; exact Blk.new _ _ _
   obtain ⟨V1, hV1⟩ : ∃ V, V = V0.setCells E 0 (entL e) := ⟨_, rfl⟩
   have g1 : Blk V1 E 87 (entA e) := by rw [hV1]; exact Blk.setCells (l := zE9L) g0 0 (entL e)
   have m1 : Fr (· = E) V0 V1 := by rw [hV1]; exact (Fr.refl (· = E) _).setCells _ _
   have qv1 : Nw wr V1 := qv0.new m1 (fun b hb => by omega)
   have th1 := Blk.there (l := zE9L) g0 0 7 (by show 0 + 7 ≤ 7; omega)
   have one1 := zbo e
   have hC3 := hC.fr qv1 (fun _ _ h => h)
   have hFE : ¬ FC E := fun hF => by have := hC.bound _ hF; omega
   have hS : ∀ w1, Fr FC V1 w1 → w1.cell? ⟨E, 0, none⟩ = some (I64 e.term) ∧ w1.cell? ⟨E, 1, none⟩ = some (U8V e.kind) ∧ w1.cell? ⟨E, 2, none⟩ = some (.slice e.cmd.a e.cmd.l.length e.cmd.c) := fun w1 f => by
    have a := g1.fr f hFE
    exact ⟨by simpa using a.cell 0, by simpa using a.cell 1, by simpa using a.cell 2⟩
   have hap1 : ∀ wz F', Fr FC V1 wz → (∀ k, F' k → FC k ∨ V1.heap.size ≤ k) → zbN wz F2 F' := fun wz F' f n => ((hap.fr fC nC).fr qv1 (fun _ h => .inl h)).fr f n
   have hby : ∀ wz, Fr FC V1 wz → Sl wz F2 e.cmd.a (e.cmd.l.map B8) := fun wz f => ((ie.cmd.nw qv1).fr f ((hap.fr fC nC).no)).sl
   have hr2 : ∀ x ∈ [e.term, e.kind], zcf x := by
    intro z hz
    simp only [List.mem_cons, List.not_mem_nil, or_false] at hz
    rcases hz with rfl | rfl <;> exact zbI _ (by omega) (by omega)
   have M1 := zbZ [e.term, e.kind]
   simp only [List.length_cons, List.length_nil] at M1
   have M2 := zdo e.cmd.l
   have l3 : ∀ w1, Fr FC V1 w1 → ∀ p u, ((cl9 e.cfg) : List Value)[p]? = some u → w1.cell? ⟨E, 3 + p, none⟩ = some u := fun w1 f => Blk.cells_in (l := (entL e)) (g1.fr f hFE) 3 4
   have hst := WrC.start (cl := [⟨6, 7, 3, #[I64 e.term, I64 e.kind], zah [e.term, e.kind]⟩, ⟨10, 11, 48, #[.slice e.cmd.a e.cmd.l.length e.cmd.c], rowB e.cmd.l⟩]) hC3 (fun _ => (0, none))
   have hcon : ∀ w2 F', Fr FC V1 w2 → (∀ k, F' k → FC k ∨ V1.heap.size ≤ k) → IsWr w2 F' g (W8 (bs0 ++ zbp [⟨6, 7, 3, #[I64 e.term, I64 e.kind], zah [e.term, e.kind]⟩, ⟨10, 11, 48, #[.slice e.cmd.a e.cmd.l.length e.cmd.c], rowB e.cmd.l⟩])) → Calls Tryz.prog 204 #[.pointer (some ⟨g, 0, none⟩), .agg (cfgA e.cfg)] w2 fun e9 w' => e9 = .returned (.tuple #[]) ∧ WrTo V1 FC g (W8 (bs0 ++ entB e.x)) w' := by
    intro w2 F' f2 n2 hw2
    refine (zfV w2 F' F2 g _ hw2 e.cfg ((ie.cfg.nw qv1).fr f2 ((hap.fr fC nC).no)) hsze (hap1 w2 F' f2 n2) (zfG hcf) (by simp [zbp]; omega)).mono ?_
    rintro e9 w' ⟨rfl, t⟩
    refine ⟨rfl, WrTo.after f2 n2 ?_⟩
    have e1 : bs0 ++ zbp [⟨6, 7, 3, #[I64 e.term, I64 e.kind], zah [e.term, e.kind]⟩, ⟨10, 11, 48, #[.slice e.cmd.a e.cmd.l.length e.cmd.c], rowB e.cmd.l⟩] ++ cfgB e.cfg.x = bs0 ++ entB e.x := by simp [zbp, entB, zah]
    rw [e1] at t
    exact t
   have HB := Lib.hid hbs0
   have HSN := Lib.hid hsn
   have HE0 := Lib.hid hE
   have HV0 := Lib.hid hV0
   have HV1 := Lib.hid hV1
   have HCON := Lib.hid hcon
   have HL3 := Lib.hid l3
   have hap3 := hap1
   clear hE hV0 hV1 hbs0 hsn hcon l3 hee hap1 g0 g1 m1 hC3
   go_upto_region 4 with (first | (refine za5 rfl 87 _ rfl b (of + k * 7) rfl (entL e) _ hc Tryz.underlying87 rfl (by kernel_rfl) ?_) | (rw [← HE0.out, ← HV0.out]; refine wpList_store_mid rfl 87 _ _ rfl E 0 (entA e) rfl rfl th1 (by kernel_rfl) one1 ?_; rw [← HV1.out]))
   refine zcy _ _ (by kernel_rfl) (by kernel_rfl) hst ?_
   clear hst
   apply za6
   focus
    intro B L wz hL hD hC
    refine .inl ⟨by rfl, ?_⟩
    obtain ⟨y0, y1, y2⟩ := hS wz hC.fr
    unfold za2
    go_simp
    exact ⟨rfl, hC.keep _ (by rfl)⟩
   simp only [Act.put, sA9, sB9, sC9]
   apply za6
   focus
    intro B L wz hL hD hC
    refine .inl ⟨by rfl, ?_⟩
    obtain ⟨y0, y1, y2⟩ := hS wz hC.fr
    unfold za2
    go_simp
    exact ⟨rfl, hC.keep _ (by rfl)⟩
   simp only [Act.put, sA9, sB9, sC9]
   apply za6
   focus
    intro B L wz hL hD hC
    refine .inl ⟨by rfl, ?_⟩
    obtain ⟨y0, y1, y2⟩ := hS wz hC.fr
    unfold za2
    go_simp
    exact ⟨rfl, hC.keep _ (by rfl)⟩
   simp only [Act.put, sA9, sB9, sC9]
   apply za6
   focus
    intro B L wz hL hD hC
    refine .inl ⟨by rfl, ?_⟩
    obtain ⟨y0, y1, y2⟩ := hS wz hC.fr
    unfold za2
    go_simp
    exact ⟨rfl, hC.keep _ (by rfl)⟩
   simp only [Act.put, sA9, sB9, sC9]
   apply za6
   focus
    intro B L wz hL hD hC
    refine .inl ⟨by rfl, ?_⟩
    obtain ⟨y0, y1, y2⟩ := hS wz hC.fr
    unfold za2
    go_simp
    exact ⟨rfl, hC.keep _ (by rfl)⟩
   simp only [Act.put, sA9, sB9, sC9]
   apply za6
   focus
    intro B L wz hL hD hC
    refine .inl ⟨by rfl, ?_⟩
    obtain ⟨y0, y1, y2⟩ := hS wz hC.fr
    unfold za2
    go_simp
    exact ⟨rfl, hC.keep _ (by rfl)⟩
   simp only [Act.put, sA9, sB9, sC9]
   refine zaT (fun b => .slice (some ⟨b.1, 0, none⟩) 2 2) ?_ ?_
   focus
    intro B L wz hL hD hC
    refine .inl ⟨by rfl, ?_⟩
    unfold zc2
    go_simp
    exact ⟨(wz.heap.size, none), rfl, hC.make 6 3 #[I64 e.term, I64 e.kind] (by intro d hd hk; simp only [List.mem_cons, List.not_mem_nil, or_false] at hd; rcases hd with rfl | rfl <;> first | exact ⟨rfl, rfl⟩ | exact absurd hk (by simp)) (by rfl)⟩
   simp only [Act.put, sA9, sB9, sC9]
   apply za6
   focus
    intro B L wz hL hD hC
    obtain ⟨F', h1, h2, h3, h4, h5⟩ := hC.call 0 _ rfl hL (hD 6 (by kernel_rfl)) (.inl rfl) (by rfl) (by rfl)
    have hfr := hC.fr
    refine .inl ⟨by rfl, ?_⟩
    unfold za2
    go_simp
    refine (zdF wz F' g _ h1 (B 6).1 2 [e.term, e.kind] #[I64 e.term, I64 e.kind] h2 h3 rfl rfl (by omega) hr2 (by simp only [zbp, List.take_zero, List.map_nil, List.flatten_nil, List.append_nil]; omega)).mono ?_
    rintro e w9 ⟨rfl, ht⟩
    exact ⟨rfl, h5 _ (ht)⟩
   simp only [Act.put, sA9, sB9, sC9]
   apply za6
   focus
    intro B L wz hL hD hC
    refine .inl ⟨by rfl, ?_⟩
    obtain ⟨y0, y1, y2⟩ := hS wz hC.fr
    unfold za2
    go_simp
    exact ⟨rfl, hC.keep _ (by rfl)⟩
   simp only [Act.put, sA9, sB9, sC9]
   apply za6
   focus
    intro B L wz hL hD hC
    refine .inl ⟨by rfl, ?_⟩
    obtain ⟨y0, y1, y2⟩ := hS wz hC.fr
    unfold za2
    go_simp
    exact ⟨rfl, hC.keep _ (by rfl)⟩
   simp only [Act.put, sA9, sB9, sC9]
   refine zaT (fun b => .slice (some ⟨b.1, 0, none⟩) 1 1) ?_ ?_
   focus
    intro B L wz hL hD hC
    refine .inl ⟨by rfl, ?_⟩
    unfold zc2
    go_simp
    exact ⟨(wz.heap.size, none), rfl, hC.make 10 48 #[.slice e.cmd.a e.cmd.l.length e.cmd.c] (by intro d hd hk; simp only [List.mem_cons, List.not_mem_nil, or_false] at hd; rcases hd with rfl | rfl <;> first | exact ⟨rfl, rfl⟩ | exact absurd hk (by simp)) (by rfl)⟩
   simp only [Act.put, sA9, sB9, sC9]
   apply za6
   focus
    intro B L wz hL hD hC
    obtain ⟨F', h1, h2, h3, h4, h5⟩ := hC.call 1 _ rfl hL (hD 10 (by kernel_rfl)) (.inr ⟨0, _, rfl, rfl, hD 7 (by kernel_rfl)⟩) (by rfl) (by rfl)
    have hfr := hC.fr
    refine .inl ⟨by rfl, ?_⟩
    unfold za2
    go_simp
    refine (zkA wz F' _ g _ h1 (B 10).1 e.cmd.a e.cmd.c e.cmd.l h2 h3 (hby wz hfr) (hap3 wz F' hfr h4) (by omega) hcap.1 hcap.2 (by simp [zbp]; omega)).mono ?_
    rintro e w9 ⟨rfl, ht⟩
    exact ⟨rfl, h5 _ (ht)⟩
   simp only [Act.put, sA9, sB9, sC9]
   refine zdz fun B w11 hC5 => ?_
   obtain ⟨FD, hD, fD, nD⟩ := hC5.done (by intro d hd; simp only [List.mem_cons, List.not_mem_nil, or_false] at hd; rcases hd with rfl | rfl <;> rfl)
   have hcc := HCON.out w11 FD fD nD hD
   have hl3 := HL3.out w11 fD
   clear hC5 hD hS hby hap3
   go_wp2_with (refine za5 rfl 45 _ rfl E 3 rfl (cl9 e.cfg) _ hl3 Tryz.underlying45 rfl (by kernel_rfl) ?_)
   refine hcc.mono ?_
   rintro e9 w12 ⟨rfl, t⟩
   go_wp2_with fail
   go_roundw
   case rel =>
    refine ⟨k + 1, by omega, by go_num, ?_⟩
    rw [HSN.out, ← List.append_assoc, HB.out]
    exact WrTo.after fC nC (WrTo.after (Nw.on qv1) (fun _ h => .inl h) t)
   case measure => simp [intOf]; omega
  ·obtain rfl : k = l.length := by omega
   go_wp2_with fail
   go_ret
   rw [List.take_of_length_le (Nat.le_refl _)] at hC
   exact ⟨rfl, FC, hC, fC, nC⟩
end Go.Proofs.YtippdjaakcgeoaaGreat
