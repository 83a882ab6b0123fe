/- Lemmas of the walks: JwA, JwB. (Laid together by shake.py.) -/
import Derived.Test.YtippdjaakcgeoaaGreatPa01
import Derived.Test.YtippdjaakcgeoaaGreatPa03
import Derived.Test.YtippdjaakcgeoaaGreatPa16
set_option linter.unusedVariables false
set_option linter.unusedSimpArgs false
namespace Go.Proofs.YtippdjaakcgeoaaGreat
open Go Go.RowKit
set_option linter.unusedVariables false
set_option linter.unusedSimpArgs false
theorem WrTo.after {w w1 w2 : World} {F F1 : Nat → Prop} {g : Nat} {s2 : Wr} (hf : Fr F w w1) (hn : ∀ k, F1 k → F k ∨ w.heap.size ≤ k) (h : WrTo w1 F1 g s2 w2) : WrTo w F g s2 w2 := by
  obtain ⟨F2, h1, h2, h3⟩ := h
  have hs := hf.size
  exact ⟨F2, h1, hf.trans h2 hn, fun k hk => (h3 k hk).elim (hn k) (fun h => .inr (by omega))⟩
theorem nat_right (n : Nat) (h : n ≤ 1073741824) : Right (n : Int) := ⟨by omega, by unfold topN; omega⟩
theorem int_right (n : Int) (h0 : 0 ≤ n) (h : n ≤ 1073741824) : Right n := ⟨h0, by unfold topN; omega⟩
theorem encAll_le (l : List Int) : (encAll l).length ≤ 9 * l.length := by
  induction l with
  | nil => simp [encAll]
  | cons n l ih =>
    have e : encAll (n :: l) = enc n.toNat ++ encAll l := rfl
    have := enc_len n.toNat
    rw [e, List.length_append, List.length_cons]
    omega
theorem Apart.fr {w w' : World} {F2 F F' S : Nat → Prop} (h : Apart w F2 F) (hf : Fr S w w') (hn : ∀ k, F' k → F k ∨ w.heap.size ≤ k) : Apart w' F2 F' := h.step hf.size hn
def NdsR (l : List Int) : Prop := ∀ n ∈ l, Right n
theorem numsB_le (l : List Int) : (numsB l).length ≤ 9 * l.length + 9 := by
  have := enc_len l.length
  have := encAll_le l
  unfold numsB
  rw [List.length_append]
  omega
set_option maxRecDepth 100000 in
set_option maxHeartbeats 4000000 in
theorem jnumbers_any (w : World) (F F2 : Nat → Prop) (g : Nat) (bs : List UInt8) (h : IsWr w F g (W8 bs)) (A : Option Addr) (c : Nat) (l : List Int) (hs : Sl w F2 A (intsC l)) (hap : Apart w F2 F) (hr : ∀ n ∈ l, Right n) (hl : l.length ≤ 1000000) (hsz : bs.length ≤ 600000000000) :
    Calls Tryz.prog 224 #[.pointer (some ⟨g, 0, none⟩), .slice A l.length c] w fun e w' => e = .returned (.tuple #[]) ∧ WrTo w F g (W8 (bs ++ numsB l)) w' := by
  obtain ⟨n, hn⟩ : ∃ n, l.length = n := ⟨_, rfl⟩
  obtain ⟨W1, hW1⟩ : ∃ W1, W1 = w.alloc (.cells #[I64 n] 3) := ⟨_, rfl⟩
  have q1 : Nw w W1 := by rw [hW1]; exact (Fr.refl (fun _ => False) w).alloc _
  have b1 : Blk W1 w.heap.size 3 #[I64 n] := by rw [hW1]; exact Blk.new w _ _
  have h1 := h.fr q1 (fun _ _ h => h)
  have hF1 : ¬ F w.heap.size := fun hF => by have := h.bound _ hF; omega
  have hcon := wk_nums W1 F g bs h1 w.heap.size 1 [(n : Int)] #[I64 n] b1 hF1 rfl rfl (by omega) (by intro x hx; rw [List.mem_singleton.1 hx]; exact nat_right _ (by omega)) (by omega)
  have e1 : encAll [(n : Int)] = enc n := by simp [encAll]
  rw [e1] at hcon
  have hcon2 : ∀ w2, WrTo W1 F g (W8 (bs ++ enc n)) w2 → Calls Tryz.prog 69 #[.pointer (some ⟨g, 0, none⟩), .slice A n c] w2 fun e w' => e = .returned (.pointer (some ⟨g, 0, none⟩)) ∧ WrTo w F g (W8 (bs ++ numsB l)) w' := by
    intro w2 ht
    obtain ⟨F', t1, t2, t3⟩ := ht
    have f02 : Fr F w w2 := (Nw.on q1).tr t2
    have n02 : ∀ k, F' k → F k ∨ w.heap.size ≤ k := fun k hk => (t3 k hk).elim .inl (fun h => .inr (Nat.le_trans q1.size h))
    have he := enc_len n
    have hc := numbers_any w2 F' F2 g (W8 (bs ++ enc n)) t1 A c l (hs.fr f02 hap.no) (hap.fr f02 n02) (by omega) (by show (bs ++ enc n).length ≤ _; rw [List.length_append]; omega)
    rw [hn, wrNums_right _ _ hr] at hc
    refine hc.mono ?_
    rintro e w' ⟨rfl, t⟩
    refine ⟨rfl, WrTo.after f02 n02 ?_⟩
    have e2 : (⟨(W8 (bs ++ enc n)).ok, (W8 (bs ++ enc n)).bs ++ encAll l⟩ : Wr) = W8 (bs ++ numsB l) := by
      show (⟨true, (bs ++ enc n) ++ encAll l⟩ : Wr) = _
      rw [List.append_assoc, ← hn]
      rfl
    rw [← e2]
    exact t
  rw [hn]
  have HW1 := Lib.hid hW1
  have HN := Lib.hid hn
  clear hW1 hn
  go_enter Tryz.func224, Tryz.ntmps224
  go_wp2_with fail
  rw [← HW1.out]
  refine hcon.mono ?_
  rintro e w2 ⟨rfl, t⟩
  have hc2 := hcon2 w2 t
  go_wp2_with fail
  refine hc2.mono ?_
  rintro e w3 ⟨rfl, t3⟩
  go_wp2_with fail
  go_end0
  exact ⟨rfl, t3⟩
/-- How many bytes a config has at most. -/
def cfgM (c : Cfg) : Nat := c.v.length + c.o.length + c.l.length + c.w.length
theorem cfgB_le (c : Cfg) : (cfgB c).length ≤ 9 * cfgM c + 36 := by
  have h1 := numsB_le c.v
  have h2 := numsB_le c.o
  have h3 := numsB_le c.l
  have h4 := numsB_le c.w
  unfold cfgB cfgM
  simp only [List.length_append]
  omega
structure CfgR (c : Cfg) : Prop where
  v : NdsR c.v
  o : NdsR c.o
  l : NdsR c.l
  w : NdsR c.w
def cfg4 (c : Cfg) : List (List Int) := [c.v, c.o, c.l, c.w]
def JcRel (w : World) (F : Nat → Prop) (g : Nat) (bs : List UInt8) (l4 : List (List Int)) (i : Value) (wr : World) : Prop :=
  ∃ k : Nat, k ≤ 4 ∧ i = .int .i64 k ∧ WrTo w F g (W8 (bs ++ ((l4.take k).map numsB).flatten)) wr
set_option maxRecDepth 100000 in
set_option maxHeartbeats 4000000 in
theorem jconfig_any (w : World) (F F2 : Nat → Prop) (g : Nat) (bs : List UInt8) (h : IsWr w F g (W8 bs)) (x : CfgM) (hx : CfgIn w F2 x) (hz : CfgSz x) (hap : Apart w F2 F) (hr : CfgR x.x) (hsz : bs.length ≤ 500000000000) :
    Calls Tryz.prog 204 #[.pointer (some ⟨g, 0, none⟩), .agg (cfgA x)] w fun e w' => e = .returned (.tuple #[]) ∧ WrTo w F g (W8 (bs ++ cfgB x.x)) w' := by
  obtain ⟨X, hX⟩ : ∃ X, X = w.heap.size := ⟨_, rfl⟩
  obtain ⟨Y, hY⟩ : ∃ Y, Y = w.heap.size + 1 := ⟨_, rfl⟩
  obtain ⟨W0, hW0⟩ : ∃ W, W = w.alloc (.cells #[.slice x.v.a x.v.l.length x.v.c, .slice x.o.a x.o.l.length x.o.c, .slice x.l.a x.l.l.length x.l.c, .slice x.w.a x.w.l.length x.w.c] 45) := ⟨_, rfl⟩
  have p0 : Nw w W0 := by rw [hW0]; exact (Fr.refl (fun _ => False) _).alloc _
  have x0 : Blk W0 X 45 #[.slice x.v.a x.v.l.length x.v.c, .slice x.o.a x.o.l.length x.o.c, .slice x.l.a x.l.l.length x.l.c, .slice x.w.a x.w.l.length x.w.c] := by rw [hW0, hX]; exact Blk.new _ _ _
  have hz0 : W0.heap.size = Y := by rw [hW0, hY]; simp
  have cv : W0.cell? ⟨X, 0, none⟩ = some (.slice x.v.a x.v.l.length x.v.c) := by simpa using x0.cell 0
  have co : W0.cell? ⟨X, 1, none⟩ = some (.slice x.o.a x.o.l.length x.o.c) := by simpa using x0.cell 1
  have cl : W0.cell? ⟨X, 2, none⟩ = some (.slice x.l.a x.l.l.length x.l.c) := by simpa using x0.cell 2
  have cw : W0.cell? ⟨X, 3, none⟩ = some (.slice x.w.a x.w.l.length x.w.c) := by simpa using x0.cell 3
  obtain ⟨W1, hW1⟩ : ∃ W, W = W0.alloc (.cells #[.slice x.v.a x.v.l.length x.v.c, .slice x.o.a x.o.l.length x.o.c, .slice x.l.a x.l.l.length x.l.c, .slice x.w.a x.w.l.length x.w.c] 41) := ⟨_, rfl⟩
  have p1 : Nw W0 W1 := by rw [hW1]; exact (Fr.refl (fun _ => False) _).alloc _
  have y1 : Blk W1 Y 41 #[.slice x.v.a x.v.l.length x.v.c, .slice x.o.a x.o.l.length x.o.c, .slice x.l.a x.l.l.length x.l.c, .slice x.w.a x.w.l.length x.w.c] := by rw [hW1, ← hz0]; exact Blk.new _ _ _
  have Q1 : Nw w W1 := p0.tr p1
  have h1 := h.fr Q1 (fun _ _ h => h)
  have hYF : ¬ F Y := fun hF => by have := h.bound _ hF; omega
  have hx1 := hx.nw Q1
  have hap1 : Apart W1 F2 F := hap.fr Q1 (fun _ h => .inl h)
  have hrow : ∀ k, k < 4 → ∃ s : Ls Int, (#[.slice x.v.a x.v.l.length x.v.c, .slice x.o.a x.o.l.length x.o.c, .slice x.l.a x.l.l.length x.l.c, .slice x.w.a x.w.l.length x.w.c] : Array Value)[k]? = some (.slice s.a s.l.length s.c) ∧ Sl W1 F2 s.a (intsC s.l) ∧ NdsR s.l ∧ s.l.length ≤ 1000000 ∧ (cfg4 x.x)[k]? = some s.l := by
    intro k hk
    match k, hk with
    | 0, _ => exact ⟨x.v, rfl, hx1.v.sl, hr.v, hz.v, rfl⟩
    | 1, _ => exact ⟨x.o, rfl, hx1.o.sl, hr.o, hz.o, rfl⟩
    | 2, _ => exact ⟨x.l, rfl, hx1.l.sl, hr.l, hz.l, rfl⟩
    | 3, _ => exact ⟨x.w, rfl, hx1.w.sl, hr.w, hz.w, rfl⟩
  have hall : ((cfg4 x.x).map numsB).flatten = cfgB x.x := by simp [cfg4, cfgB]
  have hmost : ∀ k, (((cfg4 x.x).take k).map numsB).flatten.length ≤ 100000000 := by
    intro k
    have h1 := cfgB_le x.x
    have h2 : cfgM x.x ≤ 4000000 := by have h1 := hz.v; have h2 := hz.o; have h3 := hz.l; have h4 := hz.w; show x.v.l.length + x.o.l.length + x.l.l.length + x.w.l.length ≤ _; omega
    have h3 : (((cfg4 x.x).take k).map numsB).flatten.length ≤ (cfgB x.x).length := by
      rw [← hall]
      conv => rhs; rw [← List.take_append_drop k (cfg4 x.x), List.map_append, List.flatten_append, List.length_append]
      omega
    omega
  obtain ⟨l4, hl4⟩ : ∃ l4, cfg4 x.x = l4 := ⟨_, rfl⟩
  rw [hl4] at hrow hall hmost
  have h4 : l4.length = 4 := by rw [← hl4]; rfl
  have HALL := Lib.hid hall
  have HROW := Lib.hid hrow
  have HW0 := Lib.hid hW0
  have HW1 := Lib.hid hW1
  have HX := Lib.hid hX
  have HZ0 := Lib.hid hz0
  clear hW0 hW1 hX hY hz0 hrow hall hl4
  go_enter Tryz.func204, Tryz.ntmps204
  go_upto_region 1 with (fail)
  rw [← HX.out, ← HW0.out]
  go_wp2_with fail
  rw [← HW1.out, HZ0.out]
  have hj0 : WrTo W1 F g (W8 (bs ++ ((l4.take 0).map numsB).flatten)) W1 := ⟨F, by simpa using h1, Fr.refl _ _, fun k hk => .inl hk⟩
  clear h1 cv co cl cw x0
  go_loopw [16] (fun i wr => JcRel W1 F g bs l4 i wr) (fun i _ => 4 - (intOf i).toNat)
  case atStart => exact ⟨0, by omega, rfl, hj0⟩
  case round =>
    clear hj0
    obtain ⟨k, hk, rfl, FC, hC, fC, nC⟩ := hrel
    have yr := y1.fr fC hYF
    by_cases hlt : k < 4
    · obtain ⟨s, hs1, hs2, hs3, hs4, hs5⟩ := HROW.out k hlt
      have ck : wr.cell? ⟨Y, k, none⟩ = some (.slice s.a s.l.length s.c) := (yr.cell k).trans hs1
      have hcon := jnumbers_any wr FC F2 g _ hC s.a s.c s.l (hs2.fr fC hap1.no) (hap1.fr fC nC) hs3 hs4 (by have := hmost k; rw [List.length_append]; omega)
      have hi0 : (k : Int) < 4 := by omega
      have HS := Lib.hid (And.intro hs1 hs5)
      clear hs1 hs5 yr
      go_wp2_with fail
      refine hcon.mono ?_
      rintro e w2 ⟨rfl, t⟩
      go_wp2_with fail
      go_roundw
      case rel =>
        obtain ⟨hs1, hs5⟩ := HS.out
        have hkl : k < l4.length := by omega
        have e5 : l4[k] = s.l := by rw [List.getElem?_eq_getElem hkl] at hs5; injection hs5
        refine ⟨k + 1, by omega, by go_num, WrTo.after fC nC ?_⟩
        have e : bs ++ ((l4.take (k + 1)).map numsB).flatten = bs ++ ((l4.take k).map numsB).flatten ++ numsB s.l := by
          rw [List.take_succ_eq_append_getElem hkl, e5, List.map_append, List.flatten_append]
          simp
        rw [e]
        exact t
      case measure => simp [intOf]; omega
    · obtain rfl : k = 4 := by omega
      go_wp2_with fail
      go_end0
      rw [List.take_of_length_le (by omega), HALL.out] at hC
      exact ⟨rfl, WrTo.after (Nw.on Q1) (fun k hk => .inl hk) ⟨FC, hC, fC, nC⟩⟩
end Go.Proofs.YtippdjaakcgeoaaGreat

namespace Go.Proofs.YtippdjaakcgeoaaGreat
open Go Go.RowKit
set_option linter.unusedVariables false
set_option linter.unusedSimpArgs false
theorem cfgOk_R {c : Cfg} (h : cfgOk c = true) : CfgR c := by
  obtain ⟨h1, h2, h3, h4⟩ := cfgOk_parts h
  have hh : ∀ l, nodesOk l = true → NdsR l := fun l hl n hn => by have := nodesOk_mem hl n hn; exact int_right n this.1 (by omega)
  exact ⟨hh _ h1, hh _ h2, hh _ h3, hh _ h4⟩
theorem cfgOk_le {c : Cfg} (h : cfgOk c = true) : (cfgB c).length ≤ 216 := by
  obtain ⟨h1, h2, h3, h4⟩ := cfgOk_parts h
  have := cfgB_le c
  have := nodesOk_len h1
  have := nodesOk_len h2
  have := nodesOk_len h3
  have := nodesOk_len h4
  unfold cfgM at *
  omega
theorem cfgSz_ok {c : CfgM} (h : cfgOk c.x = true) : CfgSz c := by
  obtain ⟨h1, h2, h3, h4⟩ := cfgOk_parts h
  have h1 : c.v.l.length ≤ 5 := nodesOk_len h1
  have h2 : c.o.l.length ≤ 5 := nodesOk_len h2
  have h3 : c.l.l.length ≤ 5 := nodesOk_len h3
  have h4 : c.w.l.length ≤ 5 := nodesOk_len h4
  exact ⟨by omega, by omega, by omega, by omega⟩
theorem rowB_most (s : List UInt8) : (rowB s).length ≤ 9 + s.length := by
  have := enc_len s.length
  unfold rowB
  simp only [List.length_append]
  omega
theorem entB_le {e : Ent} (h : entOk e = true) : (entB e).length ≤ 131400 := by
  obtain ⟨_, _, h3, h4⟩ := entOk_sm h
  have := cfgOk_le h4
  have := rowB_most e.cmd
  have := enc_len e.term.toNat
  have := enc_len e.kind.toNat
  unfold entB
  simp only [List.length_append]
  omega
theorem entsB_le (l : List Ent) (h : ∀ e ∈ l, entOk e = true) : (entsB l).length ≤ 131400 * l.length := by
  induction l with
  | nil => simp [entsB]
  | cons e l ih =>
    have h1 := entB_le (h e (by simp))
    have h2 := ih (fun x hx => h x (by simp [hx]))
    have e1 : entsB (e :: l) = entB e ++ entsB l := rfl
    rw [e1, List.length_append, List.length_cons]
    omega
theorem basB_le {b : Bas} (h : basOk b = true) : (basB b).length ≤ 300 := by
  obtain ⟨_, _, h3⟩ := basOk_sm h
  have := cfgOk_le h3
  have := enc_len b.index.toNat
  have := enc_len b.term.toNat
  unfold basB
  simp only [List.length_append]
  omega
theorem entsB_snoc (l : List EntM) (k : Nat) (h : k < l.length) : entsB ((l.take (k + 1)).map EntM.x) = entsB ((l.take k).map EntM.x) ++ entB (l[k]).x := by
  unfold entsB
  rw [List.take_succ_eq_append_getElem h, List.map_append, List.map_append, List.flatten_append]
  simp
theorem encAll_two (a b : Int) : encAll [a, b] = enc a.toNat ++ enc b.toNat := by simp [encAll]
set_option maxRecDepth 100000 in
set_option maxHeartbeats 8000000 in
theorem jwriteBase_any (w : World) (F F2 : Nat → Prop) (g : Nat) (bs : List UInt8) (h : IsWr w F g (W8 bs)) (x : BasM) (hx : CfgIn w F2 x.cfg) (hz : CfgSz x.cfg) (hap : Apart w F2 F) (hok : basOk x.x = true) (hsz : bs.length ≤ 400000000000) :
    Calls Tryz.prog 143 #[.pointer (some ⟨g, 0, none⟩), .agg (basA x)] w fun e w' => e = .returned (.pointer (some ⟨g, 0, none⟩)) ∧ WrTo w F g (W8 (bs ++ basB x.x)) w' := by
  obtain ⟨hi, ht, hc⟩ := basOk_sm hok
  have hi : 0 ≤ x.index ∧ x.index ≤ 1073741824 := hi
  have ht : 0 ≤ x.term ∧ x.term ≤ 1073741824 := ht
  obtain ⟨X, hX⟩ : ∃ X, X = w.heap.size := ⟨_, rfl⟩
  obtain ⟨Y, hY⟩ : ∃ Y, Y = w.heap.size + 1 := ⟨_, rfl⟩
  obtain ⟨W0, hW0⟩ : ∃ W, W = w.alloc (.cells #[I64 x.index, I64 x.term, .slice x.cfg.v.a x.cfg.v.l.length x.cfg.v.c, .slice x.cfg.o.a x.cfg.o.l.length x.cfg.o.c, .slice x.cfg.l.a x.cfg.l.l.length x.cfg.l.c, .slice x.cfg.w.a x.cfg.w.l.length x.cfg.w.c] 47) := ⟨_, rfl⟩
  have p0 : Nw w W0 := by rw [hW0]; exact (Fr.refl (fun _ => False) _).alloc _
  have x0 : Blk W0 X 47 #[I64 x.index, I64 x.term, .slice x.cfg.v.a x.cfg.v.l.length x.cfg.v.c, .slice x.cfg.o.a x.cfg.o.l.length x.cfg.o.c, .slice x.cfg.l.a x.cfg.l.l.length x.cfg.l.c, .slice x.cfg.w.a x.cfg.w.l.length x.cfg.w.c] := by rw [hW0, hX]; exact Blk.new _ _ _
  have hz0 : W0.heap.size = Y := by rw [hW0, hY]; simp
  have c0 : W0.cell? ⟨X, 0, none⟩ = some (I64 x.index) := by simpa using x0.cell 0
  have c1 : W0.cell? ⟨X, 1, none⟩ = some (I64 x.term) := by simpa using x0.cell 1
  obtain ⟨W1, hW1⟩ : ∃ W, W = W0.alloc (.cells #[I64 x.index, I64 x.term] 3) := ⟨_, rfl⟩
  have p1 : Nw W0 W1 := by rw [hW1]; exact (Fr.refl (fun _ => False) _).alloc _
  have y1 : Blk W1 Y 3 #[I64 x.index, I64 x.term] := by rw [hW1, ← hz0]; exact Blk.new _ _ _
  have x1 := x0.fr p1 (fun h => h)
  have Q1 : Nw w W1 := p0.tr p1
  have h1 := h.fr Q1 (fun _ _ h => h)
  have hXF : ¬ F X := fun hF => by have := h.bound _ hF; omega
  have hYF : ¬ F Y := fun hF => by have := h.bound _ hF; omega
  have hcon := wk_nums W1 F g bs h1 Y 2 [x.index, x.term] #[I64 x.index, I64 x.term] y1 hYF rfl rfl (by omega) (by intro z hz; simp only [List.mem_cons, List.not_mem_nil, or_false] at hz; rcases hz with rfl | rfl <;> exact int_right _ (by omega) (by omega)) (by omega)
  have hcon2 : ∀ w2, WrTo W1 F g (W8 (bs ++ encAll [x.index, x.term])) w2 → Calls Tryz.prog 204 #[.pointer (some ⟨g, 0, none⟩), .agg #[.slice x.cfg.v.a x.cfg.v.l.length x.cfg.v.c, .slice x.cfg.o.a x.cfg.o.l.length x.cfg.o.c, .slice x.cfg.l.a x.cfg.l.l.length x.cfg.l.c, .slice x.cfg.w.a x.cfg.w.l.length x.cfg.w.c]] w2 fun e w' => e = .returned (.tuple #[]) ∧ WrTo w F g (W8 (bs ++ basB x.x)) w' := by
    rintro w2 ⟨F', t1, t2, t3⟩
    have f02 : Fr F w w2 := (Nw.on Q1).tr t2
    have n02 : ∀ k, F' k → F k ∨ w.heap.size ≤ k := fun k hk => (t3 k hk).elim .inl (fun h => .inr (Nat.le_trans Q1.size h))
    have hl := encAll_le [x.index, x.term]
    simp only [List.length_cons, List.length_nil] at hl
    refine (jconfig_any w2 F' F2 g _ t1 x.cfg (hx.fr f02 hap.no) hz (hap.fr f02 n02) (cfgOk_R hc) (by rw [List.length_append]; omega)).mono ?_
    rintro e w' ⟨rfl, t⟩
    refine ⟨rfl, WrTo.after f02 n02 ?_⟩
    rw [List.append_assoc, encAll_two, List.append_assoc] at t
    exact t
  have l3 : ∀ w2, WrTo W1 F g (W8 (bs ++ encAll [x.index, x.term])) w2 → ∀ p u, ([.slice x.cfg.v.a x.cfg.v.l.length x.cfg.v.c, .slice x.cfg.o.a x.cfg.o.l.length x.cfg.o.c, .slice x.cfg.l.a x.cfg.l.l.length x.cfg.l.c, .slice x.cfg.w.a x.cfg.w.l.length x.cfg.w.c] : List Value)[p]? = some u → w2.cell? ⟨X, 2 + p, none⟩ = some u := by
    rintro w2 ⟨F', t1, t2, t3⟩
    exact Blk.cells_in (l := [I64 x.index, I64 x.term, .slice x.cfg.v.a x.cfg.v.l.length x.cfg.v.c, .slice x.cfg.o.a x.cfg.o.l.length x.cfg.o.c, .slice x.cfg.l.a x.cfg.l.l.length x.cfg.l.c, .slice x.cfg.w.a x.cfg.w.l.length x.cfg.w.c]) (x1.fr t2 hXF) 2 4
  have HX := Lib.hid hX
  have HZ0 := Lib.hid hz0
  have HW0 := Lib.hid hW0
  have HW1 := Lib.hid hW1
  clear hX hY hz0 hW0 hW1 x0 h1
  go_enter Tryz.func143, Tryz.ntmps143
  go_upto_region 1 with (fail)
  rw [← HX.out, ← HW0.out]
  go_wp2_with fail
  rw [← HW1.out, HZ0.out]
  refine hcon.mono ?_
  rintro e w2 ⟨rfl, t⟩
  have hc2 := hcon2 w2 t
  have hl3 := l3 w2 t
  clear hcon2 l3
  go_wp2_with (refine wl_load_cells rfl 45 _ rfl X 2 rfl [.slice x.cfg.v.a x.cfg.v.l.length x.cfg.v.c, .slice x.cfg.o.a x.cfg.o.l.length x.cfg.o.c, .slice x.cfg.l.a x.cfg.l.l.length x.cfg.l.c, .slice x.cfg.w.a x.cfg.w.l.length x.cfg.w.c] _ hl3 Tryz.underlying45 rfl (by kernel_rfl) ?_)
  refine hc2.mono ?_
  rintro e w3 ⟨rfl, t3⟩
  go_wp2_with fail
  go_ret
  exact ⟨rfl, t3⟩
def JwRel (w : World) (F : Nat → Prop) (g : Nat) (bs : List UInt8) (l : List EntM) (i : Value) (wr : World) : Prop :=
  ∃ k : Nat, k ≤ l.length ∧ i = .int .i64 k ∧ WrTo w F g (W8 (bs ++ entsB ((l.take k).map EntM.x))) wr
set_option maxRecDepth 100000 in
set_option maxHeartbeats 8000000 in
theorem jwrite_any (w : World) (F F2 : Nat → Prop) (g : Nat) (bs : List UInt8) (h : IsWr w F g (W8 bs)) (A : Option Addr) (c : Nat) (l : List EntM) (hs : Sl w F2 A (entsC l)) (he : ∀ e ∈ l, EntIn w F2 e) (hap : Apart w F2 F) (hok : ∀ e ∈ l, entOk e.x = true) (hl : l.length ≤ 30) (hsz : bs.length ≤ 400000000000) :
    Calls Tryz.prog 144 #[.pointer (some ⟨g, 0, none⟩), .slice A l.length c] w fun e w' => e = .returned (.pointer (some ⟨g, 0, none⟩)) ∧ WrTo w F g (W8 (bs ++ entsB (l.map EntM.x))) w' := by
  have hmost : ∀ k, (entsB ((l.take k).map EntM.x)).length ≤ 5000000 := fun k => by
    have h1 := entsB_le ((l.take k).map EntM.x) (fun x hx => by
      obtain ⟨e, he, rfl⟩ := List.mem_map.1 hx
      exact hok e (List.mem_of_mem_take he))
    have h2 : ((l.take k).map EntM.x).length ≤ 30 := by rw [List.length_map, List.length_take]; omega
    omega
  have HE := Lib.hid he
  have HOK := Lib.hid hok
  have hj0 : WrTo w F g (W8 (bs ++ entsB ((l.take 0).map EntM.x))) w := ⟨F, by simpa [entsB] using h, Fr.refl _ _, fun k hk => .inl hk⟩
  clear he hok h
  go_enter Tryz.func144, Tryz.ntmps144
  go_wp2_with fail
  go_loopw [9] (fun i wr => JwRel w F g bs l i wr) (fun i _ => l.length - (intOf i).toNat)
  case atStart => exact ⟨0, by omega, rfl, hj0⟩
  case round =>
    clear hj0
    obtain ⟨k, hk, rfl, FC, hC, fC, nC⟩ := hrel
    by_cases hlt : k < l.length
    · obtain ⟨b, of, rfl, _, _, hc⟩ := (hs.fr fC hap.no).ent hlt
      have hi0 : (k : Int) < (l.length : Int) := by omega
      have ie := (HE.out _ (List.getElem_mem hlt)).fr fC hap.no
      have hsn := entsB_snoc l k hlt
      have hoke := HOK.out _ (List.getElem_mem hlt)
      obtain ⟨e, hee⟩ : ∃ e, l[k] = e := ⟨_, rfl⟩
      rw [hee] at ie hc hsn hoke
      obtain ⟨ht, hkd, hcm, hcf⟩ := entOk_sm hoke
      have hcm : e.cmd.l.length ≤ 131072 := hcm
      have ht : 0 ≤ e.term ∧ e.term ≤ 1073741824 := ht
      have hkd : 1 ≤ e.kind ∧ e.kind ≤ 3 := hkd
      have hsze : CfgSz e.cfg := cfgSz_ok hcf
      have hcv : IntKind.i64.wrap e.kind = e.kind := IntWalk.i64_in _ (by omega)
      have hcap := ie.cmd.cap
      have hmk := hmost k
      have hmk1 := hmost (k + 1)
      obtain ⟨bs0, hbs0⟩ : ∃ bs0, bs ++ entsB ((l.take k).map EntM.x) = bs0 := ⟨_, rfl⟩
      have hb0 : bs0.length ≤ 400000000000 + 5000000 := by rw [← hbs0, List.length_append]; omega
      rw [hbs0] at hC
      obtain ⟨E, hE⟩ : ∃ E, E = wr.heap.size := ⟨_, rfl⟩
      obtain ⟨V0, hV0⟩ : ∃ V, V = wr.alloc (.cells #[I64 0, U8V 0, .slice none 0 0, .slice none 0 0, .slice none 0 0, .slice none 0 0, .slice none 0 0] 87) := ⟨_, rfl⟩
      have qv0 : Nw wr V0 := by rw [hV0]; exact (Fr.refl (fun _ => False) wr).alloc _
      have g0 : Blk V0 E 87 #[I64 0, U8V 0, .slice none 0 0, .slice none 0 0, .slice none 0 0, .slice none 0 0, .slice none 0 0] := by rw [hV0, hE]; exact Blk.new _ _ _
      obtain ⟨V1, hV1⟩ : ∃ V, V = V0.setCells E 0 [I64 e.term, U8V e.kind, .slice e.cmd.a e.cmd.l.length e.cmd.c, .slice e.cfg.v.a e.cfg.v.l.length e.cfg.v.c, .slice e.cfg.o.a e.cfg.o.l.length e.cfg.o.c, .slice e.cfg.l.a e.cfg.l.l.length e.cfg.l.c, .slice e.cfg.w.a e.cfg.w.l.length e.cfg.w.c] := ⟨_, rfl⟩
      have g1 : Blk V1 E 87 #[I64 e.term, U8V e.kind, .slice e.cmd.a e.cmd.l.length e.cmd.c, .slice e.cfg.v.a e.cfg.v.l.length e.cfg.v.c, .slice e.cfg.o.a e.cfg.o.l.length e.cfg.o.c, .slice e.cfg.l.a e.cfg.l.l.length e.cfg.l.c, .slice e.cfg.w.a e.cfg.w.l.length e.cfg.w.c] := by rw [hV1]; exact Blk.setCells (l := [I64 0, U8V 0, .slice none 0 0, .slice none 0 0, .slice none 0 0, .slice none 0 0, .slice none 0 0]) g0 0 [I64 e.term, U8V e.kind, .slice e.cmd.a e.cmd.l.length e.cmd.c, .slice e.cfg.v.a e.cfg.v.l.length e.cfg.v.c, .slice e.cfg.o.a e.cfg.o.l.length e.cfg.o.c, .slice e.cfg.l.a e.cfg.l.l.length e.cfg.l.c, .slice e.cfg.w.a e.cfg.w.l.length e.cfg.w.c]
      have m1 : Fr (· = E) V0 V1 := by rw [hV1]; exact (Fr.refl (· = E) _).setCells _ _
      have qv1 : Nw wr V1 := qv0.new m1 (fun b hb => by omega)
      have th1 := Blk.there (l := [I64 0, U8V 0, .slice none 0 0, .slice none 0 0, .slice none 0 0, .slice none 0 0, .slice none 0 0]) g0 0 7 (by show 0 + 7 ≤ 7; omega)
      have one1 := entA_one e
      have hC3 := hC.fr qv1 (fun _ _ h => h)
      have hFE : ¬ FC E := fun hF => by have := hC.bound _ hF; omega
      have hS : ∀ w1, Fr FC V1 w1 → w1.cell? ⟨E, 0, none⟩ = some (I64 e.term) ∧ w1.cell? ⟨E, 1, none⟩ = some (U8V e.kind) ∧ w1.cell? ⟨E, 2, none⟩ = some (.slice e.cmd.a e.cmd.l.length e.cmd.c) := fun w1 f => by
        have a := g1.fr f hFE
        exact ⟨by simpa using a.cell 0, by simpa using a.cell 1, by simpa using a.cell 2⟩
      have hap1 : ∀ wz F', Fr FC V1 wz → (∀ k, F' k → FC k ∨ V1.heap.size ≤ k) → Apart wz F2 F' := fun wz F' f n => ((hap.fr fC nC).fr qv1 (fun _ h => .inl h)).fr f n
      have hby : ∀ wz, Fr FC V1 wz → Sl wz F2 e.cmd.a (e.cmd.l.map B8) := fun wz f => ((ie.cmd.nw qv1).fr f ((hap.fr fC nC).no)).sl
      have hr2 : ∀ x ∈ [e.term, e.kind], Right x := by
        intro z hz
        simp only [List.mem_cons, List.not_mem_nil, or_false] at hz
        rcases hz with rfl | rfl <;> exact int_right _ (by omega) (by omega)
      have M1 := encAll_le [e.term, e.kind]
      simp only [List.length_cons, List.length_nil] at M1
      have M2 := rowB_most e.cmd.l
      have l3 : ∀ w1, Fr FC V1 w1 → ∀ p u, ([.slice e.cfg.v.a e.cfg.v.l.length e.cfg.v.c, .slice e.cfg.o.a e.cfg.o.l.length e.cfg.o.c, .slice e.cfg.l.a e.cfg.l.l.length e.cfg.l.c, .slice e.cfg.w.a e.cfg.w.l.length e.cfg.w.c] : List Value)[p]? = some u → w1.cell? ⟨E, 3 + p, none⟩ = some u := fun w1 f => Blk.cells_in (l := [I64 e.term, U8V e.kind, .slice e.cmd.a e.cmd.l.length e.cmd.c, .slice e.cfg.v.a e.cfg.v.l.length e.cfg.v.c, .slice e.cfg.o.a e.cfg.o.l.length e.cfg.o.c, .slice e.cfg.l.a e.cfg.l.l.length e.cfg.l.c, .slice e.cfg.w.a e.cfg.w.l.length e.cfg.w.c]) (g1.fr f hFE) 3 4
      have hst := WrC.start (cl := [⟨6, 7, 3, #[I64 e.term, I64 e.kind], encAll [e.term, e.kind]⟩, ⟨10, 11, 48, #[.slice e.cmd.a e.cmd.l.length e.cmd.c], rowB e.cmd.l⟩]) hC3 (fun _ => (0, none))
      have hcon : ∀ w2 F', Fr FC V1 w2 → (∀ k, F' k → FC k ∨ V1.heap.size ≤ k) → IsWr w2 F' g (W8 (bs0 ++ callsB [⟨6, 7, 3, #[I64 e.term, I64 e.kind], encAll [e.term, e.kind]⟩, ⟨10, 11, 48, #[.slice e.cmd.a e.cmd.l.length e.cmd.c], rowB e.cmd.l⟩])) → Calls Tryz.prog 204 #[.pointer (some ⟨g, 0, none⟩), .agg #[.slice e.cfg.v.a e.cfg.v.l.length e.cfg.v.c, .slice e.cfg.o.a e.cfg.o.l.length e.cfg.o.c, .slice e.cfg.l.a e.cfg.l.l.length e.cfg.l.c, .slice e.cfg.w.a e.cfg.w.l.length e.cfg.w.c]] w2 fun e9 w' => e9 = .returned (.tuple #[]) ∧ WrTo V1 FC g (W8 (bs0 ++ entB e.x)) w' := by
        intro w2 F' f2 n2 hw2
        refine (jconfig_any w2 F' F2 g _ hw2 e.cfg ((ie.cfg.nw qv1).fr f2 ((hap.fr fC nC).no)) hsze (hap1 w2 F' f2 n2) (cfgOk_R hcf) (by simp [callsB]; omega)).mono ?_
        rintro e9 w' ⟨rfl, t⟩
        refine ⟨rfl, WrTo.after f2 n2 ?_⟩
        have e1 : bs0 ++ callsB [⟨6, 7, 3, #[I64 e.term, I64 e.kind], encAll [e.term, e.kind]⟩, ⟨10, 11, 48, #[.slice e.cmd.a e.cmd.l.length e.cmd.c], rowB e.cmd.l⟩] ++ cfgB e.cfg.x = bs0 ++ entB e.x := by simp [callsB, entB, encAll]
        rw [e1] at t
        exact t
      have HB := Lib.hid hbs0
      have HSN := Lib.hid hsn
      have HE0 := Lib.hid hE
      have HV0 := Lib.hid hV0
      have HV1 := Lib.hid hV1
      have HCON := Lib.hid hcon
      have HL3 := Lib.hid l3
      have hap3 := hap1
      clear hE hV0 hV1 hbs0 hsn hcon l3 hee hap1 g0 g1 m1 hC3
      go_upto_region 4 with (first | (refine wl_load_cells rfl 87 _ rfl b (of + k * 7) rfl [I64 e.term, U8V e.kind, .slice e.cmd.a e.cmd.l.length e.cmd.c, .slice e.cfg.v.a e.cfg.v.l.length e.cfg.v.c, .slice e.cfg.o.a e.cfg.o.l.length e.cfg.o.c, .slice e.cfg.l.a e.cfg.l.l.length e.cfg.l.c, .slice e.cfg.w.a e.cfg.w.l.length e.cfg.w.c] _ hc Tryz.underlying87 rfl (by kernel_rfl) ?_) | (rw [← HE0.out, ← HV0.out]; refine wpList_store_mid rfl 87 _ _ rfl E 0 #[I64 e.term, U8V e.kind, .slice e.cmd.a e.cmd.l.length e.cmd.c, .slice e.cfg.v.a e.cfg.v.l.length e.cfg.v.c, .slice e.cfg.o.a e.cfg.o.l.length e.cfg.o.c, .slice e.cfg.l.a e.cfg.l.l.length e.cfg.l.c, .slice e.cfg.w.a e.cfg.w.l.length e.cfg.w.c] rfl rfl th1 (by kernel_rfl) one1 ?_; rw [← HV1.out]))
      refine wp_region_eff2 _ _ (by kernel_rfl) (by kernel_rfl) hst ?_
      clear hst
      apply wpEff2_cons
      focus
        intro B L wz hL hD hC
        refine .inl ⟨by rfl, ?_⟩
        obtain ⟨y0, y1, y2⟩ := hS wz hC.fr
        unfold effAt
        go_simp
        exact ⟨rfl, hC.keep _ (by rfl)⟩
      simp only [Act.put, List.setIfInBounds_toArray, List.set_cons_zero, List.set_cons_succ]
      apply wpEff2_cons
      focus
        intro B L wz hL hD hC
        refine .inl ⟨by rfl, ?_⟩
        obtain ⟨y0, y1, y2⟩ := hS wz hC.fr
        unfold effAt
        go_simp
        exact ⟨rfl, hC.keep _ (by rfl)⟩
      simp only [Act.put, List.setIfInBounds_toArray, List.set_cons_zero, List.set_cons_succ]
      apply wpEff2_cons
      focus
        intro B L wz hL hD hC
        refine .inl ⟨by rfl, ?_⟩
        obtain ⟨y0, y1, y2⟩ := hS wz hC.fr
        unfold effAt
        go_simp
        exact ⟨rfl, hC.keep _ (by rfl)⟩
      simp only [Act.put, List.setIfInBounds_toArray, List.set_cons_zero, List.set_cons_succ]
      apply wpEff2_cons
      focus
        intro B L wz hL hD hC
        refine .inl ⟨by rfl, ?_⟩
        obtain ⟨y0, y1, y2⟩ := hS wz hC.fr
        unfold effAt
        go_simp
        exact ⟨rfl, hC.keep _ (by rfl)⟩
      simp only [Act.put, List.setIfInBounds_toArray, List.set_cons_zero, List.set_cons_succ]
      apply wpEff2_cons
      focus
        intro B L wz hL hD hC
        refine .inl ⟨by rfl, ?_⟩
        obtain ⟨y0, y1, y2⟩ := hS wz hC.fr
        unfold effAt
        go_simp
        exact ⟨rfl, hC.keep _ (by rfl)⟩
      simp only [Act.put, List.setIfInBounds_toArray, List.set_cons_zero, List.set_cons_succ]
      apply wpEff2_cons
      focus
        intro B L wz hL hD hC
        refine .inl ⟨by rfl, ?_⟩
        obtain ⟨y0, y1, y2⟩ := hS wz hC.fr
        unfold effAt
        go_simp
        exact ⟨rfl, hC.keep _ (by rfl)⟩
      simp only [Act.put, List.setIfInBounds_toArray, List.set_cons_zero, List.set_cons_succ]
      refine wpEff2_free (fun b => .slice (some ⟨b.1, 0, none⟩) 2 2) ?_ ?_
      focus
        intro B L wz hL hD hC
        refine .inl ⟨by rfl, ?_⟩
        unfold effAt2
        go_simp
        exact ⟨(wz.heap.size, none), rfl, hC.make 6 3 #[I64 e.term, I64 e.kind] (by intro d hd hk; simp only [List.mem_cons, List.not_mem_nil, or_false] at hd; rcases hd with rfl | rfl <;> first | exact ⟨rfl, rfl⟩ | exact absurd hk (by simp)) (by rfl)⟩
      simp only [Act.put, List.setIfInBounds_toArray, List.set_cons_zero, List.set_cons_succ]
      apply wpEff2_cons
      focus
        intro B L wz hL hD hC
        obtain ⟨F', h1, h2, h3, h4, h5⟩ := hC.call 0 _ rfl hL (hD 6 (by kernel_rfl)) (.inl rfl) (by rfl) (by rfl)
        have hfr := hC.fr
        refine .inl ⟨by rfl, ?_⟩
        unfold effAt
        go_simp
        refine (wk_nums wz F' g _ h1 (B 6).1 2 [e.term, e.kind] #[I64 e.term, I64 e.kind] h2 h3 rfl rfl (by omega) hr2 (by simp only [callsB, List.take_zero, List.map_nil, List.flatten_nil, List.append_nil]; omega)).mono ?_
        rintro e w9 ⟨rfl, ht⟩
        exact ⟨rfl, h5 _ (ht)⟩
      simp only [Act.put, List.setIfInBounds_toArray, List.set_cons_zero, List.set_cons_succ]
      apply wpEff2_cons
      focus
        intro B L wz hL hD hC
        refine .inl ⟨by rfl, ?_⟩
        obtain ⟨y0, y1, y2⟩ := hS wz hC.fr
        unfold effAt
        go_simp
        exact ⟨rfl, hC.keep _ (by rfl)⟩
      simp only [Act.put, List.setIfInBounds_toArray, List.set_cons_zero, List.set_cons_succ]
      apply wpEff2_cons
      focus
        intro B L wz hL hD hC
        refine .inl ⟨by rfl, ?_⟩
        obtain ⟨y0, y1, y2⟩ := hS wz hC.fr
        unfold effAt
        go_simp
        exact ⟨rfl, hC.keep _ (by rfl)⟩
      simp only [Act.put, List.setIfInBounds_toArray, List.set_cons_zero, List.set_cons_succ]
      refine wpEff2_free (fun b => .slice (some ⟨b.1, 0, none⟩) 1 1) ?_ ?_
      focus
        intro B L wz hL hD hC
        refine .inl ⟨by rfl, ?_⟩
        unfold effAt2
        go_simp
        exact ⟨(wz.heap.size, none), rfl, hC.make 10 48 #[.slice e.cmd.a e.cmd.l.length e.cmd.c] (by intro d hd hk; simp only [List.mem_cons, List.not_mem_nil, or_false] at hd; rcases hd with rfl | rfl <;> first | exact ⟨rfl, rfl⟩ | exact absurd hk (by simp)) (by rfl)⟩
      simp only [Act.put, List.setIfInBounds_toArray, List.set_cons_zero, List.set_cons_succ]
      apply wpEff2_cons
      focus
        intro B L wz hL hD hC
        obtain ⟨F', h1, h2, h3, h4, h5⟩ := hC.call 1 _ rfl hL (hD 10 (by kernel_rfl)) (.inr ⟨0, _, rfl, rfl, hD 7 (by kernel_rfl)⟩) (by rfl) (by rfl)
        have hfr := hC.fr
        refine .inl ⟨by rfl, ?_⟩
        unfold effAt
        go_simp
        refine (wk_row wz F' _ g _ h1 (B 10).1 e.cmd.a e.cmd.c e.cmd.l h2 h3 (hby wz hfr) (hap3 wz F' hfr h4) (by omega) hcap.1 hcap.2 (by simp [callsB]; omega)).mono ?_
        rintro e w9 ⟨rfl, ht⟩
        exact ⟨rfl, h5 _ (ht)⟩
      simp only [Act.put, List.setIfInBounds_toArray, List.set_cons_zero, List.set_cons_succ]
      refine wpEff2_nil fun B w11 hC5 => ?_
      obtain ⟨FD, hD, fD, nD⟩ := hC5.done (by intro d hd; simp only [List.mem_cons, List.not_mem_nil, or_false] at hd; rcases hd with rfl | rfl <;> rfl)
      have hcc := HCON.out w11 FD fD nD hD
      have hl3 := HL3.out w11 fD
      clear hC5 hD hS hby hap3
      go_wp2_with (refine wl_load_cells rfl 45 _ rfl E 3 rfl [.slice e.cfg.v.a e.cfg.v.l.length e.cfg.v.c, .slice e.cfg.o.a e.cfg.o.l.length e.cfg.o.c, .slice e.cfg.l.a e.cfg.l.l.length e.cfg.l.c, .slice e.cfg.w.a e.cfg.w.l.length e.cfg.w.c] _ hl3 Tryz.underlying45 rfl (by kernel_rfl) ?_)
      refine hcc.mono ?_
      rintro e9 w12 ⟨rfl, t⟩
      go_wp2_with fail
      go_roundw
      case rel =>
        refine ⟨k + 1, by omega, by go_num, ?_⟩
        rw [HSN.out, ← List.append_assoc, HB.out]
        exact WrTo.after fC nC (WrTo.after (Nw.on qv1) (fun _ h => .inl h) t)
      case measure => simp [intOf]; omega
    · obtain rfl : k = l.length := by omega
      go_wp2_with fail
      go_ret
      rw [List.take_of_length_le (Nat.le_refl _)] at hC
      exact ⟨rfl, FC, hC, fC, nC⟩
end Go.Proofs.YtippdjaakcgeoaaGreat
