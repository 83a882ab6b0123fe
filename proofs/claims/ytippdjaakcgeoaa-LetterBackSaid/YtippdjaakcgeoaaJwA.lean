/- Letters written, by the program: rows of numbers, configs, entries, bases. -/
import Derived.Test.YtippdjaakcgeoaaClA
import Derived.Test.YtippdjaakcgeoaaWkA
namespace Go.Proofs.Ytippdjaakcgeoaa
open Go Go.RowKit
set_option linter.unusedVariables false
set_option linter.unusedSimpArgs false
theorem WrTo.after {w w1 w2 : World} {F F1 : Nat → Prop} {g : Nat} {s2 : Wr} (hf : Fr F w w1) (hn : ∀ k, F1 k → F k ∨ w.heap.size ≤ k) (h : WrTo w1 F1 g s2 w2) : WrTo w F g s2 w2 := by
  obtain ⟨F2, h1, h2, h3⟩ := h
  have hs := hf.size
  exact ⟨F2, h1, hf.trans h2 hn, fun k hk => (h3 k hk).elim (hn k) (fun h => .inr (by omega))⟩
theorem nat_right (n : Nat) (h : n ≤ 1073741824) : Right (n : Int) := ⟨by omega, by unfold topN; omega⟩
theorem int_right (n : Int) (h0 : 0 ≤ n) (h : n ≤ 1073741824) : Right n := ⟨h0, by unfold topN; omega⟩
theorem encAll_le (l : List Int) : (encAll l).length ≤ 9 * l.length := by
  induction l with
  | nil => simp [encAll]
  | cons n l ih =>
    have e : encAll (n :: l) = enc n.toNat ++ encAll l := rfl
    have := enc_len n.toNat
    rw [e, List.length_append, List.length_cons]
    omega
theorem Apart.fr {w w' : World} {F2 F F' S : Nat → Prop} (h : Apart w F2 F) (hf : Fr S w w') (hn : ∀ k, F' k → F k ∨ w.heap.size ≤ k) : Apart w' F2 F' := h.step hf.size hn
def NdsR (l : List Int) : Prop := ∀ n ∈ l, Right n
theorem numsB_le (l : List Int) : (numsB l).length ≤ 9 * l.length + 9 := by
  have := enc_len l.length
  have := encAll_le l
  unfold numsB
  rw [List.length_append]
  omega
set_option maxRecDepth 100000 in
set_option maxHeartbeats 4000000 in
theorem jnumbers_any (w : World) (F F2 : Nat → Prop) (g : Nat) (bs : List UInt8) (h : IsWr w F g (W8 bs)) (A : Option Addr) (c : Nat) (l : List Int) (hs : Sl w F2 A (intsC l)) (hap : Apart w F2 F) (hr : ∀ n ∈ l, Right n) (hl : l.length ≤ 1000000) (hsz : bs.length ≤ 600000000000) :
    Calls Try.prog 103 #[.pointer (some ⟨g, 0, none⟩), .slice A l.length c] w fun e w' => e = .returned (.tuple #[]) ∧ WrTo w F g (W8 (bs ++ numsB l)) w' := by
  obtain ⟨n, hn⟩ : ∃ n, l.length = n := ⟨_, rfl⟩
  obtain ⟨W1, hW1⟩ : ∃ W1, W1 = w.alloc (.cells #[I64 n] 3) := ⟨_, rfl⟩
  have q1 : Nw w W1 := by rw [hW1]; exact (Fr.refl (fun _ => False) w).alloc _
  have b1 : Blk W1 w.heap.size 3 #[I64 n] := by rw [hW1]; exact Blk.new w _ _
  have h1 := h.fr q1 (fun _ _ h => h)
  have hF1 : ¬ F w.heap.size := fun hF => by have := h.bound _ hF; omega
  have hcon := wk_nums W1 F g bs h1 w.heap.size 1 [(n : Int)] #[I64 n] b1 hF1 rfl rfl (by omega) (by intro x hx; rw [List.mem_singleton.1 hx]; exact nat_right _ (by omega)) (by omega)
  have e1 : encAll [(n : Int)] = enc n := by simp [encAll]
  rw [e1] at hcon
  have hcon2 : ∀ w2, WrTo W1 F g (W8 (bs ++ enc n)) w2 → Calls Try.prog 53 #[.pointer (some ⟨g, 0, none⟩), .slice A n c] w2 fun e w' => e = .returned (.pointer (some ⟨g, 0, none⟩)) ∧ WrTo w F g (W8 (bs ++ numsB l)) w' := by
    intro w2 ht
    obtain ⟨F', t1, t2, t3⟩ := ht
    have f02 : Fr F w w2 := (Nw.on q1).tr t2
    have n02 : ∀ k, F' k → F k ∨ w.heap.size ≤ k := fun k hk => (t3 k hk).elim .inl (fun h => .inr (Nat.le_trans q1.size h))
    have he := enc_len n
    have hc := numbers_any w2 F' F2 g (W8 (bs ++ enc n)) t1 A c l (hs.fr f02 hap.no) (hap.fr f02 n02) (by omega) (by show (bs ++ enc n).length ≤ _; rw [List.length_append]; omega)
    rw [hn, wrNums_right _ _ hr] at hc
    refine hc.mono ?_
    rintro e w' ⟨rfl, t⟩
    refine ⟨rfl, WrTo.after f02 n02 ?_⟩
    have e2 : (⟨(W8 (bs ++ enc n)).ok, (W8 (bs ++ enc n)).bs ++ encAll l⟩ : Wr) = W8 (bs ++ numsB l) := by
      show (⟨true, (bs ++ enc n) ++ encAll l⟩ : Wr) = _
      rw [List.append_assoc, ← hn]
      rfl
    rw [← e2]
    exact t
  rw [hn]
  have HW1 := Lib.hid hW1
  have HN := Lib.hid hn
  clear hW1 hn
  go_enter Try.func103, Try.ntmps103
  go_wp2_with fail
  rw [← HW1.out]
  refine hcon.mono ?_
  rintro e w2 ⟨rfl, t⟩
  have hc2 := hcon2 w2 t
  go_wp2_with fail
  refine hc2.mono ?_
  rintro e w3 ⟨rfl, t3⟩
  go_wp2_with fail
  go_end0
  exact ⟨rfl, t3⟩
/-- How many bytes a config has at most. -/
def cfgM (c : Cfg) : Nat := c.v.length + c.o.length + c.l.length + c.w.length
theorem cfgB_le (c : Cfg) : (cfgB c).length ≤ 9 * cfgM c + 36 := by
  have h1 := numsB_le c.v
  have h2 := numsB_le c.o
  have h3 := numsB_le c.l
  have h4 := numsB_le c.w
  unfold cfgB cfgM
  simp only [List.length_append]
  omega
structure CfgR (c : Cfg) : Prop where
  v : NdsR c.v
  o : NdsR c.o
  l : NdsR c.l
  w : NdsR c.w
def cfg4 (c : Cfg) : List (List Int) := [c.v, c.o, c.l, c.w]
def JcRel (w : World) (F : Nat → Prop) (g : Nat) (bs : List UInt8) (l4 : List (List Int)) (i : Value) (wr : World) : Prop :=
  ∃ k : Nat, k ≤ 4 ∧ i = .int .i64 k ∧ WrTo w F g (W8 (bs ++ ((l4.take k).map numsB).flatten)) wr
set_option maxRecDepth 100000 in
set_option maxHeartbeats 4000000 in
theorem jconfig_any (w : World) (F F2 : Nat → Prop) (g : Nat) (bs : List UInt8) (h : IsWr w F g (W8 bs)) (x : CfgM) (hx : CfgIn w F2 x) (hz : CfgSz x) (hap : Apart w F2 F) (hr : CfgR x.x) (hsz : bs.length ≤ 500000000000) :
    Calls Try.prog 98 #[.pointer (some ⟨g, 0, none⟩), .agg (cfgA x)] w fun e w' => e = .returned (.tuple #[]) ∧ WrTo w F g (W8 (bs ++ cfgB x.x)) w' := by
  obtain ⟨X, hX⟩ : ∃ X, X = w.heap.size := ⟨_, rfl⟩
  obtain ⟨Y, hY⟩ : ∃ Y, Y = w.heap.size + 1 := ⟨_, rfl⟩
  obtain ⟨W0, hW0⟩ : ∃ W, W = w.alloc (.cells #[.slice x.v.a x.v.l.length x.v.c, .slice x.o.a x.o.l.length x.o.c, .slice x.l.a x.l.l.length x.l.c, .slice x.w.a x.w.l.length x.w.c] 35) := ⟨_, rfl⟩
  have p0 : Nw w W0 := by rw [hW0]; exact (Fr.refl (fun _ => False) _).alloc _
  have x0 : Blk W0 X 35 #[.slice x.v.a x.v.l.length x.v.c, .slice x.o.a x.o.l.length x.o.c, .slice x.l.a x.l.l.length x.l.c, .slice x.w.a x.w.l.length x.w.c] := by rw [hW0, hX]; exact Blk.new _ _ _
  have hz0 : W0.heap.size = Y := by rw [hW0, hY]; simp
  have cv : W0.cell? ⟨X, 0, none⟩ = some (.slice x.v.a x.v.l.length x.v.c) := by simpa using x0.cell 0
  have co : W0.cell? ⟨X, 1, none⟩ = some (.slice x.o.a x.o.l.length x.o.c) := by simpa using x0.cell 1
  have cl : W0.cell? ⟨X, 2, none⟩ = some (.slice x.l.a x.l.l.length x.l.c) := by simpa using x0.cell 2
  have cw : W0.cell? ⟨X, 3, none⟩ = some (.slice x.w.a x.w.l.length x.w.c) := by simpa using x0.cell 3
  obtain ⟨W1, hW1⟩ : ∃ W, W = W0.alloc (.cells #[.slice x.v.a x.v.l.length x.v.c, .slice x.o.a x.o.l.length x.o.c, .slice x.l.a x.l.l.length x.l.c, .slice x.w.a x.w.l.length x.w.c] 33) := ⟨_, rfl⟩
  have p1 : Nw W0 W1 := by rw [hW1]; exact (Fr.refl (fun _ => False) _).alloc _
  have y1 : Blk W1 Y 33 #[.slice x.v.a x.v.l.length x.v.c, .slice x.o.a x.o.l.length x.o.c, .slice x.l.a x.l.l.length x.l.c, .slice x.w.a x.w.l.length x.w.c] := by rw [hW1, ← hz0]; exact Blk.new _ _ _
  have Q1 : Nw w W1 := p0.tr p1
  have h1 := h.fr Q1 (fun _ _ h => h)
  have hYF : ¬ F Y := fun hF => by have := h.bound _ hF; omega
  have hx1 := hx.nw Q1
  have hap1 : Apart W1 F2 F := hap.fr Q1 (fun _ h => .inl h)
  have hrow : ∀ k, k < 4 → ∃ s : Ls Int, (#[.slice x.v.a x.v.l.length x.v.c, .slice x.o.a x.o.l.length x.o.c, .slice x.l.a x.l.l.length x.l.c, .slice x.w.a x.w.l.length x.w.c] : Array Value)[k]? = some (.slice s.a s.l.length s.c) ∧ Sl W1 F2 s.a (intsC s.l) ∧ NdsR s.l ∧ s.l.length ≤ 1000000 ∧ (cfg4 x.x)[k]? = some s.l := by
    intro k hk
    match k, hk with
    | 0, _ => exact ⟨x.v, rfl, hx1.v.sl, hr.v, hz.v, rfl⟩
    | 1, _ => exact ⟨x.o, rfl, hx1.o.sl, hr.o, hz.o, rfl⟩
    | 2, _ => exact ⟨x.l, rfl, hx1.l.sl, hr.l, hz.l, rfl⟩
    | 3, _ => exact ⟨x.w, rfl, hx1.w.sl, hr.w, hz.w, rfl⟩
  have hall : ((cfg4 x.x).map numsB).flatten = cfgB x.x := by simp [cfg4, cfgB]
  have hmost : ∀ k, (((cfg4 x.x).take k).map numsB).flatten.length ≤ 100000000 := by
    intro k
    have h1 := cfgB_le x.x
    have h2 : cfgM x.x ≤ 4000000 := by have h1 := hz.v; have h2 := hz.o; have h3 := hz.l; have h4 := hz.w; show x.v.l.length + x.o.l.length + x.l.l.length + x.w.l.length ≤ _; omega
    have h3 : (((cfg4 x.x).take k).map numsB).flatten.length ≤ (cfgB x.x).length := by
      rw [← hall]
      conv => rhs; rw [← List.take_append_drop k (cfg4 x.x), List.map_append, List.flatten_append, List.length_append]
      omega
    omega
  obtain ⟨l4, hl4⟩ : ∃ l4, cfg4 x.x = l4 := ⟨_, rfl⟩
  rw [hl4] at hrow hall hmost
  have h4 : l4.length = 4 := by rw [← hl4]; rfl
  have HALL := Lib.hid hall
  have HROW := Lib.hid hrow
  have HW0 := Lib.hid hW0
  have HW1 := Lib.hid hW1
  have HX := Lib.hid hX
  have HZ0 := Lib.hid hz0
  clear hW0 hW1 hX hY hz0 hrow hall hl4
  go_enter Try.func98, Try.ntmps98
  go_upto_region 1 with (fail)
  rw [← HX.out, ← HW0.out]
  go_wp2_with fail
  rw [← HW1.out, HZ0.out]
  have hj0 : WrTo W1 F g (W8 (bs ++ ((l4.take 0).map numsB).flatten)) W1 := ⟨F, by simpa using h1, Fr.refl _ _, fun k hk => .inl hk⟩
  clear h1 cv co cl cw x0
  go_loopw [16] (fun i wr => JcRel W1 F g bs l4 i wr) (fun i _ => 4 - (intOf i).toNat)
  case atStart => exact ⟨0, by omega, rfl, hj0⟩
  case round =>
    clear hj0
    obtain ⟨k, hk, rfl, FC, hC, fC, nC⟩ := hrel
    have yr := y1.fr fC hYF
    by_cases hlt : k < 4
    · obtain ⟨s, hs1, hs2, hs3, hs4, hs5⟩ := HROW.out k hlt
      have ck : wr.cell? ⟨Y, k, none⟩ = some (.slice s.a s.l.length s.c) := (yr.cell k).trans hs1
      have hcon := jnumbers_any wr FC F2 g _ hC s.a s.c s.l (hs2.fr fC hap1.no) (hap1.fr fC nC) hs3 hs4 (by have := hmost k; rw [List.length_append]; omega)
      have hi0 : (k : Int) < 4 := by omega
      have HS := Lib.hid (And.intro hs1 hs5)
      clear hs1 hs5 yr
      go_wp2_with fail
      refine hcon.mono ?_
      rintro e w2 ⟨rfl, t⟩
      go_wp2_with fail
      go_roundw
      case rel =>
        obtain ⟨hs1, hs5⟩ := HS.out
        have hkl : k < l4.length := by omega
        have e5 : l4[k] = s.l := by rw [List.getElem?_eq_getElem hkl] at hs5; injection hs5
        refine ⟨k + 1, by omega, by go_num, WrTo.after fC nC ?_⟩
        have e : bs ++ ((l4.take (k + 1)).map numsB).flatten = bs ++ ((l4.take k).map numsB).flatten ++ numsB s.l := by
          rw [List.take_succ_eq_append_getElem hkl, e5, List.map_append, List.flatten_append]
          simp
        rw [e]
        exact t
      case measure => simp [intOf]; omega
    · obtain rfl : k = 4 := by omega
      go_wp2_with fail
      go_end0
      rw [List.take_of_length_le (by omega), HALL.out] at hC
      exact ⟨rfl, WrTo.after (Nw.on Q1) (fun k hk => .inl hk) ⟨FC, hC, fC, nC⟩⟩
end Go.Proofs.Ytippdjaakcgeoaa
