/- Lemmas of the walks: FlA, CpA, CpB, CpC, ClA, Qld. (Laid together by shake.py.) -/
import Derived.Deep.DeepCutAuto
import Derived.Deep.RegionHeld3
import Derived.Test.YtippdjaakcgeoaaGreatEa02
import Derived.Test.YtippdjaakcgeoaaGreatEa03
set_option linter.unusedVariables false
set_option linter.unusedSimpArgs false
set_option maxRecDepth 100000
set_option maxHeartbeats 16000000
namespace Go.Proofs.YtippdjaakcgeoaaGreat
open Go Go.RowKit
def hom (A : Option Addr) (c : Nat) : Option Addr := if c = 0 then none else A
theorem zeE (A : Option Addr) {c : Nat} (h : 0 < c) : hom A c = A := if_neg (by omega)
theorem zdr {A : Option Addr} {c b : Nat} (h : inA (hom A c) b) : inA A b ∧ 0 < c := by
 unfold hom at h
 split at h
 ·exact (zaH _ h).elim
 ·exact ⟨h, by omega⟩
theorem zm2 (A : Option Addr) (b : Nat) : ¬ inA (hom A 0) b := fun h => by have := (zdr h).2; omega
def OwnC (w : World) (E : TypeId) (z : Nat) (A : Option Addr) (n cap : Nat) (cs : List Value) : Prop := (Own w E z A n cap cs ∧ 0 < cap) ∨ (n = 0 ∧ cap = 0 ∧ cs = [])
section
variable {w w' : World} {E E' : TypeId} {z z' n n' cap cap' : Nat} {A A' : Option Addr} {cs cs' : List Value} {S : Nat → Prop}
theorem Own.c (h : Own w E z A n cap cs) : OwnC w E z A n cap cs := by
 rcases Nat.eq_zero_or_pos cap with h0 | h0
 ·have h1 := h.cap_le.1
  have h2 : n = 0 := by omega
  have h3 := h.1
  rw [h2, Nat.zero_mul] at h3
  exact .inr ⟨h2, h0, List.eq_nil_of_length_eq_zero h3⟩
 ·exact .inl ⟨h, h0⟩
theorem OwnC.len (h : OwnC w E z A n cap cs) : cs.length = n * z := by
 rcases h with ⟨h, _⟩ | ⟨rfl, _, rfl⟩
 ·exact h.1
 ·simp
theorem OwnC.cap_le (h : OwnC w E z A n cap cs) : n ≤ cap ∧ cap ≤ maxLen := by
 rcases h with ⟨h, _⟩ | ⟨rfl, rfl, rfl⟩
 ·exact h.cap_le
 ·exact ⟨Nat.le_refl _, Nat.zero_le _⟩
theorem OwnC.fr (h : OwnC w E z A n cap cs) (hf : Fr S w w') (hn : ∀ k, inA (hom A cap) k → ¬ S k) : OwnC w' E z A n cap cs := by
 rcases h with ⟨h, h0⟩ | h
 ·exact .inl ⟨h.fr hf (fun k hk => hn k (by rw [zeE A h0]; exact hk)), h0⟩
 ·exact .inr h
theorem OwnC.nw (h : OwnC w E z A n cap cs) (hf : Nw w w') : OwnC w' E z A n cap cs := h.fr hf (fun _ _ h => h)
theorem OwnC.lt (h : OwnC w E z A n cap cs) : ∀ k, inA (hom A cap) k → k < w.heap.size := by
 intro k hk
 rcases h with ⟨h, h0⟩ | ⟨rfl, rfl, rfl⟩
 ·exact h.lt k (zdr hk).1
 ·exact (zm2 _ _ hk).elim
theorem OwnC.at_ (h : OwnC w E z A n cap cs) (h0 : 0 < cap) : ∃ g, A = some ⟨g, 0, none⟩ ∧ hom A cap = some ⟨g, 0, none⟩ ∧ Own w E z (some ⟨g, 0, none⟩) n cap cs := by
 rcases h with ⟨h, _⟩ | ⟨_, h1, _⟩
 ·rcases h.2 with ⟨_, _, h2⟩ | ⟨g, cur, rfl, _⟩
  ·omega
  ·exact ⟨g, rfl, zeE _ h0, h⟩
 ·omega
theorem OwnC.offB (h : OwnC w E z A n cap cs) {g : Nat} {t : TypeId} {bs : Array Value} (hb : Blk w g t bs) (hne : t ≠ E) : ¬ inA (hom A cap) g := by
 intro hk
 obtain ⟨_, h1⟩ := zdr hk
 obtain ⟨g', rfl, e1, o1⟩ := h.at_ h1
 rw [e1] at hk
 exact o1.ne_ hb hne hk
theorem Own.storeL {g : Nat} (h : Own w E z (some ⟨g, 0, none⟩) n cap cs) (o : Nat) (vs : List Value) : Own (w.setCells g o vs) E z (some ⟨g, 0, none⟩) n cap (putL cs o vs) := by
 induction vs generalizing w o cs with
 | nil => rw [zg3]; exact h
 | cons v vs ih =>
  rw [zft]
  exact ih (h.store o v) (o + 1)
theorem zmu (cs : List Value) (o : Nat) (vs : List Value) (h : o + vs.length ≤ cs.length) : putL cs o vs = cs.take o ++ (vs ++ cs.drop (o + vs.length)) := by
 induction vs generalizing o cs with
 | nil => rw [zg3]; simp
 | cons v vs ih =>
  simp only [List.length_cons] at h
  rw [zft, ih _ _ (by rw [List.length_set]; omega), List.take_succ_eq_append_getElem (by rw [List.length_set]; omega)]
  simp only [List.getElem_set_self, List.length_cons, List.append_assoc, List.cons_append, List.nil_append]
  rw [List.take_set_of_le (Nat.le_refl _), List.drop_set_of_lt (by omega)]
  congr 4
  omega
def AppC (w : World) (E : TypeId) (z : Nat) (A : Option Addr) (n cap m : Nat) (cs news : List Value) (A' : Option Addr) (cap' : Nat) (w' : World) : Prop :=
 Own w' E z A' (n + m) cap' (cs ++ news) ∧ ((n + m ≤ cap ∧ A' = A ∧ cap' = cap ∧ Fr (inA (hom A cap)) w w') ∨ (cap < n + m ∧ A' = some ⟨w.heap.size, 0, none⟩ ∧ Nw w w'))
variable {P : Program} {F : Nat → Prop}
theorem zim (w : World) (t ty : TypeId) (bytes : Nat) (zv : Value) (ht : P.underlying t = some (.slice E))
  (hinfo : (P.info? E).map (fun i => (i.zero, i.size, i.bytes)) = some (some zv, z, bytes)) (hzs : zv.cells.size = z) (hsz : 0 < z)
  (hown : OwnC w E z A n cap cs) {A2 : Option Addr} {m c : Nat} {news : List Value} (hsl : Sl w F A2 news) (hl : news.length = m * z) (h1 : ∀ u ∈ news, u.oneCell' = true)
  (hbytes : (n + m) * bytes ≤ 140737488355328) (hmax : n + m ≤ maxLen) (hm : 0 < m) :
  ∃ A' cap' w', (Builtin.append_ #[t, t] ty #[.slice A n cap, .slice A2 m c]).run P w = .ok (.slice A' (n + m) cap') w' ∧ AppC w E z A n cap m cs news A' cap' w' := by
 rcases hown with ⟨hown, h0⟩ | ⟨rfl, rfl, rfl⟩
 ·obtain ⟨A', cap', w', hr, h2, _, h3⟩ := zbG (P := P) w t ty bytes zv ht hinfo hzs hsz hown hsl hl h1 hbytes hmax (c := c)
  refine ⟨A', cap', w', hr, h2, ?_⟩
  rw [zeE A h0]
  exact h3
 ·obtain ⟨i, hi, hz0, hz1, hz2⟩ := info_parts hinfo
  subst hz1
  subst hz2
  have hne : news ≠ [] := by
   rintro rfl
   have := Nat.mul_pos hm hsz
   simp at hl; omega
  obtain ⟨b, o, rfl, _, _, hc⟩ := hsl.at_ hne
  have hcells : ∀ j u, news[j]? = some u → w.cell? ((⟨b, o, none⟩ : Addr).add j) = some u := by
   intro j u hu
   rw [Addr.add_lit]
   exact hc j u hu
  have hsmall : 0 + m ≤ 9223372036854775807 := by simp only [maxLen] at hmax; omega
  have fin : ∀ old, (Builtin.append_ #[t, t] ty #[.slice A 0 0, .slice (some ⟨b, o, none⟩) m c]).run P w = .ok (.slice (some ⟨w.heap.size, 0, none⟩) (0 + m) (grownCap w (0 + m) old E))
     (w.drew.alloc (.cells (([] : List Value).toArray ++ news.toArray ++ Builtin.zeroCells zv.cells (grownCap w (0 + m) old E - (0 + m))) E)) →
    ∃ A' cap' w', (Builtin.append_ #[t, t] ty #[.slice A 0 0, .slice (some ⟨b, o, none⟩) m c]).run P w = .ok (.slice A' (0 + m) cap') w' ∧ AppC w E i.size A 0 0 m [] news A' cap' w' := by
   intro old hr
   have hge := grownCap_ge w (0 + m) old E
   have hcm : grownCap w (0 + m) old E ≤ maxLen := grownCap_le_maxLen w (0 + m) old E hmax
   refine ⟨_, _, _, hr, ⟨by simp [hl], .inr ⟨w.heap.size, _, rfl, heap_alloc_new w.drew _, hge, hcm, ?_, ?_⟩⟩, .inr ⟨by omega, rfl, ((Fr.refl _ w).drew).alloc _⟩⟩
   ·simp only [Array.size_append, List.size_toArray, size_zeroCells, hzs, hl, List.length_nil, Nat.zero_add, ← Nat.add_mul]
    congr 1
    simp only [Nat.zero_add] at hge
    omega
   ·simp only [Array.toList_append, List.nil_append, Nat.zero_add]
    rw [← hl]
    exact List.take_left
  cases A with
  | none =>
   refine fin 0 ?_
   have hr := run_append_nil (P := P) w t ty E i zv ht hi hz0 _ m c news hl hcells (by omega) (by omega) (by have hb := hbytes; simp only [Nat.zero_add] at hb; omega)
   simp only [Nat.zero_add, Array.empty_append] at hr ⊢
   exact hr
  | some a =>
   refine fin 0 ?_
   exact run_append_grow (P := P) w t ty E i zv ht hi hz0 a 0 0 [] (by simp) (by intro j u hu; simp at hu) _ m c news hl hcells (by omega) (by omega) (growslice_fits (by omega) hbytes)
theorem zcu {w : World} {ops : Array Oper} {rest : List Oper} {o : Oper} {a : Act} {Q : Exit → Act → World → Prop} (hgd : o.guard = none) (s x : Operand) (t : TypeId)
  (ho : o.op = .call { callee := .builtin .append, args := #[s, x], argTypes := #[t, t] }) (bytes : Nat) (zv : Value) (ht : P.underlying t = some (.slice E))
  (hinfo : (P.info? E).map (fun i => (i.zero, i.size, i.bytes)) = some (some zv, z, bytes)) (hzs : zv.cells.size = z) (hsz : 0 < z)
  (hs : a.eval s = .slice A n cap) (hown : OwnC w E z A n cap cs) {A2 : Option Addr} {m c : Nat} {news : List Value} (hx : a.eval x = .slice A2 m c) (hsl : Sl w F A2 news) (hl : news.length = m * z) (h1 : ∀ u ∈ news, u.oneCell' = true)
  (hbytes : (n + m) * bytes ≤ 140737488355328) (hmax : n + m ≤ maxLen) (hm : 0 < m)
  (h : ∀ A' cap' w', AppC w E z A n cap m cs news A' cap' w' → wpList P ops Q rest (a.put o.dst (.slice A' (n + m) cap')) w') :
  wpList P ops Q (o :: rest) a w := by
 refine wpList_plain hgd fun K hK' => ?_
 obtain ⟨A', cap', w', hrun, h2⟩ := zim (P := P) w t o.type bytes zv ht hinfo hzs hsz hown hsl hl h1 hbytes hmax hm (c := c)
 unfold Oper.wp execOp
 simp only [ho, resolve, invoke, builtin, Sem.run_bind, Sem.run_pure, Result.andThen_ok, List.map_toArray, List.map_cons, List.map_nil, hs, hx]
 rw [hrun]
 exact hK' _ _ (h A' cap' w' h2)
end
theorem zaM.newOwn {w0 w w' : World} {E : TypeId} {size n cap m : Nat} {A A' : Option Addr} {cap' : Nat} {cs news : List Value} (h : zaM w E size A n cap m cs news A' cap' w') (hq : Nw w0 w) (hA : ∀ k, inA A k → w0.heap.size ≤ k) :
  Own w' E size A' (n + m) cap' (cs ++ news) ∧ Nw w0 w' ∧ (∀ k, inA A' k → w0.heap.size ≤ k) := by
 obtain ⟨ho2, _, hcase⟩ := h
 refine ⟨ho2, ?_, ?_⟩
 ·rcases hcase with ⟨_, rfl, _, hf⟩ | ⟨_, rfl, hf⟩
  ·exact hq.new hf hA
  ·exact hq.tr hf
 ·intro k hk
  rcases hcase with ⟨_, rfl, _, hf⟩ | ⟨_, rfl, hf⟩
  ·exact hA k hk
  ·rw [(za9 _ _).1 hk]; exact hq.size
theorem zaM.fr {w w' : World} {E : TypeId} {size n cap m : Nat} {A A' : Option Addr} {cap' : Nat} {cs news : List Value} (h : zaM w E size A n cap m cs news A' cap' w') : Fr (inA A) w w' := by
 obtain ⟨_, _, ⟨_, _, _, hf⟩ | ⟨_, _, hf⟩⟩ := h
 ·exact hf
 ·exact Nw.on hf
theorem zaM.inA_ {w w' : World} {E : TypeId} {size n cap m : Nat} {A A' : Option Addr} {cap' : Nat} {cs news : List Value} (h : zaM w E size A n cap m cs news A' cap' w') : ∀ j, inA A' j → inA A j ∨ j = w.heap.size := by
 intro j hj
 rcases h.2.2 with ⟨_, rfl, _, _⟩ | ⟨_, rfl, _⟩
 ·exact .inl hj
 ·exact .inr ((za9 _ _).1 hj)
def mksL (mk : Nat → Nat → List Value) (k n : Nat) : List Value := ((List.range n).map (mk k)).flatten
section
variable {mk : Nat → Nat → List Value} {z : Nat}
theorem zaZ (hmk : ∀ k i, (mk k i).length = z) (k n : Nat) : (mksL mk k n).length = n * z := by
 unfold mksL
 induction n with
 | zero => simp
 | succ n ih => rw [List.range_succ, List.map_append, List.flatten_append, List.length_append, ih]; simp [hmk, Nat.succ_mul]
theorem zcU (mk : Nat → Nat → List Value) (k n : Nat) : mksL mk k (n + 1) = mksL mk k n ++ mk k n := by
 unfold mksL
 rw [List.range_succ, List.map_append, List.flatten_append]
 simp
theorem zcD (hmk : ∀ k i, (mk k i).length = z) (k n i : Nat) (h : i ≤ n) : (mksL mk k n).take (i * z) = mksL mk k i := by
 induction n with
 | zero =>
  obtain rfl : i = 0 := by omega
  simp [mksL]
 | succ n ih =>
  rcases Nat.lt_or_ge i (n + 1) with h1 | h1
  ·rw [zcU, List.take_append_of_le_length (by rw [zaZ hmk]; exact Nat.mul_le_mul_right _ (by omega))]
   exact ih (by omega)
  ·obtain rfl : i = n + 1 := by omega
   rw [List.take_of_length_le (by rw [zaZ hmk]; exact Nat.le_refl _)]
theorem zgV (hmk : ∀ k i, (mk k i).length = z) (k n i j : Nat) (h : i < n) (hj : j < z) : (mksL mk k n)[i * z + j]? = (mk k i)[j]? := by
 induction n with
 | zero => omega
 | succ n ih =>
  rw [zcU]
  rcases Nat.lt_or_ge i n with h1 | h1
  ·have h2 := Nat.mul_le_mul_right z (show i + 1 ≤ n from h1)
   rw [Nat.succ_mul] at h2
   rw [List.getElem?_append_left (by rw [zaZ hmk]; omega)]
   exact ih h1
  ·obtain rfl : i = n := by omega
   rw [List.getElem?_append_right (by rw [zaZ hmk]; omega), zaZ hmk]
   congr 1
   omega
end
open Go Go.RowKit
theorem zf0 : (Tryz.prog.info? 3).map (fun i => (i.zero, i.size, i.bytes)) = some (some (.int .i64 0), 1, 8) := by kernel_rfl
abbrev zab (w : World) (k : Nat) : Prop := w.heap.size ≤ k
open Go Go.RowKit
theorem zeM : (Tryz.prog.info? 87).map (fun i => (i.zero, i.size, i.bytes)) = some (some (.agg zE9A), 7, 136) := by kernel_rfl
open Go Go.RowKit
theorem zg4 : (Tryz.prog.info? 50).map (fun i => (i.zero, i.size, i.bytes)) = some (some (.agg zL9A), 20, 256) := by kernel_rfl
open Go Go.RowKit
structure zao {α : Type} (w0 w : World) (E : TypeId) (z : Nat) (f : List α → List Value) (s : Ls α) : Prop where
 own : Own w E z s.a s.l.length s.c (f s.l)
 base : ∀ k, inA s.a k → w0.heap.size ≤ k
theorem zao.in_ {α : Type} {w0 w : World} {E : TypeId} {z : Nat} {f : List α → List Value} {s : Ls α} (h : zao w0 w E z f s) : LsIn w (zab w0) f s :=
 ⟨h.own.sl.mono fun k hk _ => h.base k hk, h.own.cap_le⟩
theorem zao.fr {α : Type} {w0 w w' : World} {S : Nat → Prop} {E : TypeId} {z : Nat} {f : List α → List Value} {s : Ls α} (h : zao w0 w E z f s) (hf : Fr S w w') (hn : ∀ k, inA s.a k → ¬ S k) : zao w0 w' E z f s := ⟨h.own.fr hf hn, h.base⟩
theorem zao.nw {α : Type} {w0 w w' : World} {E : TypeId} {z : Nat} {f : List α → List Value} {s : Ls α} (h : zao w0 w E z f s) (hf : Nw w w') : zao w0 w' E z f s := h.fr hf (fun _ _ h => h)
theorem zao.from_ {α : Type} {w0 w1 w : World} {E : TypeId} {z : Nat} {f : List α → List Value} {s : Ls α} (h : zao w1 w E z f s) (hb : w0.heap.size ≤ w1.heap.size) : zao w0 w E z f s := ⟨h.own, fun k hk => Nat.le_trans hb (h.base k hk)⟩
theorem zao.lt {α : Type} {w0 w : World} {E : TypeId} {z : Nat} {f : List α → List Value} {s : Ls α} (h : zao w0 w E z f s) : ∀ k, inA s.a k → k < w.heap.size := h.own.lt
theorem zep (w : World) (F : Nat → Prop) (A : Option Addr) (c : Nat) (l : List Int) (hs : Sl w F A (zac l)) (hsz : l.length ≤ 1000000000) :
  Calls Tryz.prog 151 #[.slice A l.length c] w fun e w' => ∃ A' c', e = .returned (.slice A' l.length c') ∧ zao w w' 3 1 zac ⟨A', c', l⟩ ∧ Nw w w' := by
 have hnil := fun (w : World) (A : Option Addr) (n : Nat) => Lib.run_eql_slice_nil (P := Tryz.prog) w 41 3 A n c 0 0 Tryz.underlying41
 cases A with
 | none =>
  have hb : l = [] := by
   rcases hs with h | ⟨b, o, h, _⟩
   ·simpa [zac] using h
   ·cases h
  subst hb
  go_enter Tryz.func151, Tryz.ntmps151
  go_wp2_with fail
  go_ret
  exact ⟨none, 0, rfl, ⟨Own.nil _ _ _, fun k hk => (zaH k hk).elim⟩, Fr.refl _ _⟩
 | some a =>
  go_enter Tryz.func151, Tryz.ntmps151
  go_wp2_with (at_builtin; refine zdm rfl _ _ _ rfl 8 (.int .i64 0) Tryz.underlying41 zf0 rfl (by decide) rfl (Own.new w 3 1 0 0 #[] (Nat.le_refl _) (by decide) rfl) rfl (hs.alloc _) (by simp [zac]) (zeO l) (by omega) (by unfold maxLen; omega) ?_; intro A' cap' w1 ho hf hin)
  go_ret
  simp only [Nat.zero_add, Nat.zero_mul, List.take_zero, List.nil_append] at ho
  refine ⟨A', cap', rfl, ⟨ho, fun k hk => ?_⟩, ((Fr.refl _ w).alloc _).trans hf fun k hk => .inr ?_⟩
  ·rcases hin k hk with h | h
   ·rw [(za9 _ _).1 h]; exact Nat.le_refl _
   ·rw [h]; simp
  ·rw [(za9 _ _).1 hk]; exact Nat.le_refl _
theorem zih (w : World) (F : Nat → Prop) (A : Option Addr) (c : Nat) (l : List UInt8) (hs : Sl w F A (zaw l)) (hsz : l.length ≤ 1000000000) :
  Calls Tryz.prog 74 #[.slice A l.length c] w fun e w' => ∃ A' c', e = .returned (.slice A' l.length c') ∧ zao w w' 5 1 zaw ⟨A', c', l⟩ ∧ Nw w w' :=
 (zeh w F A c l hs (by omega)).mono fun e w' ⟨A', c', h1, h2, h3, h4⟩ => ⟨A', c', h1, ⟨h2, h4⟩, h3⟩
theorem zkq (w : World) (F : Nat → Prop) (A : Option Addr) (c : Nat) (l : List EntM) (hs : Sl w F A (zal l)) (hsz : l.length ≤ 1000000000) :
  Calls Tryz.prog 75 #[.slice A l.length c] w fun e w' => ∃ A' c', e = .returned (.slice A' l.length c') ∧ zao w w' 87 7 zal ⟨A', c', l⟩ ∧ Nw w w' := by
 have hnil := fun (w : World) (A : Option Addr) (n : Nat) => Lib.run_eql_slice_nil (P := Tryz.prog) w 43 87 A n c 0 0 Tryz.underlying43
 cases A with
 | none =>
  have hb : l = [] := by
   rcases hs with h | ⟨b, o, h, _⟩
   ·have := congrArg List.length h
    rw [zfj] at this
    exact List.eq_nil_of_length_eq_zero (by simp at this; omega)
   ·cases h
  subst hb
  go_enter Tryz.func75, Tryz.ntmps75
  go_wp2_with fail
  go_ret
  exact ⟨none, 0, rfl, ⟨Own.nil _ _ _, fun k hk => (zaH k hk).elim⟩, Fr.refl _ _⟩
 | some a =>
  have hl := zfj l
  go_enter Tryz.func75, Tryz.ntmps75
  go_wp2_with (at_builtin; refine zdm (size := 7) rfl _ _ _ rfl 136 (.agg zE9A) Tryz.underlying43 zeM rfl (by decide) rfl (Own.new w 87 7 0 0 #[] (Nat.le_refl _) (by decide) rfl) rfl (hs.alloc _) hl (zjV l) (by omega) (by unfold maxLen; omega) ?_; intro A' cap' w1 ho hf hin)
  go_ret
  simp only [Nat.zero_add, Nat.zero_mul, List.take_zero, List.nil_append] at ho
  refine ⟨A', cap', rfl, ⟨ho, fun k hk => ?_⟩, ((Fr.refl _ w).alloc _).trans hf fun k hk => .inr ?_⟩
  ·rcases hin k hk with h | h
   ·rw [(za9 _ _).1 h]; exact Nat.le_refl _
   ·rw [h]; simp
  ·rw [(za9 _ _).1 hk]; exact Nat.le_refl _
structure zaQ (w0 w : World) (c : CfgM) : Prop where
 v : zao w0 w 3 1 zac c.v
 o : zao w0 w 3 1 zac c.o
 l : zao w0 w 3 1 zac c.l
 w : zao w0 w 3 1 zac c.w
 vo : ∀ k j, inA c.v.a k → inA c.o.a j → k < j
 ol : ∀ k j, inA c.o.a k → inA c.l.a j → k < j
 lw : ∀ k j, inA c.l.a k → inA c.w.a j → k < j
 vl : ∀ k j, inA c.v.a k → inA c.l.a j → k < j
 vw : ∀ k j, inA c.v.a k → inA c.w.a j → k < j
 ow : ∀ k j, inA c.o.a k → inA c.w.a j → k < j
theorem zaQ.nw {w0 w w' : World} {c : CfgM} (h : zaQ w0 w c) (f : Nw w w') : zaQ w0 w' c := { h with v := h.v.nw f, o := h.o.nw f, l := h.l.nw f, w := h.w.nw f }
theorem zaQ.fr {w0 w w' : World} {S : Nat → Prop} {c : CfgM} (h : zaQ w0 w c) (f : Fr S w w') (hn : ∀ k, w0.heap.size ≤ k → ¬ S k) : zaQ w0 w' c :=
 { h with v := h.v.fr f (fun k hk => hn k (h.v.base k hk)), o := h.o.fr f (fun k hk => hn k (h.o.base k hk)), l := h.l.fr f (fun k hk => hn k (h.l.base k hk)), w := h.w.fr f (fun k hk => hn k (h.w.base k hk)) }
theorem zaQ.from_ {w0 w1 w : World} {c : CfgM} (h : zaQ w1 w c) (hb : w0.heap.size ≤ w1.heap.size) : zaQ w0 w c := { h with v := h.v.from_ hb, o := h.o.from_ hb, l := h.l.from_ hb, w := h.w.from_ hb }
theorem zaQ.in_ {w0 w : World} {c : CfgM} (h : zaQ w0 w c) : zaD w (zab w0) c := ⟨h.v.in_, h.o.in_, h.l.in_, h.w.in_⟩
theorem zfQ (w : World) (F : Nat → Prop) (x : CfgM) (hx : zaD w F x) (hz : zaY x) :
  Calls Tryz.prog 76 #[.agg (cfgA x)] w fun e w' => ∃ y : CfgM, e = .returned (.agg (cfgA y)) ∧ y.x = x.x ∧ zaQ w w' y ∧ Nw w w' := by
 obtain ⟨X, hX⟩ : ∃ X, X = w.heap.size := ⟨_, rfl⟩
 obtain ⟨Y, hY⟩ : ∃ Y, Y = w.heap.size + 1 := ⟨_, rfl⟩
 obtain ⟨W0, hW0⟩ : ∃ W, W = w.alloc (.cells (cfgA x) 45) := ⟨_, rfl⟩
 have p0 : Nw w W0 := by rw [hW0]; exact (Fr.refl (fun _ => False) _).alloc _
 have x0 : Blk W0 X 45 (cfgA x) := by rw [hW0, hX]; exact Blk.new _ _ _
 have hz0 : W0.heap.size = Y := by rw [hW0, hY]; simp
 obtain ⟨W1, hW1⟩ : ∃ W, W = W0.alloc (.cells zC9A 45) := ⟨_, rfl⟩
 have p1 : Nw W0 W1 := by rw [hW1]; exact (Fr.refl (fun _ => False) _).alloc _
 have y1 : Blk W1 Y 45 zC9A := by rw [hW1, ← hz0]; exact Blk.new _ _ _
 have x1 := x0.fr p1 (fun h => h)
 have pw := p0.tr p1
 have hS : ∀ w1, Nw W1 w1 → w1.cell? ⟨X, 0, none⟩ = some x.v.v ∧ w1.cell? ⟨X, 1, none⟩ = some x.o.v ∧ w1.cell? ⟨X, 2, none⟩ = some x.l.v ∧ w1.cell? ⟨X, 3, none⟩ = some x.w.v := fun w1 f => by
  have a := x1.fr f (fun h => h)
  exact ⟨by simpa using a.cell 0, by simpa using a.cell 1, by simpa using a.cell 2, by simpa using a.cell 3⟩
 have zv : ∀ w1, Nw W1 w1 → _ := fun w1 f => zep w1 F x.v.a x.v.c x.v.l (hx.v.nw (pw.tr f)).sl (by have := hz.v; omega)
 have zo : ∀ w1, Nw W1 w1 → _ := fun w1 f => zep w1 F x.o.a x.o.c x.o.l (hx.o.nw (pw.tr f)).sl (by have := hz.o; omega)
 have zl : ∀ w1, Nw W1 w1 → _ := fun w1 f => zep w1 F x.l.a x.l.c x.l.l (hx.l.nw (pw.tr f)).sl (by have := hz.l; omega)
 have zw : ∀ w1, Nw W1 w1 → _ := fun w1 f => zep w1 F x.w.a x.w.c x.w.l (hx.w.nw (pw.tr f)).sl (by have := hz.w; omega)
 have Q0 : Nw W1 W1.drew := (Fr.refl (fun _ => False) W1).drew
 have HX := Lib.hid hX
 have HY := Lib.hid hY
 have HW0 := Lib.hid hW0
 have HW1 := Lib.hid hW1
 have HS := Lib.hid hS
 have HV := Lib.hid zv
 have HO := Lib.hid zo
 have HL := Lib.hid zl
 have HWW := Lib.hid zw
 have hXY : X ≠ Y := by omega
 have hYw : w.heap.size ≤ Y := by omega
 have holdc : ∀ (w1 w2 w3 w4 : World) (A1 A2 A3 A4 : Option Addr) (c1 c2 c3 c4 : Nat), Nw W1 w4 → (((w4.setCell ⟨Y, 0, none⟩ (.slice A1 x.v.l.length c1))).cell? ⟨X, 0, none⟩ = some x.v.v ∧ ((w4.setCell ⟨Y, 0, none⟩ (.slice A1 x.v.l.length c1))).cell? ⟨X, 1, none⟩ = some x.o.v ∧ ((w4.setCell ⟨Y, 0, none⟩ (.slice A1 x.v.l.length c1))).cell? ⟨X, 2, none⟩ = some x.l.v ∧ ((w4.setCell ⟨Y, 0, none⟩ (.slice A1 x.v.l.length c1))).cell? ⟨X, 3, none⟩ = some x.w.v) ∧ ((((w4.setCell ⟨Y, 0, none⟩ (.slice A1 x.v.l.length c1)).setCell ⟨Y, 1, none⟩ (.slice A2 x.o.l.length c2))).cell? ⟨X, 0, none⟩ = some x.v.v ∧ (((w4.setCell ⟨Y, 0, none⟩ (.slice A1 x.v.l.length c1)).setCell ⟨Y, 1, none⟩ (.slice A2 x.o.l.length c2))).cell? ⟨X, 1, none⟩ = some x.o.v ∧ (((w4.setCell ⟨Y, 0, none⟩ (.slice A1 x.v.l.length c1)).setCell ⟨Y, 1, none⟩ (.slice A2 x.o.l.length c2))).cell? ⟨X, 2, none⟩ = some x.l.v ∧ (((w4.setCell ⟨Y, 0, none⟩ (.slice A1 x.v.l.length c1)).setCell ⟨Y, 1, none⟩ (.slice A2 x.o.l.length c2))).cell? ⟨X, 3, none⟩ = some x.w.v) ∧ (((((w4.setCell ⟨Y, 0, none⟩ (.slice A1 x.v.l.length c1)).setCell ⟨Y, 1, none⟩ (.slice A2 x.o.l.length c2)).setCell ⟨Y, 2, none⟩ (.slice A3 x.l.l.length c3))).cell? ⟨X, 0, none⟩ = some x.v.v ∧ ((((w4.setCell ⟨Y, 0, none⟩ (.slice A1 x.v.l.length c1)).setCell ⟨Y, 1, none⟩ (.slice A2 x.o.l.length c2)).setCell ⟨Y, 2, none⟩ (.slice A3 x.l.l.length c3))).cell? ⟨X, 1, none⟩ = some x.o.v ∧ ((((w4.setCell ⟨Y, 0, none⟩ (.slice A1 x.v.l.length c1)).setCell ⟨Y, 1, none⟩ (.slice A2 x.o.l.length c2)).setCell ⟨Y, 2, none⟩ (.slice A3 x.l.l.length c3))).cell? ⟨X, 2, none⟩ = some x.l.v ∧ ((((w4.setCell ⟨Y, 0, none⟩ (.slice A1 x.v.l.length c1)).setCell ⟨Y, 1, none⟩ (.slice A2 x.o.l.length c2)).setCell ⟨Y, 2, none⟩ (.slice A3 x.l.l.length c3))).cell? ⟨X, 3, none⟩ = some x.w.v) ∧ ((((((w4.setCell ⟨Y, 0, none⟩ (.slice A1 x.v.l.length c1)).setCell ⟨Y, 1, none⟩ (.slice A2 x.o.l.length c2)).setCell ⟨Y, 2, none⟩ (.slice A3 x.l.l.length c3)).setCell ⟨Y, 3, none⟩ (.slice A4 x.w.l.length c4))).cell? ⟨X, 0, none⟩ = some x.v.v ∧ (((((w4.setCell ⟨Y, 0, none⟩ (.slice A1 x.v.l.length c1)).setCell ⟨Y, 1, none⟩ (.slice A2 x.o.l.length c2)).setCell ⟨Y, 2, none⟩ (.slice A3 x.l.l.length c3)).setCell ⟨Y, 3, none⟩ (.slice A4 x.w.l.length c4))).cell? ⟨X, 1, none⟩ = some x.o.v ∧ (((((w4.setCell ⟨Y, 0, none⟩ (.slice A1 x.v.l.length c1)).setCell ⟨Y, 1, none⟩ (.slice A2 x.o.l.length c2)).setCell ⟨Y, 2, none⟩ (.slice A3 x.l.l.length c3)).setCell ⟨Y, 3, none⟩ (.slice A4 x.w.l.length c4))).cell? ⟨X, 2, none⟩ = some x.l.v ∧ (((((w4.setCell ⟨Y, 0, none⟩ (.slice A1 x.v.l.length c1)).setCell ⟨Y, 1, none⟩ (.slice A2 x.o.l.length c2)).setCell ⟨Y, 2, none⟩ (.slice A3 x.l.l.length c3)).setCell ⟨Y, 3, none⟩ (.slice A4 x.w.l.length c4))).cell? ⟨X, 3, none⟩ = some x.w.v) := by
  intro w1 w2 w3 w4 A1 A2 A3 A4 c1 c2 c3 c4 f
  have a := x1.fr f (fun h => h)
  have a1 := a.fr ((Fr.refl (· = Y) w4).set1 0 (.slice A1 x.v.l.length c1)) (fun e => hXY e)
  have a2 := a.fr (((Fr.refl (· = Y) w4).set1 0 (.slice A1 x.v.l.length c1)).set1 1 (.slice A2 x.o.l.length c2)) (fun e => hXY e)
  have a3 := a.fr ((((Fr.refl (· = Y) w4).set1 0 (.slice A1 x.v.l.length c1)).set1 1 (.slice A2 x.o.l.length c2)).set1 2 (.slice A3 x.l.l.length c3)) (fun e => hXY e)
  have a4 := a.fr (((((Fr.refl (· = Y) w4).set1 0 (.slice A1 x.v.l.length c1)).set1 1 (.slice A2 x.o.l.length c2)).set1 2 (.slice A3 x.l.l.length c3)).set1 3 (.slice A4 x.w.l.length c4)) (fun e => hXY e)
  exact ⟨⟨by simpa using a1.cell 0, by simpa using a1.cell 1, by simpa using a1.cell 2, by simpa using a1.cell 3⟩, ⟨by simpa using a2.cell 0, by simpa using a2.cell 1, by simpa using a2.cell 2, by simpa using a2.cell 3⟩, ⟨by simpa using a3.cell 0, by simpa using a3.cell 1, by simpa using a3.cell 2, by simpa using a3.cell 3⟩, ⟨by simpa using a4.cell 0, by simpa using a4.cell 1, by simpa using a4.cell 2, by simpa using a4.cell 3⟩⟩
 clear hX hY hW0 hW1 hz0 x0 hS zv zo zl zw
 go_enter Tryz.func76, Tryz.ntmps76
 go_upto_region 1 with (fail)
 rw [← HY.out, ← HX.out, ← HW0.out, ← HW1.out]
 go_region_held3 (fun w' => w'.cell? ⟨X, 0, none⟩ = some x.v.v ∧ w'.cell? ⟨X, 1, none⟩ = some x.o.v ∧ w'.cell? ⟨X, 2, none⟩ = some x.l.v ∧ w'.cell? ⟨X, 3, none⟩ = some x.w.v) (first | (with_reducible exact HS.out _ Q0) | (with_reducible exact s1) | (with_reducible exact s2) | (with_reducible exact s3) | (with_reducible exact s4) | (with_reducible exact s5.1) | (with_reducible exact s5.2.1) | (with_reducible exact s5.2.2.1) | (with_reducible exact s5.2.2.2) | fail)
  ((first | (go_at_call 151; refine (HWW.out w3 Q3).mono ?_; rintro e w4 ⟨A4, c4, rfl, o4, q4⟩; have Q4 := Q3.tr q4; have s4 := HS.out w4 Q4; have s5 : _ := holdc w1 w2 w3 w4 A1 A2 A3 A4 c1 c2 c3 c4 Q4; have yb := y1.fr Q4 (fun h => h); have yc0 : w4.cell? ⟨Y, 0, none⟩ = some (.slice none 0 0) := (by simpa using yb.cell 0); have yc1 : w4.cell? ⟨Y, 1, none⟩ = some (.slice none 0 0) := (by simpa using yb.cell 1); have yc2 : w4.cell? ⟨Y, 2, none⟩ = some (.slice none 0 0) := (by simpa using yb.cell 2); have yc3 : w4.cell? ⟨Y, 3, none⟩ = some (.slice none 0 0) := (by simpa using yb.cell 3); have yf0 := yb.frozen 0; have yf1 := yb.frozen 1; have yf2 := yb.frozen 2; have yf3 := yb.frozen 3) | (go_at_call 151; refine (HL.out w2 Q2).mono ?_; rintro e w3 ⟨A3, c3, rfl, o3, q3⟩; have Q3 := Q2.tr q3; have s3 := HS.out w3 Q3) | (go_at_call 151; refine (HO.out w1 Qa).mono ?_; rintro e w2 ⟨A2, c2, rfl, o2, q2⟩; have Q2 := Qa.tr q2; have s2 := HS.out w2 Q2) | (go_at_call 151; refine (HV.out _ Q0).mono ?_; rintro e w1 ⟨A1, c1, rfl, o1, q1⟩; have Qa := Q0.tr q1; have s1 := HS.out w1 Qa)))
 have yz := (((yb.set_ 0 (.slice A1 x.v.l.length c1)).set_ 1 (.slice A2 x.o.l.length c2)).set_ 2 (.slice A3 x.l.l.length c3)).set_ 3 (.slice A4 x.w.l.length c4)
 have hYlt := y1.lt
 have f0 : Fr (· = Y) w4 ((((w4.setCell ⟨Y, 0, none⟩ (.slice A1 x.v.l.length c1)).setCell ⟨Y, 1, none⟩ (.slice A2 x.o.l.length c2)).setCell ⟨Y, 2, none⟩ (.slice A3 x.l.l.length c3)).setCell ⟨Y, 3, none⟩ (.slice A4 x.w.l.length c4)) := ((((Fr.refl (· = Y) w4).set1 _ _).set1 _ _).set1 _ _).set1 _ _
 have hb1 : W1.heap.size ≤ w1.heap.size := Qa.size
 have hb2 := Q2.size
 have hb3 := Q3.size
 have hpw := pw.size
 have l1 := o1.lt
 have l2 := o2.lt
 have l3 := o3.lt
 have b2 := o2.base
 have b3 := o3.base
 have b4 := o4.base
 have g1 : zao W1 w4 3 1 zac ⟨A1, c1, x.v.l⟩ := ((o1.from_ (Q0.size)).nw q2).nw (q3.tr q4)
 have g2 : zao W1 w4 3 1 zac ⟨A2, c2, x.o.l⟩ := ((o2.from_ hb1).nw q3).nw q4
 have g3 : zao W1 w4 3 1 zac ⟨A3, c3, x.l.l⟩ := (o3.from_ hb2).nw q4
 have g4 : zao W1 w4 3 1 zac ⟨A4, c4, x.w.l⟩ := o4.from_ hb3
 have hco : zaQ W1 w4 ⟨⟨A1, c1, x.v.l⟩, ⟨A2, c2, x.o.l⟩, ⟨A3, c3, x.l.l⟩, ⟨A4, c4, x.w.l⟩⟩ := ⟨g1, g2, g3, g4,
  fun k j h1 h2 => Nat.lt_of_lt_of_le (l1 k h1) (b2 j h2), fun k j h1 h2 => Nat.lt_of_lt_of_le (l2 k h1) (b3 j h2), fun k j h1 h2 => Nat.lt_of_lt_of_le (l3 k h1) (b4 j h2),
  fun k j h1 h2 => Nat.lt_of_lt_of_le (l1 k h1) (Nat.le_trans q2.size (b3 j h2)), fun k j h1 h2 => Nat.lt_of_lt_of_le (l1 k h1) (Nat.le_trans (q2.tr q3).size (b4 j h2)), fun k j h1 h2 => Nat.lt_of_lt_of_le (l2 k h1) (Nat.le_trans q3.size (b4 j h2))⟩
 go_wp2_with fail
 refine bodyPost_ret (v := .agg #[.slice A1 x.v.l.length c1, .slice A2 x.o.l.length c2, .slice A3 x.l.l.length c3, .slice A4 x.w.l.length c4]) ?_ rfl ?_
 ·exact results_cell_row rfl _ _ Y 45 _ (0, 0) _ rfl yz Tryz.underlying45 rfl (by kernel_rfl)
 exact ⟨⟨⟨A1, c1, x.v.l⟩, ⟨A2, c2, x.o.l⟩, ⟨A3, c3, x.l.l⟩, ⟨A4, c4, x.w.l⟩⟩, rfl, ⟨rfl, rfl, rfl, rfl⟩, ((hco.fr f0 (fun k hk e => by omega)).from_ hpw), (pw.tr Q4).new f0 (fun b hb => by omega)⟩
open Go Go.RowKit
theorem zaa {P : Program} {ops : Array Oper} {C : World → Prop} {L : Act → Prop} {rest : List Oper} {o : Oper} {a : Act} (hw : Region.wanted o (yielded ops a.tmps) = true) (ty : TypeId) (x : Operand) (ho : o.op = .load ty x)
  (g off : Nat) (hx : a.eval x = .pointer (some ⟨g, off, none⟩)) (cs : List Value) (d : TypeDesc) (hc : ∀ w, C w → ∀ j v, cs[j]? = some v → w.cell? ⟨g, off + j, none⟩ = some v)
  (hu : P.underlying ty = some d) (hd : (match d with | .struct _ | .array _ _ => true | _ => false) = true) (hi : (P.info? ty).map (·.size) = some cs.length)
  (h : wpQuiet P ops C L rest (a.put o.dst (.agg cs.toArray))) : wpQuiet P ops C L (o :: rest) a := by
 unfold wpQuiet
 rw [if_pos hw]
 refine ⟨.agg cs.toArray, fun w hC => ?_, h⟩
 unfold Oper.quietAt execOp
 simp only [ho, hx, Instr.loadAt, Instr.sureAddr, Sem.run_bind, Sem.run_pure, Result.andThen_ok, zd6 w g off ty cs d (hc w hC) hu hd hi]
 exact ⟨rfl, rfl⟩
theorem za0.cells {w : World} {g off : Nat} {cs : List Value} (h : ∀ j v, cs[j]? = some v → w.cell? ⟨g, off + j, none⟩ = some v) : ∀ w', (∃ n : za0 w, w' = n.at_) → ∀ j v, cs[j]? = some v → w'.cell? ⟨g, off + j, none⟩ = some v := by
 rintro w' ⟨n, rfl⟩ j v hv
 exact n.cell (h j v hv)
theorem zaO {P : Program} {w : World} {ops : Array Oper} {rest : List Oper} {o : Oper} {a : Act} {Q : Exit → Act → World → Prop} (hw : Region.wanted o (yielded ops a.tmps) = true) (ty : TypeId) (x : Operand) (ho : o.op = .load ty x)
  (g off : Nat) (hx : a.eval x = .pointer (some ⟨g, off, none⟩)) (cs : List Value) (d : TypeDesc) (hc : ∀ j v, cs[j]? = some v → w.cell? ⟨g, off + j, none⟩ = some v) (hu : P.underlying ty = some d) (hd : (match d with | .struct _ | .array _ _ => true | _ => false) = true) (hi : (P.info? ty).map (·.size) = some cs.length)
  (h : wpList P ops Q rest (a.put o.dst (.agg cs.toArray)) w) : wpList P ops Q (o :: rest) a w := by
 refine BigFrame.wpList_want hw fun K hK => ?_
 exact zf6 ty x ho g off hx cs d hc hu hd hi (hK _ _ h)
end Go.Proofs.YtippdjaakcgeoaaGreat
