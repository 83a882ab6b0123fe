/- Lemmas of the walks: WrB, RdA, RdB, RdC, RdD, KitA, KitB, Rec, Mid. (Laid together by shake.py.) -/
import Derived.Laws.Tables
import Derived.Laws.Rows
import Derived.Deep.MidRow
import Derived.Test.YtippdjaakcgeoaaGreatEa02
set_option linter.unusedVariables false
set_option linter.unusedSimpArgs false
set_option maxRecDepth 100000
set_option maxHeartbeats 16000000
namespace Go.Proofs.YtippdjaakcgeoaaGreat
open Go Go.RowKit
theorem ze3 (w : World) (F : Nat → Prop) (g : Nat) (s : Wr) (h : IsWr w F g s) :
  Calls Tryz.prog 140 #[.pointer (some ⟨g, 0, none⟩)] w fun e w' => e = .returned (.bool true) ∧ w = w' := by
 obtain ⟨A, cap, hb, -⟩ := h
 have c0 := hb.cell 0
 simp at c0
 go_enter Tryz.func140, Tryz.ntmps140
 go_wp2
 go_ret
 exact ⟨rfl, rfl⟩
theorem zgz (w : World) (F : Nat → Prop) (g : Nat) (s : Wr) (h : IsWr w F g s) (n : Int) (hsz : s.bs.length ≤ 900000000000) :
  Calls Tryz.prog 141 #[.pointer (some ⟨g, 0, none⟩), .int .i64 n] w fun e w' => e = .returned (.tuple #[]) ∧ WrTo w F g (zdd n s) w' := by
 unfold zdd
 by_cases hn : n < 0 ∨ (topN : Int) < n
 ·rw [if_pos hn]
  exact zjN w F g s h n hn
 ·rw [if_neg hn]
  obtain ⟨k, rfl⟩ := Int.eq_ofNat_of_zero_le (show 0 ≤ n by omega)
  rw [Int.toNat_natCast]
  exact zl4 w F g s h k (by unfold topN at hn; omega) hsz
theorem zhP (w : World) :
  Calls Tryz.prog 68 #[] w fun e w' => e = .returned (.pointer (some ⟨w.heap.size, 0, none⟩)) ∧ IsWr w' (· = w.heap.size) w.heap.size ⟨true, []⟩ ∧ Fr (fun _ => False) w w' := by
 go_enter Tryz.func68, Tryz.ntmps68
 go_wp2
 go_ret
 refine ⟨rfl, ⟨none, 0, Blk.new _ _ _, Own.nil _ _ _, rfl, fun k hk => (zaH k hk).elim, fun k hk => by subst hk; simp⟩, (Fr.refl _ w).alloc _⟩
def zix (w : World) (F : Nat → Prop) (g : Nat) (s : Nat → Wr) (m : Nat) (v : Value) (wr : World) : Prop :=
 ∃ k : Nat, v = .int .i64 k ∧ k ≤ m ∧ WrTo w F g (s k) wr
theorem WrTo.refl {w : World} {F : Nat → Prop} {g : Nat} {s : Wr} (h : IsWr w F g s) : WrTo w F g s w := ⟨F, h, Fr.refl _ _, fun _ hk => .inl hk⟩
theorem zfT (w : World) (F F2 : Nat → Prop) (g : Nat) (s : Wr) (h : IsWr w F g s) (A2 : Option Addr) (c : Nat) (ns : List Int) (hsl : Sl w F2 A2 (ns.map I64)) (hd : zbN w F2 F) (hmax : ns.length ≤ 1000000000)
  (hsz : s.bs.length ≤ 800000000000) :
  Calls Tryz.prog 69 #[.pointer (some ⟨g, 0, none⟩), .slice A2 ns.length c] w fun e w' => e = .returned (.pointer (some ⟨g, 0, none⟩)) ∧ WrTo w F g (zcb ns s) w' := by
 go_enter Tryz.func69, Tryz.ntmps69
 go_wp2_with (go_at_call 140; refine (ze3 _ _ _ _ h).mono ?_; rintro e w' ⟨rfl, rfl⟩)
 go_loopw [6, 11] (fun _ i wr => zix w F g (fun k => zcb (ns.take k) s) ns.length i wr) (fun _ i _ => ns.length - (intOf i).toNat)
 case atStart => exact ⟨0, rfl, Nat.zero_le _, WrTo.refl h⟩
 case round =>
  obtain ⟨k, rfl, hk, F', hw, hf, hF⟩ := hrel
  by_cases hlt : k < ns.length
  ·obtain ⟨b, o, rfl, hFb, hc⟩ := (hsl.fr hf hd.no).get hlt
   have hlen := zeR (ns.take k) s
   rw [List.length_take] at hlen
   go_wp2_with (go_at_call 141; refine (zgz _ _ _ _ hw _ (by omega)).mono ?_; rintro e w2 ⟨rfl, h2⟩)
   go_roundw
   case rel =>
    refine ⟨k + 1, by go_num, by omega, ?_⟩
    show WrTo w F g (zcb (ns.take (k + 1)) s) w2
    rw [zfX _ _ hlt]
    exact WrTo.trans hf hF h2
   case measure => simp [intOf]; omega
  ·go_wp2_with fail
   go_ret
   refine ⟨rfl, ?_⟩
   have e : ns.take k = ns := List.take_of_length_le (by omega)
   rw [e] at hw
   exact ⟨F', hw, hf, hF⟩
theorem zku (w : World) (F F2 : Nat → Prop) (g : Nat) (s : Wr) (h : IsWr w F g s) (A2 : Option Addr) (c : Nat) (ns : List Bool) (hsl : Sl w F2 A2 (ns.map Value.bool)) (hd : zbN w F2 F) (hmax : ns.length ≤ 1000000000)
  (hsz : s.bs.length ≤ 800000000000) :
  Calls Tryz.prog 142 #[.pointer (some ⟨g, 0, none⟩), .slice A2 ns.length c] w fun e w' => e = .returned (.pointer (some ⟨g, 0, none⟩)) ∧ WrTo w F g (zb9 ns s) w' := by
 go_enter Tryz.func142, Tryz.ntmps142
 go_wp2_with (go_at_call 140; refine (ze3 _ _ _ _ h).mono ?_; rintro e w' ⟨rfl, rfl⟩)
 go_loopw [6, 11] (fun _ i wr => zix w F g (fun k => zb9 (ns.take k) s) ns.length i wr) (fun _ i _ => ns.length - (intOf i).toNat)
 case atStart => exact ⟨0, rfl, Nat.zero_le _, WrTo.refl h⟩
 case round =>
  obtain ⟨k, rfl, hk, F', hw, hf, hF⟩ := hrel
  by_cases hlt : k < ns.length
  ·obtain ⟨b, o, rfl, hFb, hc⟩ := (hsl.fr hf hd.no).get hlt
   have hlen := zez (ns.take k) s
   rw [List.length_take] at hlen
   have HL : (zb9 (ns.take k) s).bs.length + 1 ≤ 1000000000000 := by omega
   clear hlen
   have hsucc := Lib.hid (zfh ns k hlt s)
   cases hx : ns[k]
   ·rw [hx] at hc
    have HX := Lib.hid hx
    clear hx
    go_wp2_with (go_at_call 203; refine (zeJ _ F' _ g _ (hw.alloc _) _ 1 1 [0] rfl ((Blk.new _ _ _).sl 0 1) HL).mono ?_; rintro e w2 ⟨rfl, h2⟩)
    go_roundw
    case rel =>
     refine ⟨k + 1, by go_num, by omega, ?_⟩
     show WrTo w F g (zb9 (ns.take (k + 1)) s) w2
     rw [hsucc.out, HX.out]
     exact WrTo.trans hf hF h2.alloc
    case measure => simp [intOf]; omega
   ·rw [hx] at hc
    have HX := Lib.hid hx
    clear hx
    go_wp2_with (go_at_call 203; refine (zeJ _ F' _ g _ (hw.alloc _) _ 1 1 [1] rfl ((Blk.new _ _ _).sl 0 1) HL).mono ?_; rintro e w2 ⟨rfl, h2⟩)
    go_roundw
    case rel =>
     refine ⟨k + 1, by go_num, by omega, ?_⟩
     show WrTo w F g (zb9 (ns.take (k + 1)) s) w2
     rw [hsucc.out, HX.out]
     exact WrTo.trans hf hF h2.alloc
    case measure => simp [intOf]; omega
  ·go_wp2_with fail
   go_ret
   refine ⟨rfl, ?_⟩
   have e : ns.take k = ns := List.take_of_length_le (by omega)
   rw [e] at hw
   exact ⟨F', hw, hf, hF⟩
theorem zlU (w : World) (F F2 : Nat → Prop) (g : Nat) (s : Wr) (h : IsWr w F g s) (A2 : Option Addr) (c : Nat) (vs : List Value) (rs : List (List UInt8)) (hsl : Sl w F2 A2 vs) (hrs : zfE w F2 vs rs) (hd : zbN w F2 F)
  (hsz : s.bs.length + 9 * rs.length + zcn rs ≤ 800000000000) :
  Calls Tryz.prog 145 #[.pointer (some ⟨g, 0, none⟩), .slice A2 rs.length c] w fun e w' => e = .returned (.pointer (some ⟨g, 0, none⟩)) ∧ WrTo w F g (zb0 rs s) w' := by
 go_enter Tryz.func145, Tryz.ntmps145
 go_wp2_with (go_at_call 140; refine (ze3 _ _ _ _ h).mono ?_; rintro e w' ⟨rfl, rfl⟩)
 go_loopw [6, 11] (fun _ i wr => zix w F g (fun k => zb0 (rs.take k) s) rs.length i wr) (fun _ i _ => rs.length - (intOf i).toNat)
 case atStart => exact ⟨0, rfl, Nat.zero_le _, WrTo.refl h⟩
 case round =>
  obtain ⟨k, rfl, hk, F', hw, hf, hF⟩ := hrel
  by_cases hlt : k < rs.length
  ·have hlen := ze5 (rs.take k) s
   rw [List.length_take] at hlen
   have hle := zeC rs k hlt
   have hb1 : (zb0 (rs.take k) s).bs.length ≤ 800000000000 ∧ (zb0 (rs.take k) s).bs.length + rs[k].length ≤ 800000000000 ∧ rs[k].length ≤ 800000000000 := by omega
   clear hlen hle
   have hsucc := Lib.hid (zeA rs k hlt s)
   obtain ⟨v, hv, A3, c3, rfl, hc1, hc2, hs3⟩ := (hrs.fr hf hd.no).2 k hlt
   obtain ⟨b, o, rfl, hFb, _, hcs⟩ := (hsl.fr hf hd.no).at_ (by rintro rfl; simp at hv)
   have hc := hcs k _ hv
   clear hcs
   have HV := Lib.hid hv
   clear hv
   have hn : ((rs[k].length : Nat) : Int).toNat = rs[k].length := Int.toNat_natCast _
   have hnb : ¬ (((rs[k].length : Nat) : Int) < 0 ∨ (topN : Int) < ((rs[k].length : Nat) : Int)) := by unfold topN; omega
   have hstep : zdd ((rs[k].length : Nat) : Int) (zb0 (rs.take k) s) = { zb0 (rs.take k) s with bs := (zb0 (rs.take k) s).bs ++ enc rs[k].length } := by
    unfold zdd; rw [if_neg hnb, hn]
   have HS := Lib.hid hstep
   clear hstep hn hnb
   have he9 := zaR rs[k].length
   go_wp2_with fail
   refine (zgz _ _ _ _ hw _ (by omega)).mono ?_
   rintro e w2 ⟨rfl, F2', hw2, hf2, hn2⟩
   rw [HS.out] at hw2
   have hF2 : ∀ j, F2' j → F j ∨ w.heap.size ≤ j := fun j hj => (hn2 j hj).elim (hF j) (fun h => .inr (Nat.le_trans hf.size h))
   have hff := hf.trans hf2 hF
   go_wp2_with fail
   refine (zeJ _ F2' _ g _ hw2 _ _ _ rs[k] rfl (hs3.fr hf2 (hd.step hf.size hF).no) ?_).mono ?_
   ·simp; omega
   rintro e w3 ⟨rfl, h3⟩
   go_wp2_with fail
   go_roundw
   case rel =>
    refine ⟨k + 1, by go_num, by omega, ?_⟩
    show WrTo w F g (zb0 (rs.take (k + 1)) s) w3
    rw [hsucc.out]
    have := WrTo.trans hff hF2 h3
    simpa [zf1] using this
   case measure => simp [intOf]; omega
  ·go_wp2_with fail
   go_ret
   refine ⟨rfl, ?_⟩
   have e : rs.take k = rs := List.take_of_length_le (by omega)
   rw [e] at hw
   exact ⟨F', hw, hf, hF⟩
theorem zko (w : World) (s : ByteArray) (cap : Nat) (t : TypeId) (fr : Nat × Nat) :
  Sl (w.alloc (.cells (bytesRow s cap) t fr)) (· = w.heap.size) (some ⟨w.heap.size, 0, none⟩) (s.data.toList.map B8) := by
 refine .inr ⟨w.heap.size, 0, rfl, rfl, by simp, fun j u hu => ?_⟩
 have hh : (w.alloc (.cells (bytesRow s cap) t fr)).heap[w.heap.size]? = some (.cells (bytesRow s cap) t fr) := heap_alloc_new w _
 rw [cell_of_row _ _ _ _ _ _ hh]
 simp at hu
 obtain ⟨a, ha, rfl⟩ := hu
 have hlt : j < s.data.size := by
  rcases Nat.lt_or_ge j s.data.size with h | h
  ·exact h
  ·rw [Array.getElem?_eq_none h] at ha; cases ha
 have hlt2 : j < s.size := hlt
 simp only [bytesRow]
 rw [Array.getElem?_append_left (by simpa using hlt2)]
 simp [ha]
theorem zgE (s : ByteArray) : s.data.toList.length = s.size := rfl
theorem zeh (w : World) (F : Nat → Prop) (A : Option Addr) (c : Nat) (bs : List UInt8) (hs : Sl w F A (bs.map B8)) (hsz : bs.length ≤ 1000000000000) :
  Calls Tryz.prog 74 #[.slice A bs.length c] w fun e w' => ∃ A' c', e = .returned (.slice A' bs.length c') ∧ Own w' 5 1 A' bs.length c' (bs.map B8) ∧ Fr (fun _ => False) w w' ∧ ∀ k, inA A' k → w.heap.size ≤ k := by
 have hnil := fun (w : World) (A : Option Addr) (n : Nat) => Lib.run_eql_slice_nil (P := Tryz.prog) w 48 5 A n c 0 0 Tryz.underlying48
 cases A with
 | none =>
  have hb : bs = [] := by
   rcases hs with h | ⟨b, o, h, _⟩
   ·simpa using h
   ·cases h
  subst hb
  go_enter Tryz.func74, Tryz.ntmps74
  go_wp2_with fail
  go_ret
  exact ⟨none, 0, rfl, Own.nil _ _ _, Fr.refl _ _, fun k hk => (zaH k hk).elim⟩
 | some a =>
  go_enter Tryz.func74, Tryz.ntmps74
  go_wp2_with (at_builtin; refine zdm rfl _ _ _ rfl 1 (.int .u8 0) Tryz.underlying48 zaL rfl (by decide) rfl (Own.new w 5 1 0 0 #[] (Nat.le_refl _) (by decide) rfl) rfl (hs.alloc _) (by simp) (zar bs) (by omega) (by unfold maxLen; omega) ?_; intro A' cap' w1 ho hf hin)
  go_ret
  simp only [Nat.zero_add, Nat.zero_mul, List.take_zero, List.nil_append] at ho
  refine ⟨A', cap', rfl, ho, ((Fr.refl _ w).alloc _).trans hf fun k hk => .inr ?_, fun k hk => ?_⟩
  ·rw [(za9 _ _).1 hk]; exact Nat.le_refl _
  ·rcases hin k hk with h | h
   ·rw [(za9 _ _).1 h]; exact Nat.le_refl _
   ·rw [h]; simp
theorem zmb (w : World) (F : Nat → Prop) (g : Nat) (s : Wr) (h : IsWr w F g s) (hok : s.ok = true) (hsz : s.bs.length ≤ 1000000000000) :
  Calls Tryz.prog 71 #[.pointer (some ⟨g, 0, none⟩)] w fun e w' => ∃ A' c', e = .returned (.tuple #[.slice A' s.bs.length c', .int .i64 0]) ∧ Own w' 5 1 A' s.bs.length c' (s.bs.map B8) ∧ Fr (fun _ => False) w w' ∧ ∀ k, inA A' k → w.heap.size ≤ k := by
 have h' := h
 obtain ⟨A, cap, hb, hown, hF, hFA, hFlt⟩ := h'
 have c1 := hb.cell 1
 have c2 := hb.cell 2
 simp [hok] at c1 c2
 have HK := Lib.hid hok
 clear hok
 go_enter Tryz.func71, Tryz.ntmps71
 go_wp2_with (first | (go_at_call 140; refine (ze3 _ _ _ _ h).mono ?_; rintro e w' ⟨rfl, rfl⟩) | (go_at_call 74; refine (zeh _ _ _ _ _ hown.sl hsz).mono ?_; rintro e w1 ⟨A', c', rfl, ho, hf, hn⟩))
 go_ret2
 exact ⟨A', c', rfl, ho, hf, hn⟩
open Go Go.RowKit
def OutF (w : World) (F : Nat → Prop) (g : Nat) : Prop := ¬ F g ∧ ∀ k, F k → k < w.heap.size
theorem OutF.fr {w w' : World} {F : Nat → Prop} {g : Nat} (h : OutF w F g) (hs : w.heap.size ≤ w'.heap.size) : OutF w' F g := ⟨h.1, fun k hk => Nat.lt_of_lt_of_le (h.2 k hk) hs⟩
def IsRd (w : World) (F : Nat → Prop) (g : Nat) : Rd → Prop
 | none => Blk w g 205 #[.bool true, .bool true, .slice none 0 0] ∧ OutF w F g
 | some bs => ∃ A cap, Blk w g 205 #[.bool true, .bool false, .slice A bs.length cap] ∧ bs.length ≤ cap ∧ cap ≤ maxLen ∧ Sl w F A (bs.map B8) ∧ OutF w F g
theorem IsRd.fr {w w' : World} {F S : Nat → Prop} {g : Nat} {s : Rd} (h : IsRd w F g s) (hf : Fr S w w') (hg : ¬ S g) (hd : ∀ k, F k → ¬ S k) : IsRd w' F g s := by
 cases s with
 | none => exact ⟨h.1.fr hf hg, h.2.fr hf.size⟩
 | some bs =>
  obtain ⟨A, cap, hb, h1, h2, h3, h4⟩ := h
  exact ⟨A, cap, hb.fr hf hg, h1, h2, h3.fr hf hd, h4.fr hf.size⟩
def RdTo (w : World) (F : Nat → Prop) (g : Nat) (s : Rd) (w' : World) : Prop := IsRd w' F g s ∧ Fr (· = g) w w'
theorem RdTo.trans {w w1 w2 : World} {F : Nat → Prop} {g : Nat} {s1 s2 : Rd} (h : RdTo w F g s1 w1) (k : RdTo w1 F g s2 w2) : RdTo w F g s2 w2 := ⟨k.1, h.2.tr k.2⟩
theorem RdTo.refl {w : World} {F : Nat → Prop} {g : Nat} {s : Rd} (h : IsRd w F g s) : RdTo w F g s w := ⟨h, Fr.refl _ _⟩
theorem zdI (w : World) (F : Nat → Prop) (g : Nat) (s : Rd) (h : IsRd w F g s) :
  Calls Tryz.prog 164 #[.pointer (some ⟨g, 0, none⟩)] w fun e w' => e = .returned (.tuple #[]) ∧ RdTo w F g none w' := by
 have hh : ∃ f v, Blk w g 205 #[.bool true, f, v] ∧ OutF w F g := by
  cases s with
  | none => exact ⟨_, _, h⟩
  | some bs => obtain ⟨A, cap, hb, _, _, _, hg⟩ := h; exact ⟨_, _, hb, hg⟩
 obtain ⟨f, v, hb, hg⟩ := hh
 have c1 := hb.cell 1
 have c2 := hb.cell 2
 have f1 := hb.frozen 1
 have f2 := hb.frozen 2
 simp at c1 c2
 go_enter Tryz.func164, Tryz.ntmps164
 go_wp2
 go_end0
 refine ⟨rfl, ⟨?_, hg.fr (by simp [World.setCell])⟩, ((Fr.refl (· = g) w).setCell (p := ⟨g, 1, none⟩) (.inl rfl) _).setCell (p := ⟨g, 2, none⟩) (.inl rfl) _⟩
 have := (hb.set_ 1 (.bool true)).set_ 2 (.slice none 0 0)
 simpa using this
def zdP (w : World) (F : Nat → Prop) (g n : Nat) (bs : List UInt8) (e : Ending) (w' : World) : Prop :=
 if bs.length < n then e = .returned (.slice none 0 0) ∧ RdTo w F g none w'
 else ∃ A', e = .returned (.slice A' n n) ∧ RdTo w F g (some (bs.drop n)) w' ∧ Sl w' F A' ((bs.take n).map B8)
theorem zeT (w : World) (F : Nat → Prop) (g : Nat) (bs : List UInt8) (h : IsRd w F g (some bs)) (n : Nat) :
  Calls Tryz.prog 163 #[.pointer (some ⟨g, 0, none⟩), .int .i64 n] w (zdP w F g n bs) := by
 have h' := h
 obtain ⟨A, cap, hb, h1, h2, h3, h4⟩ := h'
 have c2 := hb.cell 2
 have f2 := hb.frozen 2
 simp at c2
 unfold maxLen at h2
 by_cases hn : bs.length < n
 ·have hp : ∀ e w', (e = .returned (.slice none 0 0) ∧ RdTo w F g none w') → zdP w F g n bs e w' := fun e w' h => by unfold zdP; rw [if_pos hn]; exact h
  refine Calls.mono ?_ hp
  go_enter Tryz.func163, Tryz.ntmps163
  go_wp2_with (go_at_call 164; refine (zdI _ _ _ _ h).mono ?_; rintro e w1 ⟨rfl, hr⟩)
  go_ret
  exact ⟨rfl, hr⟩
 ·have hn1 : n ≤ bs.length := by omega
  have hn2 : n ≤ cap := by omega
  have s1 := zlz (P := Tryz.prog) 48 zc5 1 zcg A bs.length cap n n (Nat.le_refl _) hn2
  have s2 := zfJ (P := Tryz.prog) 48 zc5 1 zcg A bs.length cap n hn1
  go_enter Tryz.func163, Tryz.ntmps163
  go_wp2_with fail
  go_ret
  unfold zdP
  rw [if_neg hn]
  refine ⟨_, rfl, ⟨⟨cutA A cap n 1, cap - n, ?_, ?_, ?_, ?_, h4.fr (by simp [World.setCell])⟩, (Fr.refl (· = g) w).setCell (p := ⟨g, 2, none⟩) (.inl rfl) _⟩, ?_⟩
  ·have := hb.set_ 2 (.slice (cutA A cap n 1) (bs.length - n) (cap - n))
   simpa using this
  ·simp; omega
  ·unfold maxLen; omega
  ·have := (h3.drop (n := bs.length) (m := cap) (s := 1) (l := n) (by simp) h1 hn1).setCell (p := ⟨g, 2, none⟩) h4.1 (.slice (cutA A cap n 1) (bs.length - n) (cap - n))
   simpa [List.map_drop] using this
  ·have := (h3.pre (k := n)).setCell (p := ⟨g, 2, none⟩) h4.1 (.slice (cutA A cap n 1) (bs.length - n) (cap - n))
   rw [← List.map_take] at this
   simpa using this
theorem IsRd.out {w : World} {F : Nat → Prop} {g : Nat} {s : Rd} (h : IsRd w F g s) : OutF w F g := by
 cases s with
 | none => exact h.2
 | some bs => obtain ⟨_, _, _, _, _, _, h⟩ := h; exact h
theorem IsRd.lt {w : World} {F : Nat → Prop} {g : Nat} {s : Rd} (h : IsRd w F g s) : g < w.heap.size := by
 cases s with
 | none => exact h.1.lt
 | some bs => obtain ⟨_, _, hb, _⟩ := h; exact hb.lt
open Go Go.RowKit
theorem zcA (w : World) (F : Nat → Prop) (g : Nat) (s : Rd) (h : IsRd w F g s) :
  Calls Tryz.prog 162 #[.pointer (some ⟨g, 0, none⟩)] w fun e w' => e = .returned (.bool s.isSome) ∧ w = w' := by
 cases s with
 | none =>
  have c0 := h.1.cell 0
  have c1 := h.1.cell 1
  simp at c0 c1
  go_enter Tryz.func162, Tryz.ntmps162
  go_wp2
  go_ret
  exact ⟨rfl, rfl⟩
 | some bs =>
  obtain ⟨A, cap, hb, _⟩ := h
  have c0 := hb.cell 0
  have c1 := hb.cell 1
  simp at c0 c1
  go_enter Tryz.func162, Tryz.ntmps162
  go_wp2
  go_ret
  exact ⟨rfl, rfl⟩
def zmD (w : World) (F : Nat → Prop) (g : Nat) (bs : List UInt8) (n i : Value) (wr : World) : Prop :=
 ∃ (k acc : Nat) (rest : List UInt8), n = .int .i64 acc ∧ i = .int .i64 (7 * k : Nat) ∧ zcF bs k acc rest ∧ RdTo w F g (some rest) wr
theorem zg1 (w : World) (F : Nat → Prop) (g : Nat) (b : UInt8) (r : List UInt8) (h : IsRd w F g (some (b :: r))) :
  Calls Tryz.prog 163 #[.pointer (some ⟨g, 0, none⟩), .int .i64 1] w fun e w' => ∃ b' o, e = .returned (.slice (some ⟨b', o, none⟩) 1 1) ∧ w'.cell? ⟨b', o, none⟩ = some (B8 b) ∧ RdTo w F g (some r) w' := by
 refine (zeT w F g _ h 1).mono fun e w' hh => ?_
 unfold zdP at hh
 rw [if_neg (by simp)] at hh
 obtain ⟨A', rfl, h1, h2⟩ := hh
 obtain ⟨b', o, rfl, _, hc⟩ := h2.get (k := 0) (by simp)
 exact ⟨b', o, rfl, by simpa using hc, by simpa using h1⟩
theorem zhs (w : World) (F : Nat → Prop) (g : Nat) (h : IsRd w F g (some [])) :
  Calls Tryz.prog 163 #[.pointer (some ⟨g, 0, none⟩), .int .i64 1] w fun e w' => e = .returned (.slice none 0 0) ∧ RdTo w F g none w' := by
 refine (zeT w F g _ h 1).mono fun e w' hh => ?_
 unfold zdP at hh
 rwa [if_pos (by simp)] at hh
theorem zhS (w : World) (F : Nat → Prop) (g : Nat) (bs : List UInt8) (h : IsRd w F g (some bs)) (most : Int) :
  Calls Tryz.prog 96 #[.pointer (some ⟨g, 0, none⟩), .int .i64 most] w fun e w' => e = .returned (.int .i64 (za1 most (some bs)).1) ∧ RdTo w F g (za1 most (some bs)).2 w' := by
 go_enter Tryz.func96, Tryz.ntmps96
 go_wp2_with (go_at_call 162; refine (zcA _ _ _ _ h).mono ?_; rintro e w' ⟨rfl, rfl⟩)
 go_loopw [5, 6, 7] (fun n i _ wr => zmD w F g bs n i wr) (fun _ i _ _ => 63 - (intOf i).toNat)
 case atStart => exact ⟨0, 0, bs, rfl, rfl, zcF.start bs, RdTo.refl h⟩
 case round =>
  obtain ⟨k, acc, rest, rfl, rfl, hN, hr⟩ := hrel
  by_cases hk : k < 9
  ·cases rest with
   | nil =>
    go_wp2_with fail
    refine (zhs _ _ _ hr.1).mono ?_
    rintro e w1 ⟨rfl, h1⟩
    have c1 := h1.1.1.cell 1
    simp at c1
    go_wp2_with fail
    go_ret
    rw [zd5 most hN.none_]
    exact ⟨rfl, hr.trans h1⟩
   | cons b r =>
    have hNB := zj0 k acc b hk hN.lt
    obtain ⟨v, hv⟩ : ∃ v : Nat, v = acc + 128 ^ k * (b.toNat % 128) := ⟨_, rfl⟩
    rw [← hv] at hNB
    have HV := Lib.hid hv
    clear hv
    have hb256 : b.toNat < 256 := b.toNat_lt
    go_wp2_with fail
    refine (zg1 _ _ _ _ _ hr.1).mono ?_
    rintro e w1 ⟨b', o, rfl, hc, h1⟩
    obtain ⟨A, cap, hb, _⟩ := id h1.1
    have c1 := hb.cell 1
    simp at c1
    by_cases hlt : b.toNat < 128
    ·have hlast := Lib.hid (hN.last hk hlt)
     by_cases h0 : 0 < k ∧ b.toNat = 0
     ·have hd : za1 most (some bs) = (0, none) := by
       have := hlast.out
       rw [if_pos h0] at this
       exact zd5 most this
      have HD := Lib.hid hd
      clear hd
      obtain ⟨h01, h02⟩ := h0
      go_wp2_with (go_at_call 164; refine (zdI _ _ _ _ h1.1).mono ?_; rintro e w2 ⟨rfl, h2⟩)
      go_ret
      rw [HD.out]
      exact ⟨rfl, hr.trans (h1.trans h2)⟩
     ·have hv2 : acc + 128 ^ k * b.toNat = v := by
       have := HV.out
       rw [Nat.mod_eq_of_lt hlt] at this
       exact this.symm
      have hl2 := hlast.out
      rw [if_neg h0, hv2] at hl2
      have HL2 := Lib.hid hl2
      clear hl2 hv2 hlast
      have h0' := Lib.hid h0
      clear h0
      by_cases ht : 4611686018427387903 < (v : Int) ∨ ((v : Int) ≤ 4611686018427387903 ∧ most < (v : Int))
      ·have hd : za1 most (some bs) = (0, none) := by
        have := HL2.out
        by_cases ht1 : topN < v
        ·rw [if_pos ht1] at this
         exact zd5 most this
        ·rw [if_neg ht1] at this
         exact zfl most this (by unfold topN at ht1; omega)
       have HD := Lib.hid hd
       clear hd
       have hq : (¬ ((0 : Int) < 7 * (k : Int)) ∨ (0 < k ∧ ((b.toNat : Int) == 0) = false)) := by
        have h9 := h0'.out
        by_cases hz : 0 < k
        ·exact .inr ⟨hz, beq_eq_false_iff_ne.2 (by omega)⟩
        ·exact .inl (by omega)
       rcases hq with hkf | ⟨hk0, hb0⟩ <;> rcases ht with ht | ⟨ht0, ht⟩
       all_goals
        go_wp2_with (go_at_call 164; refine (zdI _ _ _ _ h1.1).mono ?_; rintro e w2 ⟨rfl, h2⟩)
        go_ret
        rw [HD.out]
        exact ⟨rfl, hr.trans (h1.trans h2)⟩
      ·have hd : za1 most (some bs) = ((v : Int), some r) := by
        have := HL2.out
        rw [if_neg (by unfold topN; omega)] at this
        exact zf3 most this (by omega)
       have HD := Lib.hid hd
       clear hd
       have ht1 : (v : Int) ≤ 4611686018427387903 := by omega
       have ht2 : (v : Int) ≤ most := by omega
       clear ht
       have hq : (¬ ((0 : Int) < 7 * (k : Int)) ∨ (0 < k ∧ ((b.toNat : Int) == 0) = false)) := by
        have h9 := h0'.out
        by_cases hz : 0 < k
        ·exact .inr ⟨hz, beq_eq_false_iff_ne.2 (by omega)⟩
        ·exact .inl (by omega)
       rcases hq with hkf | ⟨hk0, hb0⟩
       all_goals
        go_wp2_with fail
        go_ret
        rw [HD.out]
        exact ⟨rfl, hr.trans h1⟩
    ·have hb128 : 128 ≤ b.toNat := by omega
     have hnext := hN.next hk hb128
     have hvb : acc + 128 ^ k * (b.toNat - 128) = v := by
      have := HV.out
      rw [this]
      congr 2
      omega
     rw [hvb] at hnext
     clear hvb
     go_wp2_with fail
     go_roundw
     case rel => exact ⟨k + 1, v, r, rfl, by go_num, hnext, hr.trans h1⟩
     case measure => simp [intOf]; omega
  ·have hk9 : k = 9 := by have := hN.le; omega
   subst hk9
   go_wp2_with (go_at_call 164; refine (zdI _ _ _ _ hr.1).mono ?_; rintro e w2 ⟨rfl, h2⟩)
   go_ret
   rw [zd5 most hN.far]
   exact ⟨rfl, hr.trans h2⟩
open Go Go.RowKit
theorem zb5 (w : World) (F : Nat → Prop) (g : Nat) (s : Rd) (h : IsRd w F g s) (most : Int) :
  Calls Tryz.prog 96 #[.pointer (some ⟨g, 0, none⟩), .int .i64 most] w fun e w' => e = .returned (.int .i64 (za1 most s).1) ∧ RdTo w F g (za1 most s).2 w' := by
 cases s with
 | some bs => exact zhS w F g bs h most
 | none =>
  go_enter Tryz.func96, Tryz.ntmps96
  go_wp2_with (go_at_call 162; refine (zcA _ _ _ _ h).mono ?_; rintro e w' ⟨rfl, rfl⟩)
  go_ret
  exact ⟨rfl, RdTo.refl h⟩
theorem zk6 (w : World) (F : Nat → Prop) (g : Nat) (s : Rd) (h : IsRd w F g s) :
  Calls Tryz.prog 166 #[.pointer (some ⟨g, 0, none⟩)] w fun e w' => e = .returned (.bool (zaK s).1) ∧ RdTo w F g (zaK s).2 w' := by
 cases s with
 | none =>
  go_enter Tryz.func166, Tryz.ntmps166
  go_wp2_with (go_at_call 162; refine (zcA _ _ _ _ h).mono ?_; rintro e w' ⟨rfl, rfl⟩)
  go_ret
  exact ⟨rfl, RdTo.refl h⟩
 | some bs =>
  cases bs with
  | nil =>
   go_enter Tryz.func166, Tryz.ntmps166
   go_wp2_with (go_at_call 162; refine (zcA _ _ _ _ h).mono ?_; rintro e w' ⟨rfl, rfl⟩)
   refine (zhs _ _ _ h).mono ?_
   rintro e w1 ⟨rfl, h1⟩
   have c1 := h1.1.1.cell 1
   simp at c1
   go_wp2_with (go_at_call 164; refine (zdI _ _ _ _ h1.1).mono ?_; rintro e w2 ⟨rfl, h2⟩)
   go_ret
   exact ⟨rfl, h1.trans h2⟩
  | cons b r =>
   have hb256 : b.toNat < 256 := b.toNat_lt
   by_cases hb : 1 < b.toNat
   ·have HD := Lib.hid (show zaK (some (b :: r)) = (false, none) by simp [zaK, hb])
    go_enter Tryz.func166, Tryz.ntmps166
    go_wp2_with (go_at_call 162; refine (zcA _ _ _ _ h).mono ?_; rintro e w' ⟨rfl, rfl⟩)
    refine (zg1 _ _ _ _ _ h).mono ?_
    rintro e w1 ⟨b', o, rfl, hc, h1⟩
    obtain ⟨A, cap, hb, _⟩ := id h1.1
    have c1 := hb.cell 1
    simp at c1
    go_wp2_with (go_at_call 164; refine (zdI _ _ _ _ h1.1).mono ?_; rintro e w2 ⟨rfl, h2⟩)
    go_ret
    rw [HD.out]
    exact ⟨rfl, h1.trans h2⟩
   ·have HD := Lib.hid (show zaK (some (b :: r)) = (((b.toNat : Int) == 1), some r) by simp [zaK, hb])
    go_enter Tryz.func166, Tryz.ntmps166
    go_wp2_with (go_at_call 162; refine (zcA _ _ _ _ h).mono ?_; rintro e w' ⟨rfl, rfl⟩)
    refine (zg1 _ _ _ _ _ h).mono ?_
    rintro e w1 ⟨b', o, rfl, hc, h1⟩
    obtain ⟨A, cap, hb, _⟩ := id h1.1
    have c1 := hb.cell 1
    simp at c1
    go_wp2_with fail
    go_ret
    rw [HD.out]
    exact ⟨rfl, h1⟩
theorem zhJ (w : World) (F : Nat → Prop) (A : Option Addr) (c : Nat) (bs : List UInt8) (hs : Sl w F A (bs.map B8)) (hsz : bs.length ≤ 1000000000000) :
  Calls Tryz.prog 95 #[.slice A bs.length c] w fun e w' => ∃ g F', e = .returned (.pointer (some ⟨g, 0, none⟩)) ∧ IsRd w' F' g (some bs) ∧ Fr (fun _ => False) w w' ∧ w.heap.size ≤ g ∧ ∀ k, F' k → w.heap.size ≤ k := by
 go_enter Tryz.func95, Tryz.ntmps95
 go_wp2_with (go_at_call 74; refine (zeh _ _ _ _ _ hs hsz).mono ?_; rintro e w1 ⟨A', c', rfl, ho, hf, hn⟩)
 go_ret
 refine ⟨w1.heap.size, inA A', rfl, ⟨A', c', Blk.new _ _ _, ho.cap_le.1, ho.cap_le.2, ho.sl.alloc _, fun h => by have := ho.lt _ h; omega, fun k hk => by have := ho.lt k hk; simp; omega⟩, hf.alloc _, hf.size, hn⟩
theorem zhu (w : World) (F : Nat → Prop) (g : Nat) (s : Rd) (h : IsRd w F g s) (most : Int) (hsz : zav s ≤ 1000000000000) :
  Calls Tryz.prog 169 #[.pointer (some ⟨g, 0, none⟩), .int .i64 most] w fun e w' => ∃ A c, e = .returned (.slice A (zb1 most s).1.length c) ∧ Own w' 5 1 A (zb1 most s).1.length c ((zb1 most s).1.map B8) ∧ RdTo w F g (zb1 most s).2 w' ∧ ∀ k, inA A k → w.heap.size ≤ k := by
 rcases zbO most s with hn | ⟨bs, m, r, rfl, hn, hm, _, hbs⟩
 ·have HD := Lib.hid (zdt hn)
  have hcon := zb5 _ _ _ _ h most
  rw [hn] at hcon
  clear hn
  go_enter Tryz.func169, Tryz.ntmps169
  go_wp2_with (first | (go_at_call 96; refine hcon.mono ?_; rintro e w1 ⟨rfl, h1⟩) | (go_at_call 162; refine (zcA _ _ _ _ h1.1).mono ?_; rintro e w' ⟨rfl, rfl⟩))
  go_ret
  rw [HD.out]
  exact ⟨none, 0, rfl, Own.nil _ _ _, h1, fun k hk => (zaH k hk).elim⟩
 ·have HD := Lib.hid (zd0 hn)
  have hcon := zb5 _ _ _ _ h most
  rw [hn] at hcon
  have hrl : r.length ≤ 1000000000000 := by
   have : zav (some bs) = bs.length := rfl
   rw [this, hbs, List.length_append] at hsz
   omega
  clear hn hbs
  unfold topN at hm
  by_cases hlt : r.length < m
  ·go_enter Tryz.func169, Tryz.ntmps169
   go_wp2_with fail
   refine hcon.mono ?_
   rintro e w1 ⟨rfl, h1⟩
   go_wp2_with (go_at_call 162; refine (zcA _ _ _ _ h1.1).mono ?_; rintro e w' ⟨rfl, rfl⟩)
   refine (zeT _ _ _ _ h1.1 m).mono ?_
   intro e w2 hh
   unfold zdP at hh
   rw [if_pos hlt] at hh
   obtain ⟨rfl, h2⟩ := hh
   go_wp2_with (go_at_call 74; refine (zeh _ (fun _ => False) none 0 [] (.inl rfl) (by decide)).mono ?_; rintro e w3 ⟨A', c', rfl, ho, hf, hfresh⟩)
   go_ret
   rw [HD.out, if_pos hlt]
   exact ⟨A', c', rfl, ho, ⟨h2.1.fr hf (fun h => h) (fun _ _ h => h), h1.2.tr (h2.2.tr (hf.mono fun _ h => h.elim))⟩, fun k hk => Nat.le_trans (Nat.le_trans h1.2.size h2.2.size) (hfresh k hk)⟩
  ·go_enter Tryz.func169, Tryz.ntmps169
   go_wp2_with fail
   refine hcon.mono ?_
   rintro e w1 ⟨rfl, h1⟩
   go_wp2_with (go_at_call 162; refine (zcA _ _ _ _ h1.1).mono ?_; rintro e w' ⟨rfl, rfl⟩)
   refine (zeT _ _ _ _ h1.1 m).mono ?_
   intro e w2 hh
   unfold zdP at hh
   rw [if_neg hlt] at hh
   obtain ⟨A2, rfl, h2, h3⟩ := hh
   have htl : (r.take m).length = m := by rw [List.length_take]; omega
   have hcl := zeh w2 F A2 m (r.take m) h3 (by omega)
   rw [htl] at hcl
   have HT := Lib.hid htl
   clear htl
   go_wp2_with (go_at_call 74; refine hcl.mono ?_; rintro e w3 ⟨A', c', rfl, ho, hf, hfresh⟩)
   go_ret
   rw [HD.out, if_neg hlt]
   simp only [HT.out]
   exact ⟨A', c', rfl, ho, ⟨h2.1.fr hf (fun h => h) (fun _ _ h => h), h1.2.tr (h2.2.tr (hf.mono fun _ h => h.elim))⟩, fun k hk => Nat.le_trans (Nat.le_trans h1.2.size h2.2.size) (hfresh k hk)⟩
open Go Go.RowKit
theorem zfN (w : World) (F : Nat → Prop) (A : Option Addr) (c : Nat) (bs : List UInt8) (h : Sl w F A (bs.map B8)) :
  (convert 48 9 (.slice A bs.length c)).run Tryz.prog w = .ok (.string ⟨bs.toArray⟩) w := by
 cases A with
 | none =>
  have hb : bs = [] := by
   rcases h with h | ⟨b, o, h, _⟩
   ·simpa using h
   ·cases h
  subst hb
  exact run_convert_bytes_nil w 48 5 Tryz.underlying48 Tryz.underlying5 0 c 9 Tryz.underlying9
 | some a =>
  rw [run_convert_bytes_string w 48 9 5 _ _ c Tryz.underlying48 Tryz.underlying5 Tryz.underlying9]
  have hl : (loadCells a bs.length).run Tryz.prog w = .ok ((bs.map fun b => (b.toNat : Int)).map (Value.int .u8)).toArray w := by
   have := run_loadCells_list (P := Tryz.prog) w a (bs.map B8) (fun j v hj => by
    rcases h with h | ⟨b, o, h, _, _, hc⟩
    ·rw [h] at hj; simp at hj
    ·injection h with h
     subst h
     rw [Addr.add_lit]
     exact hc j v hj)
   rw [List.length_map] at this
   rw [this, List.map_map]
   rfl
  rw [run_bytesToString w a bs.length c _ hl, foldl_push_bytes]
  congr 2
  simp [ByteArray.empty, ByteArray.emptyWithCapacity]
  show List.map ((fun n : Int => UInt8.ofNat n.toNat) ∘ fun b : UInt8 => (b.toNat : Int)) bs = bs
  rw [show ((fun n : Int => UInt8.ofNat n.toNat) ∘ fun b : UInt8 => (b.toNat : Int)) = id from funext fun b => by simp]
  simp
theorem zgm (w : World) (F : Nat → Prop) (g : Nat) (s : Rd) (h : IsRd w F g s) :
  Calls Tryz.prog 98 #[.pointer (some ⟨g, 0, none⟩)] w fun e w' => e = .returned (.int .i64 (zav s : Nat)) ∧ w = w' := by
 cases s with
 | none =>
  go_enter Tryz.func98, Tryz.ntmps98
  go_wp2_with (go_at_call 162; refine (zcA _ _ _ _ h).mono ?_; rintro e w' ⟨rfl, rfl⟩)
  go_ret
  exact ⟨rfl, rfl⟩
 | some bs =>
  obtain ⟨A, cap, hb, _⟩ := id h
  have c2 := hb.cell 2
  simp at c2
  go_enter Tryz.func98, Tryz.ntmps98
  go_wp2_with (go_at_call 162; refine (zcA _ _ _ _ h).mono ?_; rintro e w' ⟨rfl, rfl⟩)
  go_ret
  exact ⟨rfl, rfl⟩
/-?-/
theorem zhA (w : World) (F : Nat → Prop) (g : Nat) (s : Rd) (h : IsRd w F g s) :
  Calls Tryz.prog 100 #[.pointer (some ⟨g, 0, none⟩)] w fun e w' => e = .returned (.int .i64 (zd2 s)) ∧ w = w' := by
 cases s with
 | none =>
  have c0 := h.1.cell 0
  have c1 := h.1.cell 1
  simp at c0 c1
  go_enter Tryz.func100, Tryz.ntmps100
  go_wp2
  go_ret
  exact ⟨rfl, rfl⟩
 | some bs =>
  obtain ⟨A, cap, hb, _⟩ := id h
  have c0 := hb.cell 0
  have c1 := hb.cell 1
  have c2 := hb.cell 2
  simp at c0 c1 c2
  cases bs with
  | nil =>
   go_enter Tryz.func100, Tryz.ntmps100
   go_wp2
   go_ret
   exact ⟨rfl, rfl⟩
  | cons b r =>
   have hpos : (0 : Int) < (((b :: r).length : Nat) : Int) := by simp
   go_enter Tryz.func100, Tryz.ntmps100
   go_wp2
   go_ret
   exact ⟨rfl, rfl⟩
open Go Go.RowKit
def Quiet (w w' : World) : Prop := ∃ n, w' = w.drewN n
theorem Quiet.refl (w : World) : Quiet w w := ⟨0, rfl⟩
theorem Quiet.drewN {w w' : World} (h : Quiet w w') (n : Nat) : Quiet w (w'.drewN n) := by
 obtain ⟨k, rfl⟩ := h
 exact ⟨k + n, by rw [World.drewN_drewN]⟩
theorem Quiet.fr {w w' : World} (h : Quiet w w') (S : Nat → Prop) : Fr S w w' := by
 obtain ⟨k, rfl⟩ := h
 exact (Fr.refl S w).drewN k
theorem zad {v v' : Value} (h : v = v') : Ending.returned v = .returned v' := by rw [h]
theorem Quiet.cell {w w' : World} (h : Quiet w w') (a : Addr) : w'.cell? a = w.cell? a := by obtain ⟨n, rfl⟩ := h; rfl
def zmx (w : World) (xs ys : List UInt8) (i : Value) (wr : World) : Prop :=
 ∃ k : Nat, i = .int .i64 k ∧ k ≤ xs.length ∧ xs.take k = ys.take k ∧ Quiet w wr
theorem zfH (w : World) (F1 F2 : Nat → Prop) (A1 A2 : Option Addr) (c1 c2 : Nat) (xs ys : List UInt8) (h1 : Sl w F1 A1 (xs.map B8)) (h2 : Sl w F2 A2 (ys.map B8)) (hm1 : xs.length ≤ 1000000000000) :
  Calls Tryz.prog 34 #[.slice A1 xs.length c1, .slice A2 ys.length c2] w fun e w' => e = .returned (.bool (decide (xs = ys))) ∧ Quiet w w' := by
 by_cases hl : xs.length = ys.length
 ·have hlen : ((xs.length : Int) != (ys.length : Int)) = false := by simp [hl]
  have HL := Lib.hid hl
  clear hl
  go_enter Tryz.func34, Tryz.ntmps34
  go_wp2
  go_loopw [5] (fun i wr => zmx w xs ys i wr) (fun i _ => xs.length - (intOf i).toNat)
  case atStart => exact ⟨0, rfl, Nat.zero_le _, rfl, Quiet.refl _⟩
  case round =>
   obtain ⟨k, rfl, hk, ht, hq⟩ := hrel
   have HT := Lib.hid ht
   clear ht
   by_cases hlt : k < xs.length
   ·have hlt2 : k < ys.length := by have := HL.out; omega
    obtain ⟨n, rfl⟩ := hq
    obtain ⟨b1, o1, rfl, _, hc1⟩ := h1.get hlt
    obtain ⟨b2, o2, rfl, _, hc2⟩ := h2.get hlt2
    have hi1 : (k : Int) < (xs.length : Int) := by omega
    have hi2 : (k : Int) < (ys.length : Int) := by omega
    go_wp2
    go_quiet (fail)
    by_cases heq : (((xs[k].toNat : Nat) : Int) != ((ys[k].toNat : Nat) : Int)) = false
    rotate_left
    ·have hne : (((xs[k].toNat : Nat) : Int) != ((ys[k].toNat : Nat) : Int)) = true := by simpa using heq
     clear heq
     go_wp2
     go_ret
     refine ⟨zad (congrArg Value.bool (decide_eq_false ?_).symm), ((Quiet.refl w).drewN n).drewN _⟩
     rintro rfl
     simp at hne
    ·go_wp2
     go_roundw
     case rel =>
      refine ⟨k + 1, by go_num, by omega, ?_, ⟨_, rfl⟩⟩
      rw [List.take_succ_eq_append_getElem hlt, List.take_succ_eq_append_getElem hlt2, HT.out]
      congr 2
      have h5 : ((xs[k].toNat : Nat) : Int) = ((ys[k].toNat : Nat) : Int) := by simpa using heq
      have : xs[k].toNat = ys[k].toNat := by omega
      exact UInt8.toNat_inj.1 this
     case measure => simp [intOf]; omega
   ·go_wp2
    go_ret
    have hx : xs = ys := by
     have := HT.out
     rwa [List.take_of_length_le (by omega), List.take_of_length_le (by have := HL.out; omega)] at this
    exact ⟨zad (congrArg Value.bool (decide_eq_true hx).symm), hq⟩
 ·have hlen : ((xs.length : Int) != (ys.length : Int)) = true := by simp; omega
  go_enter Tryz.func34, Tryz.ntmps34
  go_wp2
  go_ret
  exact ⟨zad (congrArg Value.bool (decide_eq_false fun h => hl (by rw [h])).symm), Quiet.refl _⟩
open Go Go.RowKit
def mkB (k i : Nat) : UInt8 := UInt8.ofNat ((1000003 * (k + 7) + i) * 11400714819323198485 % 18446744073709551616 / 72057594037927936)
theorem zmv (k i : Nat) :
  IntKind.u64.wrap ((1000003 * ((k : Int) + 7) + (i : Int)) * 11400714819323198485) / 72057594037927936 % 256 = ((mkB k i).toNat : Int) := by
 unfold mkB
 rw [UInt8.toNat_ofNat']
 have e : (1000003 * ((k : Int) + 7) + (i : Int)) * 11400714819323198485 = (((1000003 * (k + 7) + i) * 11400714819323198485 : Nat) : Int) := by omega
 rw [e]
 generalize (1000003 * (k + 7) + i) * 11400714819323198485 = Y
 simp only [IntKind.wrap_u64]
 omega
theorem zi2 (w : World) (k i : Int) (hk : 0 ≤ k) (hk2 : k ≤ 1000000000000) (hi : 0 ≤ i) (hi2 : i ≤ 100000000000000) :
  Calls Tryz.prog 136 #[.int .i64 k, .int .i64 i] w fun e w' => e = .returned (.int .i64 (1000003 * (k + 7) + i)) ∧ w = w' := by
 go_enter Tryz.func136, Tryz.ntmps136
 go_wp2
 go_ret
 exact ⟨rfl, rfl⟩
theorem zee (w : World) (k i : Int) (hk : 0 ≤ k) (hk2 : k ≤ 1000000000000) (hi : 0 ≤ i) (hi2 : i ≤ 100000000000000) :
  Calls Tryz.prog 93 #[.int .i64 k, .int .i64 i] w fun e w' => e = .returned (B8 (mkB k.toNat i.toNat)) ∧ w = w' := by
 obtain ⟨k', rfl⟩ := Int.eq_ofNat_of_zero_le hk
 obtain ⟨i', rfl⟩ := Int.eq_ofNat_of_zero_le hi
 go_enter Tryz.func93, Tryz.ntmps93
 go_wp2_with (go_at_call 136; refine (zi2 _ _ _ hk hk2 hi hi2).mono ?_; rintro e w1 ⟨rfl, rfl⟩)
 go_ret
 refine ⟨zad ?_, rfl⟩
 show Value.int IntKind.u8 _ = Value.int IntKind.u8 _
 rw [Int.toNat_natCast, Int.toNat_natCast, ← zmv k' i']
def behind : List UInt8 := (List.range 12).map (mkB 1)
def Lent (w : World) (A : Option Addr) (ys : List UInt8) : Prop := Own w 5 1 A (ys.length + 12) (ys.length + 12) ((ys ++ behind).map B8)
def zmt (w : World) (g : Nat) (ys : List UInt8) (v i : Value) (wr : World) : Prop :=
 ∃ k : Nat, k ≤ 12 ∧ i = .int .i64 k ∧ v = .slice (some ⟨g, 0, none⟩) (ys.length + k) (ys.length + 12) ∧ Own wr 5 1 (some ⟨g, 0, none⟩) (ys.length + k) (ys.length + 12) ((ys ++ (List.range k).map (mkB 1)).map B8) ∧ Nw w wr
theorem zmw (w : World) (F : Nat → Prop) (A : Option Addr) (c : Nat) (ys : List UInt8) (h : Sl w F A (ys.map B8)) (hsz : ys.length ≤ 1000000000000) :
  Calls Tryz.prog 42 #[.slice A ys.length c] w fun e w' => ∃ g, e = .returned (.slice (some ⟨g, 0, none⟩) ys.length (ys.length + 12)) ∧ Lent w' (some ⟨g, 0, none⟩) ys ∧ Nw w w' ∧ w.heap.size ≤ g := by
 go_enter Tryz.func42, Tryz.ntmps42
 go_wp2_with (first | (at_make; refine zeX rfl _ _ _ rfl 1 (.int .u8 0) Tryz.underlying48 zaL .i64 .i64 ((ys.length : Int) + 12) (ys.length + 12) rfl rfl (by omega) (by omega) (by unfold maxLen; omega) ?_; intro w1 ho1 hq1; have hs1 := h.fr hq1 (fun _ _ h => h)) | (at_builtin; refine zay rfl _ _ _ rfl 1 (.int .u8 0) Tryz.underlying48 zaL rfl (by decide) rfl ho1 rfl hs1 (by simp) (zar ys) (by omega) (by unfold maxLen; omega) ?_; intro A' cap' w2 hap))
 rcases hap with ⟨ho2, _, ⟨_, rfl, rfl, hf2⟩ | ⟨hlt, _⟩⟩
 rotate_left
 ·omega
 simp only [Nat.zero_add, List.nil_append] at ho2 ⊢
 have hq2 : Nw w w2 := hq1.new hf2 (fun k hk => by rw [(za9 _ _).1 hk]; exact Nat.le_refl _)
 clear hf2 ho1 hs1 hq1
 go_wp2_with fail
 go_loopw [3, 4] (fun v i wr => zmt w w.heap.size ys v i wr) (fun _ i _ => 12 - (intOf i).toNat)
 case atStart => exact ⟨0, by omega, rfl, rfl, by simpa using ho2, hq2⟩
 case round =>
  obtain ⟨k, hk, rfl, rfl, ho, hq⟩ := hrel
  by_cases hlt : k < 12
  ·go_wp2_with (first | (go_at_call 93; refine (zee _ _ _ (by omega) (by omega) (by omega) (by omega)).mono ?_; rintro e w3 ⟨rfl, rfl⟩) | (at_builtin; refine zay rfl _ _ _ rfl 1 (.int .u8 0) Tryz.underlying48 zaL rfl (by decide) rfl (ho.alloc _) rfl ((Blk.new _ _ _).sl 0 1) rfl (zar [mkB 1 k]) (by omega) (by unfold maxLen; omega) ?_; intro A' cap' w2 hap))
   rcases hap with ⟨ho3, _, ⟨_, rfl, rfl, hf3⟩ | ⟨hlt, _⟩⟩
   rotate_left
   ·omega
   have hq3 : Nw w w2 := (hq.alloc _).new hf3 (fun k hk => by rw [(za9 _ _).1 hk]; exact Nat.le_refl _)
   go_wp2_with fail
   go_roundw
   case rel =>
    refine ⟨k + 1, by omega, by go_num, by simp [Nat.add_assoc], ?_, hq3⟩
    rw [List.range_succ]
    have e : ys.length + (k + 1) = ys.length + k + 1 := by omega
    rw [e]
    simpa [Int.toNat_natCast] using ho3
   case measure => simp [intOf]; omega
  ·have hk12 : k = 12 := by omega
   subst hk12
   have hs := zcN (P := Tryz.prog) 48 zc5 1 zcg (some ⟨w.heap.size, 0, none⟩) (ys.length + 12) (ys.length + 12) ys.length (by omega)
   go_wp2_with fail
   go_ret
   exact ⟨_, rfl, ho, hq, Nat.le_refl _⟩
theorem zka {P : Program} {f : FuncId} {args : Array Value} {w : World} {n : Nat} {v : Value}
  (h : Calls P f args (w.drewN n) fun e w' => e = .returned v ∧ w.drewN n = w') : Calls P f args (w.drewN n) fun e w'' => e = .returned v ∧ ∃ m, w'' = w.drewN m :=
 h.mono fun _ _ ⟨he, hw⟩ => ⟨he, n, hw.symm⟩
def zml (w : World) (ys : List UInt8) (i : Value) (wr : World) : Prop := ∃ k : Nat, k ≤ ys.length + 12 ∧ i = .int .i64 k ∧ Quiet w wr
theorem zme (w : World) (F : Nat → Prop) (A1 A2 : Option Addr) (c2 : Nat) (ys : List UInt8) (h1 : Lent w A1 ys) (h2 : Sl w F A2 (ys.map B8)) (hsz : ys.length ≤ 1000000000000) :
  Calls Tryz.prog 46 #[.slice A1 ys.length (ys.length + 12), .slice A2 ys.length c2] w fun e w' => e = .returned (.bool true) ∧ Quiet w w' := by
 have hs := zcN (P := Tryz.prog) 48 zc5 1 zcg A1 ys.length (ys.length + 12) (ys.length + 12) (Nat.le_refl _)
 go_enter Tryz.func46, Tryz.ntmps46
 go_wp2_with fail
 go_loopw [6] (fun i wr => zml w ys i wr) (fun i _ => ys.length + 12 - (intOf i).toNat)
 case atStart => exact ⟨0, by omega, rfl, Quiet.refl _⟩
 case round =>
  obtain ⟨k, hk, rfl, hq⟩ := hrel
  by_cases hlt : k < ys.length + 12
  ·obtain ⟨b1, o1, rfl, _, hc1⟩ := h1.sl.get (k := k) (by simp [behind]; omega)
   rw [← hq.cell] at hc1
   have hi0 : (k : Int) < (ys.length : Int) + 12 := by omega
   by_cases hlt2 : k < ys.length
   ·obtain ⟨b2, o2, rfl, _, hc2⟩ := h2.get hlt2
    rw [← hq.cell] at hc2
    rw [List.getElem_append_left hlt2] at hc1
    have hi1 : (k : Int) < (ys.length : Int) := by omega
    have hi2 : decide ((ys.length : Int) ≤ (k : Int)) = false := by simp; omega
    have hi3 : decide (ys.length ≤ k) = false := by simp; omega
    go_wp2_with fail
    go_quiet (fail)
    go_wp2_with fail
    go_roundw
    case rel => exact ⟨k + 1, by omega, by go_num, hq.drewN _⟩
    case measure => simp [intOf]; omega
   ·rw [List.getElem_append_right (by omega)] at hc1
    have hv : behind[k - ys.length]'(by simp [behind]; omega) = mkB 1 (k - ys.length) := by simp [behind]
    rw [hv] at hc1
    clear hv
    have hi1 : decide ((k : Int) < (ys.length : Int)) = false := by simp; omega
    have hi3 : decide (k < ys.length) = false := by simp; omega
    have hi2 : (ys.length : Int) ≤ (k : Int) := by omega
    have hmk := fun w => zee w 1 ((k : Int) - (ys.length : Int)) (by omega) (by omega) (by omega) (by omega)
    have hk2 : ((k : Int) - (ys.length : Int)).toNat = k - ys.length := by omega
    rw [hk2] at hmk
    clear hk2
    have HM := Lib.hid hmk
    clear hmk
    have hwr : IntKind.i64.wrap ((k : Int) - (ys.length : Int)) = (k : Int) - (ys.length : Int) := IntWalk.i64_in _ (by omega)
    go_wp2_with fail
    go_quiet ((go_at_call 93; exact zka (HM.out _)))
    go_wp2_with fail
    go_roundw
    case rel => exact ⟨k + 1, by omega, by go_num, hq.drewN _⟩
    case measure => simp [intOf]; omega
  ·go_wp2_with fail
   go_ret
   exact ⟨rfl, hq⟩
/-? kit_OverBytes -/
open Go Go.RowKit
section
variable {w w' : World} {g g' : Nat} {t : TypeId} {cs cs' : Array Value} {S : Nat → Prop}
theorem Blk.row (h : Blk w g t cs) (cs' : Array Value) : Blk (w.setRow g cs') g t cs' := setRow_heap w g cs cs' t (0, 0) h
theorem Fr.setRow (h : Fr S w w') (hp : S g ∨ w.heap.size ≤ g) (cs : Array Value) : Fr S w (w'.setRow g cs) :=
 ⟨h.os, h.tape, h.output, by simpa [World.setRow] using h.size, fun i hi hn => (setRow_other w' g i cs (by
  rintro rfl
  rcases hp with hp | hp
  ·exact hn hp
  ·omega)).trans (h.block i hi hn)⟩
end
section
variable {P : Program}
theorem zan {fn : Func} {p q : Tmp} {ty : TypeId} (h : fn.results = #[.cell p ty, .tmp q]) (tmps : Array Value) (w : World) (g : Nat) (t : TypeId) (cs : Array Value) (fr : Nat × Nat) (d : TypeDesc) (v : Value)
  (hp : tmps.getD p undef = .pointer (some ⟨g, 0, none⟩)) (hq : tmps.getD q undef = v) (hg : w.heap[g]? = some (.cells cs t fr))
  (hu : P.underlying ty = some d) (hd : (match d with | .struct _ | .array _ _ => true | _ => false) = true) (hi : (P.info? ty).map (·.size) = some cs.size) :
  (results fn tmps).run P w = .ok (.tuple #[.agg cs, v]) w := by
 have hp' : tmps[p]?.getD undef = .pointer (some ⟨g, 0, none⟩) := by simpa using hp
 have hq' : tmps[q]?.getD undef = v := by simpa using hq
 simp [results, h, hp', hq', asAddr, run_loadVar_row w g t ty cs fr d hg hu hd hi]
end
theorem zbY {P : Program} {E : TypeId} {size n cap : Nat} {A : Option Addr} {cs : List Value} {F : Nat → Prop} {w : World} {ops : Array Oper} {o : Oper} {a : Act} {K : Act → World → Prop} {Q : Exit → Act → World → Prop} {X : Prop} (hw : Region.wanted o (yielded ops a.tmps) = true) (s x : Operand) (t : TypeId)
  (ho : o.op = .call { callee := .builtin .append, args := #[s, x], argTypes := #[t, t] }) (bytes : Nat) (z : Value) (ht : P.underlying t = some (.slice E))
  (hinfo : (P.info? E).map (fun i => (i.zero, i.size, i.bytes)) = some (some z, size, bytes)) (hzs : z.cells.size = size) (hsz : 0 < size)
  (hs : a.eval s = .slice A n cap) (hown : Own w E size A n cap cs) {A2 : Option Addr} {m c : Nat} {news : List Value} (hx : a.eval x = .slice A2 m c) (hsl : Sl w F A2 news) (hl : news.length = m * size) (h1 : ∀ u ∈ news, u.oneCell' = true)
  (hbytes : (n + m) * bytes ≤ 140737488355328) (hmax : n + m ≤ maxLen)
  (h : ∀ A' cap' w', zaM w E size A n cap m cs news A' cap' w' → K (a.put o.dst (.slice A' (n + m) cap')) w') :
  if Region.wanted o (yielded ops a.tmps) = true then Oper.wp P o a w K Q else X := by
 rw [if_pos hw]
 obtain ⟨A', cap', w', hrun, h2⟩ := zbG (P := P) w t o.type bytes z ht hinfo hzs hsz hown hsl hl h1 hbytes hmax (c := c)
 unfold Oper.wp execOp
 simp only [ho, resolve, invoke, builtin, Sem.run_bind, Sem.run_pure, Result.andThen_ok, List.map_toArray, List.map_cons, List.map_nil, hs, hx]
 rw [hrun]
 exact h A' cap' w' h2
theorem zfO {P : Program} {E : TypeId} {size n cap : Nat} {A : Option Addr} {cs : List Value} {F : Nat → Prop} {w : World} {ops : Array Oper} {rest : List Oper} {o : Oper} {a : Act} {Q : Exit → Act → World → Prop} (hw : Region.wanted o (yielded ops a.tmps) = true) (s x : Operand) (t : TypeId)
  (ho : o.op = .call { callee := .builtin .append, args := #[s, x], argTypes := #[t, t] }) (bytes : Nat) (z : Value) (ht : P.underlying t = some (.slice E))
  (hinfo : (P.info? E).map (fun i => (i.zero, i.size, i.bytes)) = some (some z, size, bytes)) (hzs : z.cells.size = size) (hsz : 0 < size)
  (hs : a.eval s = .slice A n cap) (hown : Own w E size A n cap cs) {A2 : Option Addr} {m c : Nat} {news : List Value} (hx : a.eval x = .slice A2 m c) (hsl : Sl w F A2 news) (hl : news.length = m * size) (h1 : ∀ u ∈ news, u.oneCell' = true)
  (hbytes : (n + m) * bytes ≤ 140737488355328) (hmax : n + m ≤ maxLen)
  (h : ∀ A' cap' w', zaM w E size A n cap m cs news A' cap' w' → wpList P ops Q rest (a.put o.dst (.slice A' (n + m) cap')) w') :
  wpList P ops Q (o :: rest) a w := by
 refine BigFrame.wpList_want hw fun K hK' => ?_
 obtain ⟨A', cap', w', hrun, h2⟩ := zbG (P := P) w t o.type bytes z ht hinfo hzs hsz hown hsl hl h1 hbytes hmax (c := c)
 unfold Oper.wp execOp
 simp only [ho, resolve, invoke, builtin, Sem.run_bind, Sem.run_pure, Result.andThen_ok, List.map_toArray, List.map_cons, List.map_nil, hs, hx]
 rw [hrun]
 exact hK' _ _ (h A' cap' w' h2)
open Go Go.RowKit
def putL : List Value → Nat → List Value → List Value
 | cs, 0, [] => cs
 | [], 0, _ :: _ => []
 | _ :: cs, 0, v :: vs => v :: putL cs 0 vs
 | [], _ + 1, _ => []
 | c :: cs, o + 1, vs => c :: putL cs o vs
theorem zg3 (cs : List Value) (o : Nat) : putL cs o [] = cs := by
 induction cs generalizing o with
 | nil => cases o <;> rfl
 | cons c cs ih =>
  cases o with
  | zero => rfl
  | succ o => show c :: putL cs o [] = _; rw [ih]
theorem zft (cs : List Value) (o : Nat) (v : Value) (vs : List Value) : putL cs o (v :: vs) = putL (cs.set o v) (o + 1) vs := by
 induction cs generalizing o with
 | nil => cases o <;> rfl
 | cons c cs ih =>
  cases o with
  | zero =>
   show v :: putL cs 0 vs = v :: putL cs 0 vs
   rfl
  | succ o =>
   show c :: putL cs o (v :: vs) = c :: putL (cs.set o v) (o + 1) vs
   rw [ih]
section
variable {w w' : World} {g : Nat} {t : TypeId} {l : List Value}
theorem Blk.setCells (h : Blk w g t l.toArray) (o : Nat) (vs : List Value) : Blk (w.setCells g o vs) g t (putL l o vs).toArray := by
 induction vs generalizing w o l with
 | nil => rw [zg3]; exact h
 | cons v vs ih =>
  rw [zft]
  have h1 := h.set_ o v
  rw [List.setIfInBounds_toArray] at h1
  exact ih h1 (o + 1)
theorem Fr.set1 (f : Fr (· = g) w w') (k : Nat) (u : Value) : Fr (· = g) w (w'.setCell ⟨g, k, none⟩ u) := f.setCell (p := ⟨g, k, none⟩) (.inl rfl) u
theorem Fr.setCells (f : Fr (· = g) w w') (o : Nat) (vs : List Value) : Fr (· = g) w (w'.setCells g o vs) := by
 induction vs generalizing w' o with
 | nil => exact f
 | cons v vs ih => exact ih (f.set1 o v) (o + 1)
theorem Blk.there (h : Blk w g t l.toArray) (o n : Nat) (hn : o + n ≤ l.length) : w.there g o n := fun j hj => by
 have h1 := h.cell (o + j)
 have h2 := h.frozen (o + j)
 rw [h1]
 exact ⟨by simp; omega, h2⟩
theorem Blk.cells_at (h : Blk w g t l.toArray) (o : Nat) : ∀ p u, (l.drop o)[p]? = some u → w.cell? ⟨g, o + p, none⟩ = some u := fun p u hu => by
 rw [h.cell]
 simpa using hu
theorem Blk.cells_in (h : Blk w g t l.toArray) (o n : Nat) : ∀ p u, ((l.drop o).take n)[p]? = some u → w.cell? ⟨g, o + p, none⟩ = some u := fun p u hu => by
 refine h.cells_at o p u ?_
 rw [List.getElem?_take] at hu
 split at hu
 ·exact hu
 ·cases hu
end
end Go.Proofs.YtippdjaakcgeoaaGreat
