/- Lemmas of the walks: BgD, RefA, RefB, RdQ, GdP. (Laid together by shake.py.) -/
import Derived.Test.YtippdjaakcgeoaaGreatEa01
import Derived.Test.YtippdjaakcgeoaaGreatEa02
import Derived.Test.YtippdjaakcgeoaaGreatEa03
import Derived.Test.YtippdjaakcgeoaaGreatEa13
set_option linter.unusedVariables false
set_option linter.unusedSimpArgs false
set_option maxRecDepth 100000
set_option maxHeartbeats 16000000
namespace Go.Proofs.YtippdjaakcgeoaaGreat
open Go Go.RowKit
def zkF (w : World) (g : Nat) (LL : List (Ls LetM)) (i : Value) (wr : World) : Prop := ∃ k : Nat, k ≤ LL.length ∧ i = .int .i64 k ∧ zbM w wr g (lvs ((LL.take k).flatMap fun s => s.l.flatMap zaz)) (lvs ((LL.take k).flatMap fun s => s.l.flatMap zaB)) (lvs ((LL.take k).flatMap fun s => s.l.map LetM.ents)) (lvs (LL.take k))
theorem zf5 {α β : Type} (g : Ls α → List β) (l : List (Ls α)) (k : Nat) (h : k < l.length) : ((l.take k).flatMap g).length + (g l[k]).length ≤ (l.flatMap g).length := zg2 g l k h
theorem ze7 (w : World) (F0 F : Nat → Prop) (B : Option Addr) (c : Nat) (LL : List (Ls LetM)) (hs : Sl w F0 B (lvs LL)) (hL : Held w F 50 20 zai LL) (hH : zas w F (LL.flatMap (·.l))) (hF : ∀ k, F k → k < w.heap.size)
  (n1 : LL.length ≤ 1000) (n2 : (LL.flatMap fun s => s.l.flatMap zaz).length ≤ 999000000) (n3 : (LL.flatMap fun s => s.l.flatMap zaB).length ≤ 999000000) (n4 : (LL.flatMap fun s => s.l.map LetM.ents).length ≤ 999000000) (hz : ∀ x ∈ LL.flatMap (·.l), za8 x) (n : Nat) (hn : n = LL.length) :
  Calls Tryz.prog 16 #[.slice B n c] w fun e w' => e = .returned (.bool true) ∧ Fr F w w' := by
 have HZ := Lib.hid hz
 have HH := Lib.hid hH
 have HL := Lib.hid hL
 have HN := Lib.hid hn
 clear hz hH hL hn
 go_enter Tryz.func16, Tryz.ntmps16
 go_upto_region 2 with (fail)
 obtain ⟨g, hg⟩ : ∃ g, g = w.heap.size := ⟨_, rfl⟩
 obtain ⟨W0, hW0⟩ : ∃ W, W = w.alloc (.cells (bag4 (.slice none 0 0) (.slice none 0 0) (.slice none 0 0) (.slice none 0 0)) 115) := ⟨_, rfl⟩
 have st0 : zbM w W0 g [] [] [] [] := by rw [hg, hW0]; exact zbM.new
 have e0 : w.alloc (.cells (#[.slice none 0 0, .slice none 0 0, .slice none 0 0, .slice none 0 0, .slice none 0 0, .slice none 0 0, .slice none 0 0, .slice none 0 0, .slice none 0 0, .slice none 0 0, .slice none 0 0, .slice none 0 0, .slice none 0 0, .slice none 0 0, .slice none 0 0, .slice none 0 0, .slice none 0 0, .slice none 0 0, .slice none 0 0, .slice none 0 0, .slice none 0 0, .slice none 0 0]) 115) = W0 := hW0.symm
 have HG := Lib.hid hg
 have E0 := Lib.hid e0
 clear hg hW0 e0
 rw [← HG.out]
 try rw [E0.out]
 go_wp2_with fail
 go_loopw [4] (fun i wr => zkF w g LL i wr) (fun i _ => n - (intOf i).toNat)
 case atStart => exact ⟨0, Nat.zero_le _, rfl, by simpa [lvs] using st0⟩
 case round =>
  clear st0
  obtain ⟨k, hk, rfl, st⟩ := hrel
  by_cases hlt : k < n
  ·have hlk : k < LL.length := by rw [← HN.out]; exact hlt
   have hi0 : (k : Int) < (n : Int) := by omega
   have hi1 : decide ((k : Int) < (n : Int)) = true := decide_eq_true hi0
   have hi2 : decide (k < n) = true := decide_eq_true hlt
   obtain ⟨b, o, hA, _, hc⟩ := Sl.get (f := Ls.v) (hs.fr st.new_ (fun _ _ h => h)) hlk
   have hmem : ∀ x ∈ (LL[k]).l, x ∈ LL.flatMap (·.l) := fun x hx => List.mem_flatMap.2 ⟨_, List.getElem_mem hlk, hx⟩
   have hnext : ∀ w', BgTo w wr g ((lvs ((LL.take k).flatMap fun s => s.l.flatMap zaz)) ++ lvs ((LL[k]).l.flatMap zaz)) ((lvs ((LL.take k).flatMap fun s => s.l.flatMap zaB)) ++ lvs ((LL[k]).l.flatMap zaB)) ((lvs ((LL.take k).flatMap fun s => s.l.map LetM.ents)) ++ lvs ((LL[k]).l.map LetM.ents)) (lvs (LL.take k) ++ [.slice (LL[k]).a (LL[k]).l.length (LL[k]).c]) w' → zkF w g LL (.int .i64 ((k : Int) + 1)) w' := fun w' h => by
    refine ⟨k + 1, by omega, by go_num, ?_⟩
    have h1 := h.1
    rw [zcp _ _ _ hlk, zcp _ _ _ hlk, zcp _ _ _ hlk]
    have e : lvs (LL.take (k + 1)) = lvs (LL.take k) ++ [(LL[k]).v] := by rw [List.take_succ_eq_append_getElem hlk, zd4]; rfl
    rw [e]
    exact h1
   have hl1 := zf5 (fun s : Ls LetM => s.l.flatMap zaz) LL k hlk
   have hl2 := zf5 (fun s : Ls LetM => s.l.flatMap zaB) LL k hlk
   have hl3 := zf5 (fun s : Ls LetM => s.l.map LetM.ents) LL k hlk
   simp only [List.length_map] at hl3
   have hput := zgM w wr g _ _ _ _ (LL[k]).a (LL[k]).c (LL[k]).l F ((HL.out.each _ (List.getElem_mem hlk)).own.sl.mono fun j hj _ => (HL.out.each _ (List.getElem_mem hlk)).base j hj) (fun x hx => HH.out.each x (hmem x hx)) st (by rw [zbW]; omega) (by rw [zbW]; omega) (by rw [zbW]; omega) (by rw [zbW, List.length_take]; omega)
   obtain ⟨s, hse⟩ : ∃ s, LL[k] = s := ⟨_, rfl⟩
   rw [hse] at hc hput hnext
   obtain ⟨sa, sc, sl⟩ := s
   simp only at hc hput hnext
   obtain ⟨sn, hsn⟩ : ∃ n, sl.length = n := ⟨_, rfl⟩
   simp only [Ls.v] at hc
   rw [hsn] at hc hput hnext
   have HNX := Lib.hid hnext
   have HP := Lib.hid hput
   clear hnext hput hse hsn hmem hl1 hl2 hl3 st
   subst hA
   go_wp2_with fail
   refine HP.out.mono ?_
   rintro e w5 ⟨rfl, b5⟩
   have H5 := Lib.hid (HNX.out w5 b5)
   clear b5
   go_wp2_with fail
   refine ⟨H5.out, ?_⟩
   simp [intOf]
   omega
  ·have hkn : k = LL.length := by have := HN.out; omega
   rw [hkn, List.take_length] at st
   have e1 : (LL.flatMap fun s => s.l.flatMap zaz) = (LL.flatMap (·.l)).flatMap zaz := by rw [List.flatMap_assoc]
   have e2 : (LL.flatMap fun s => s.l.flatMap zaB) = (LL.flatMap (·.l)).flatMap zaB := by rw [List.flatMap_assoc]
   have e3 : (LL.flatMap fun s => s.l.map LetM.ents) = (LL.flatMap (·.l)).map LetM.ents := by rw [List.map_flatMap]
   rw [e1, e2, e3] at st
   rw [e1] at n2
   rw [e2] at n3
   rw [e3] at n4
   have hap := zhc w wr g F _ _ _ _ st HH.out.ints HH.out.byts HH.out.ents HL.out hF (by omega) (by omega) (by omega) (by omega) (fun s hs => by
     obtain ⟨x, hx, hs⟩ := List.mem_flatMap.1 hs
     have hzx := HZ.out x hx
     rcases List.mem_append.1 hs with hs | hs
     ·obtain ⟨e, he, hs⟩ := List.mem_flatMap.1 hs
      have hze := (hzx.each e he).cfg
      simp only [zbs, zbH, List.mem_cons, List.not_mem_nil, or_false] at hs
      have := hze.v
      have := hze.o
      have := hze.l
      have := hze.w
      rcases hs with rfl | rfl | rfl | rfl <;> omega
     ·have hze := hzx.cfg
      simp only [zbH, List.mem_cons, List.not_mem_nil, or_false] at hs
      have := hze.v
      have := hze.o
      have := hze.l
      have := hze.w
      rcases hs with rfl | rfl | rfl | rfl <;> omega) (fun s hs => by
     obtain ⟨x, hx, hs⟩ := List.mem_flatMap.1 hs
     have hzx := HZ.out x hx
     rcases List.mem_append.1 hs with hs | hs
     ·obtain ⟨e, he, rfl⟩ := List.mem_map.1 hs
      have := (hzx.each e he).cmd
      omega
     ·rw [List.mem_singleton.1 hs]
      have := hzx.bytes
      omega) (fun s hs => by
     obtain ⟨x, hx, rfl⟩ := List.mem_map.1 hs
     have := (HZ.out x hx).ents
     omega) (fun s hs => by
     have h1 := zf5 (fun s : Ls LetM => s.l.map LetM.ents) LL
     obtain ⟨i, hi, rfl⟩ := List.mem_iff_getElem.1 hs
     have h2 := h1 i hi
     simp only [List.length_map] at h2
     rw [e3] at h2
     simp only [List.length_map] at h2 n4
     omega)
   have HAP := Lib.hid hap
   clear hap st hkn e1 e2 e3
   go_wp2_with fail
   refine HAP.out.mono ?_
   rintro e w5 ⟨rfl, f5⟩
   go_wp2_with fail
   go_ret
   exact ⟨rfl, f5⟩
def zlc (w : World) (g : Nat) (ss : List (Ls UInt8)) (i : Value) (wr : World) : Prop := ∃ k : Nat, k ≤ ss.length ∧ i = .int .i64 k ∧ zbM w wr g [] (lvs (ss.take k)) [] []
theorem zi9 (w : World) (F0 F : Nat → Prop) (B : Option Addr) (c : Nat) (ss : List (Ls UInt8)) (hs : Sl w F0 B (lvs ss)) (hH : Held w F 5 1 zaw ss) (hF : ∀ k, F k → k < w.heap.size)
  (n1 : ss.length ≤ 1000) (hz : ∀ s ∈ ss, s.l.length ≤ 100000000000) (n : Nat) (hn : n = ss.length) :
  Calls Tryz.prog 41 #[.slice B n c] w fun e w' => e = .returned (.bool true) ∧ Fr F w w' := by
 have HZ := Lib.hid hz
 have HH := Lib.hid hH
 have HN := Lib.hid hn
 clear hz hH hn
 go_enter Tryz.func41, Tryz.ntmps41
 go_upto_region 2 with (fail)
 obtain ⟨g, hg⟩ : ∃ g, g = w.heap.size := ⟨_, rfl⟩
 obtain ⟨W0, hW0⟩ : ∃ W, W = w.alloc (.cells (bag4 (.slice none 0 0) (.slice none 0 0) (.slice none 0 0) (.slice none 0 0)) 115) := ⟨_, rfl⟩
 have st0 : zbM w W0 g [] [] [] [] := by rw [hg, hW0]; exact zbM.new
 have e0 : w.alloc (.cells (#[.slice none 0 0, .slice none 0 0, .slice none 0 0, .slice none 0 0, .slice none 0 0, .slice none 0 0, .slice none 0 0, .slice none 0 0, .slice none 0 0, .slice none 0 0, .slice none 0 0, .slice none 0 0, .slice none 0 0, .slice none 0 0, .slice none 0 0, .slice none 0 0, .slice none 0 0, .slice none 0 0, .slice none 0 0, .slice none 0 0, .slice none 0 0, .slice none 0 0]) 115) = W0 := hW0.symm
 have HG := Lib.hid hg
 have E0 := Lib.hid e0
 clear hg hW0 e0
 rw [← HG.out]
 try rw [E0.out]
 go_wp2_with fail
 go_loopw [4] (fun i wr => zlc w g ss i wr) (fun i _ => n - (intOf i).toNat)
 case atStart => exact ⟨0, Nat.zero_le _, rfl, by simpa [lvs] using st0⟩
 case round =>
  clear st0
  obtain ⟨k, hk, rfl, st⟩ := hrel
  by_cases hlt : k < n
  ·have hlk : k < ss.length := by rw [← HN.out]; exact hlt
   have hi0 : (k : Int) < (n : Int) := by omega
   have hi1 : decide ((k : Int) < (n : Int)) = true := decide_eq_true hi0
   have hi2 : decide (k < n) = true := decide_eq_true hlt
   obtain ⟨b, o, hA, _, hc⟩ := Sl.get (f := Ls.v) (hs.fr st.new_ (fun _ _ h => h)) hlk
   have hnext : ∀ w', BgTo w wr g [] (lvs (ss.take k) ++ [.slice (ss[k]).a (ss[k]).l.length (ss[k]).c]) [] [] w' → zlc w g ss (.int .i64 ((k : Int) + 1)) w' := fun w' h => by
    refine ⟨k + 1, by omega, by go_num, ?_⟩
    have e : lvs (ss.take (k + 1)) = lvs (ss.take k) ++ [(ss[k]).v] := by rw [List.take_succ_eq_append_getElem hlk, zd4]; rfl
    rw [e]
    exact h.1
   have hput := zed w wr g [] (lvs (ss.take k)) [] [] (ss[k]).a (ss[k]).l.length (ss[k]).c st (by rw [zbW, List.length_take]; omega)
   obtain ⟨s, hse⟩ : ∃ s, ss[k] = s := ⟨_, rfl⟩
   rw [hse] at hc hput hnext
   obtain ⟨sa, sc, sl⟩ := s
   simp only at hc hput hnext
   obtain ⟨sn, hsn⟩ : ∃ n, sl.length = n := ⟨_, rfl⟩
   simp only [Ls.v] at hc
   rw [hsn] at hc hput hnext
   have HNX := Lib.hid hnext
   have HP := Lib.hid hput
   clear hnext hput hse hsn st
   subst hA
   go_wp2_with fail
   refine HP.out.mono ?_
   rintro e w5 ⟨rfl, b5⟩
   have H5 := Lib.hid (HNX.out w5 b5)
   clear b5
   go_wp2_with fail
   refine ⟨H5.out, ?_⟩
   simp [intOf]
   omega
  ·have hkn : k = ss.length := by have := HN.out; omega
   rw [hkn, List.take_length] at st
   have hap := zhc w wr g F [] ss [] [] st (Held.nil _ _ _ _ _) HH.out (Held.nil _ _ _ _ _) (Held.nil _ _ _ _ _) hF (by simp) (by omega) (by simp) (by simp) (fun _ h => by cases h) HZ.out (fun _ h => by cases h) (fun _ h => by cases h)
   have HAP := Lib.hid hap
   clear hap st hkn
   go_wp2_with fail
   refine HAP.out.mono ?_
   rintro e w5 ⟨rfl, f5⟩
   go_wp2_with fail
   go_ret
   exact ⟨rfl, f5⟩
open Go Go.RowKit
def zfy (bs : List UInt8) (e : Ending) : Prop :=
 (decN bs = none ∧ e = .returned (.tuple #[.int .i64 0, .int .i64 0])) ∨
 ∃ n j : Nat, decN bs = some (n, bs.drop j) ∧ 0 < j ∧ j ≤ bs.length ∧ e = .returned (.tuple #[.int .i64 n, .int .i64 j])
def zmA (bs : List UInt8) (n i : Value) : Prop := ∃ k acc : Nat, n = .int .i64 acc ∧ i = .int .i64 k ∧ k ≤ bs.length ∧ zcF bs k acc (bs.drop k)
theorem zlX (w : World) (F : Nat → Prop) (A : Option Addr) (c : Nat) (bs : List UInt8) (h : Sl w F A (bs.map B8)) (hsz : bs.length ≤ 1000000000000) :
  Calls Tryz.prog 170 #[.slice A bs.length c] w fun e w' => zfy bs e ∧ w = w' := by
 go_enter Tryz.func170, Tryz.ntmps170
 go_wp2_with fail
 go_loop [4, 5] (fun n i => zmA bs n i) (fun _ i => 9 - (intOf i).toNat)
 case atStart => exact ⟨0, 0, rfl, rfl, Nat.zero_le _, zcF.start bs⟩
 case round =>
  obtain ⟨k, acc, rfl, rfl, hkl, hN⟩ := hrel
  have hk9 := hN.le
  by_cases hlt : k < bs.length
  ·by_cases hk : k < 9
   ·obtain ⟨b', o, rfl, _, hc⟩ := h.get hlt
    obtain ⟨b, hb⟩ : ∃ b, bs[k] = b := ⟨_, rfl⟩
    have hdrop : bs.drop k = b :: bs.drop (k + 1) := by rw [← hb]; exact List.drop_eq_getElem_cons hlt
    rw [hdrop] at hN
    rw [hb] at hc
    have HB := Lib.hid hb
    clear hb hdrop
    have hNB := zj0 k acc b hk hN.lt
    obtain ⟨v, hv⟩ : ∃ v : Nat, v = acc + 128 ^ k * (b.toNat % 128) := ⟨_, rfl⟩
    rw [← hv] at hNB
    have HV := Lib.hid hv
    clear hv
    have hb256 : b.toNat < 256 := b.toNat_lt
    by_cases hlt8 : b.toNat < 128
    ·have hlast := Lib.hid (hN.last hk hlt8)
     by_cases h0 : 0 < k ∧ b.toNat = 0
     ·have hfin : zfy bs (.returned (.tuple #[.int .i64 0, .int .i64 0])) := by
       have := hlast.out
       rw [if_pos h0] at this
       exact .inl ⟨this, rfl⟩
      obtain ⟨h01, h02⟩ := h0
      have h03 : ((b.toNat : Int) == 0) = true := by simp [h02]
      clear h02
      go_wp2_with fail
      go_ret2
      exact ⟨hfin, rfl⟩
     ·have hv2 : acc + 128 ^ k * b.toNat = v := by
       have := HV.out
       rw [Nat.mod_eq_of_lt hlt8] at this
       exact this.symm
      have hl2 := hlast.out
      rw [if_neg h0, hv2] at hl2
      have HL2 := Lib.hid hl2
      clear hl2 hv2 hlast
      have hq : (¬ (0 < k) ∨ (0 < k ∧ ((b.toNat : Int) == 0) = false)) := by
       by_cases hz : 0 < k
       ·exact .inr ⟨hz, beq_eq_false_iff_ne.2 (by omega)⟩
       ·exact .inl hz
      clear h0
      by_cases ht : 4611686018427387903 < (v : Int)
      ·have hfin : zfy bs (.returned (.tuple #[.int .i64 0, .int .i64 0])) := by
        have := HL2.out
        rw [if_pos (by unfold topN; omega)] at this
        exact .inl ⟨this, rfl⟩
       rcases hq with hkf | ⟨hk0, hb0⟩
       all_goals
        go_wp2_with fail
        go_ret2
        exact ⟨hfin, rfl⟩
      ·have hfin : zfy bs (.returned (.tuple #[.int .i64 v, .int .i64 ((k : Int) + 1)])) := by
        have := HL2.out
        rw [if_neg (by unfold topN; omega)] at this
        exact .inr ⟨v, k + 1, this, by omega, by omega, rfl⟩
       have ht1 : (v : Int) ≤ 4611686018427387903 := by omega
       clear ht
       rcases hq with hkf | ⟨hk0, hb0⟩
       all_goals
        go_wp2_with fail
        go_ret2
        exact ⟨hfin, rfl⟩
    ·have hb128 : 128 ≤ b.toNat := by omega
     have hnext := hN.next hk hb128
     have hvb : acc + 128 ^ k * (b.toNat - 128) = v := by
      have := HV.out
      rw [this]
      congr 2
      omega
     rw [hvb] at hnext
     clear hvb
     go_wp2_with fail
     go_round
     case rel => exact ⟨k + 1, v, rfl, by go_num, by omega, hnext⟩
     case measure => simp [intOf]; omega
   ·have hk9' : k = 9 := by omega
    subst hk9'
    have hfin : zfy bs (.returned (.tuple #[.int .i64 0, .int .i64 0])) := .inl ⟨hN.far, rfl⟩
    go_wp2_with fail
    go_ret2
    exact ⟨hfin, rfl⟩
  ·have hd : bs.drop k = [] := List.drop_eq_nil_of_le (by omega)
   rw [hd] at hN
   have hfin : zfy bs (.returned (.tuple #[.int .i64 0, .int .i64 0])) := .inl ⟨hN.none_, rfl⟩
   clear hd
   go_wp2_with fail
   go_ret2
   exact ⟨hfin, rfl⟩
open Go Go.RowKit
def IsRR (w : World) (F : Nat → Prop) (g : Nat) : Rd → Prop
 | none => Blk w g 154 #[.slice none 0 0, .bool true] ∧ OutF w F g
 | some bs => ∃ A cap, Blk w g 154 #[.slice A bs.length cap, .bool false] ∧ bs.length ≤ cap ∧ cap ≤ maxLen ∧ Sl w F A (bs.map B8) ∧ OutF w F g
theorem IsRR.fr {w w' : World} {F S : Nat → Prop} {g : Nat} {s : Rd} (h : IsRR w F g s) (hf : Fr S w w') (hg : ¬ S g) (hd : ∀ k, F k → ¬ S k) : IsRR w' F g s := by
 cases s with
 | none => exact ⟨h.1.fr hf hg, h.2.fr hf.size⟩
 | some bs =>
  obtain ⟨A, cap, hb, h1, h2, h3, h4⟩ := h
  exact ⟨A, cap, hb.fr hf hg, h1, h2, h3.fr hf hd, h4.fr hf.size⟩
theorem IsRR.out {w : World} {F : Nat → Prop} {g : Nat} {s : Rd} (h : IsRR w F g s) : OutF w F g := by
 cases s with
 | none => exact h.2
 | some bs => obtain ⟨_, _, _, _, _, _, h⟩ := h; exact h
theorem IsRR.lt {w : World} {F : Nat → Prop} {g : Nat} {s : Rd} (h : IsRR w F g s) : g < w.heap.size := by
 cases s with
 | none => exact h.1.lt
 | some bs => obtain ⟨_, _, hb, _⟩ := h; exact hb.lt
def RRTo (w : World) (F : Nat → Prop) (g : Nat) (s : Rd) (w' : World) : Prop := IsRR w' F g s ∧ Fr (· = g) w w'
theorem RRTo.trans {w w1 w2 : World} {F : Nat → Prop} {g : Nat} {s1 s2 : Rd} (h : RRTo w F g s1 w1) (k : RRTo w1 F g s2 w2) : RRTo w F g s2 w2 := ⟨k.1, h.2.tr k.2⟩
theorem RRTo.refl {w : World} {F : Nat → Prop} {g : Nat} {s : Rd} (h : IsRR w F g s) : RRTo w F g s w := ⟨h, Fr.refl _ _⟩
theorem zdT (w : World) (F : Nat → Prop) (g : Nat) (s : Rd) (h : IsRR w F g s) :
  Calls Tryz.prog 171 #[.pointer (some ⟨g, 0, none⟩)] w fun e w' => e = .returned (.tuple #[]) ∧ RRTo w F g none w' := by
 have hh : ∃ f v, Blk w g 154 #[v, f] ∧ OutF w F g := by
  cases s with
  | none => exact ⟨_, _, h⟩
  | some bs => obtain ⟨A, cap, hb, _, _, _, hg⟩ := h; exact ⟨_, _, hb, hg⟩
 obtain ⟨f, v, hb, hg⟩ := hh
 have c0 := hb.cell 0
 have c1 := hb.cell 1
 have f0 := hb.frozen 0
 have f1 := hb.frozen 1
 simp at c0 c1
 go_enter Tryz.func171, Tryz.ntmps171
 go_wp2
 go_end0
 refine ⟨rfl, ⟨?_, hg.fr (by simp [World.setCell])⟩, ((Fr.refl (· = g) w).setCell (p := ⟨g, 1, none⟩) (.inl rfl) _).setCell (p := ⟨g, 0, none⟩) (.inl rfl) _⟩
 have := (hb.set_ 1 (.bool true)).set_ 0 (.slice none 0 0)
 simpa using this
theorem IsRR.next {w : World} {F : Nat → Prop} {g : Nat} {A : Option Addr} {cap : Nat} {bs : List UInt8} (hb : Blk w g 154 #[.slice A bs.length cap, .bool false]) (h1 : bs.length ≤ cap) (h2 : cap ≤ maxLen) (h3 : Sl w F A (bs.map B8)) (h4 : OutF w F g) {j : Nat} (hj : j ≤ bs.length) :
  RRTo w F g (some (bs.drop j)) (w.setCell ⟨g, 0, none⟩ (.slice (cutA A cap j 1) (bs.length - j) (cap - j))) := by
 refine ⟨⟨cutA A cap j 1, cap - j, ?_, ?_, ?_, ?_, h4.fr (by simp [World.setCell])⟩, (Fr.refl (· = g) w).setCell (p := ⟨g, 0, none⟩) (.inl rfl) _⟩
 ·have := hb.set_ 0 (.slice (cutA A cap j 1) (bs.length - j) (cap - j))
  simpa using this
 ·simp; omega
 ·unfold maxLen at h2 ⊢; omega
 ·have := (h3.drop (n := bs.length) (m := cap) (s := 1) (l := j) (by simp) h1 hj).setCell (p := ⟨g, 0, none⟩) h4.1 (.slice (cutA A cap j 1) (bs.length - j) (cap - j))
  simpa [List.map_drop] using this
theorem zaF (w : World) (F : Nat → Prop) (g : Nat) (s : Rd) (h : IsRR w F g s) (most : Int) (hsz : zav s ≤ 1000000000000) :
  Calls Tryz.prog 101 #[.pointer (some ⟨g, 0, none⟩), .int .i64 most] w fun e w' => e = .returned (.int .i64 (za1 most s).1) ∧ RRTo w F g (za1 most s).2 w' := by
 cases s with
 | none =>
  have c1 := h.1.cell 1
  simp at c1
  go_enter Tryz.func101, Tryz.ntmps101
  go_wp2
  go_ret
  exact ⟨rfl, RRTo.refl h⟩
 | some bs =>
  obtain ⟨A, cap, hb, h1, h2, h3, h4⟩ := id h
  have c0 := hb.cell 0
  have c1 := hb.cell 1
  have f0 := hb.frozen 0
  simp at c0 c1
  have hget := zlX w F A cap bs h3 hsz
  by_cases hd : decN bs = none
  ·have HD := Lib.hid (zd5 most hd)
   have hg2 : Calls Tryz.prog 170 #[.slice A bs.length cap] w fun e w' => e = .returned (.tuple #[.int .i64 0, .int .i64 0]) ∧ w = w' := hget.mono fun e w' ⟨he, hw⟩ => by
    rcases he with ⟨_, he⟩ | ⟨n, j, he, _⟩
    ·exact ⟨he, hw⟩
    ·rw [hd] at he; cases he
   clear hd hget
   go_enter Tryz.func101, Tryz.ntmps101
   go_wp2_with (first | (go_at_call 170; refine hg2.mono ?_; rintro e w' ⟨rfl, rfl⟩) | (go_at_call 171; refine (zdT _ _ _ _ h).mono ?_; rintro e w2 ⟨rfl, hr⟩))
   go_ret
   rw [HD.out]
   exact ⟨rfl, hr⟩
  ·obtain ⟨n, j, hd2, hj0, hj, hg2⟩ : ∃ n j : Nat, decN bs = some (n, bs.drop j) ∧ 0 < j ∧ j ≤ bs.length ∧ Calls Tryz.prog 170 #[.slice A bs.length cap] w fun e w' => e = .returned (.tuple #[.int .i64 n, .int .i64 j]) ∧ w = w' := by
    cases hq : decN bs with
    | none => exact (hd hq).elim
    | some q =>
     obtain ⟨n, r⟩ := q
     have hr : ∃ j, r = bs.drop j ∧ 0 < j ∧ j ≤ bs.length := by
      obtain ⟨_, he⟩ := ziC hq
      refine ⟨(enc n).length, ?_, ?_, ?_⟩
      ·rw [he, List.drop_left]
      ·have := zkx n
       cases h : enc n with
       | nil => exact (this h).elim
       | cons _ _ => simp
      ·rw [he]; simp
     obtain ⟨j, rfl, hj0, hj⟩ := hr
     refine ⟨n, j, rfl, hj0, hj, hget.mono fun e w' ⟨he, hw⟩ => ?_⟩
     rcases he with ⟨he, _⟩ | ⟨n', j', he, hj0', hj', hee⟩
     ·rw [hq] at he; cases he
     ·rw [hq] at he
      injection he with he
      injection he with he1 he2
      have hl := congrArg List.length he2
      simp at hl
      have hjj : j = j' := by omega
      subst he1; subst hjj
      exact ⟨hee, hw⟩
   clear hd hget
   by_cases hm : most < (n : Int)
   ·have HD := Lib.hid (zfl most hd2 hm)
    clear hd2
    have hj1 : ((j : Int) == 0) = false := beq_eq_false_iff_ne.2 (by omega)
    go_enter Tryz.func101, Tryz.ntmps101
    go_wp2_with (first | (go_at_call 170; refine hg2.mono ?_; rintro e w' ⟨rfl, rfl⟩) | (go_at_call 171; refine (zdT _ _ _ _ h).mono ?_; rintro e w2 ⟨rfl, hr⟩))
    go_ret
    rw [HD.out]
    exact ⟨rfl, hr⟩
   ·have HD := Lib.hid (zf3 most hd2 hm)
    clear hd2
    have hj1 : ((j : Int) == 0) = false := beq_eq_false_iff_ne.2 (by omega)
    have hm2 : (n : Int) ≤ most := by omega
    have s2 := zfJ (P := Tryz.prog) 48 zc5 1 zcg A bs.length cap j hj
    have hfin := IsRR.next hb h1 h2 h3 h4 hj
    go_enter Tryz.func101, Tryz.ntmps101
    go_wp2_with (go_at_call 170; refine hg2.mono ?_; rintro e w' ⟨rfl, rfl⟩)
    go_ret
    rw [HD.out]
    exact ⟨rfl, hfin⟩
theorem zke (w : World) (F : Nat → Prop) (g : Nat) (s : Rd) (h : IsRR w F g s) :
  Calls Tryz.prog 172 #[.pointer (some ⟨g, 0, none⟩)] w fun e w' => e = .returned (.bool (zaK s).1) ∧ RRTo w F g (zaK s).2 w' := by
 cases s with
 | none =>
  have c1 := h.1.cell 1
  simp at c1
  go_enter Tryz.func172, Tryz.ntmps172
  go_wp2
  go_ret
  exact ⟨rfl, RRTo.refl h⟩
 | some bs =>
  obtain ⟨A, cap, hb, h1, h2, h3, h4⟩ := id h
  have c0 := hb.cell 0
  have c1 := hb.cell 1
  have f0 := hb.frozen 0
  simp at c0 c1
  by_cases hne : bs = []
  ·subst hne
   go_enter Tryz.func172, Tryz.ntmps172
   go_wp2_with (go_at_call 171; refine (zdT _ _ _ _ h).mono ?_; rintro e w2 ⟨rfl, hr⟩)
   go_ret
   exact ⟨rfl, hr⟩
  ·obtain ⟨b, r, hbr⟩ : ∃ b r, bs = b :: r := by cases bs with | nil => exact (hne rfl).elim | cons b r => exact ⟨b, r, rfl⟩
   have hpos : 0 < bs.length := by rw [hbr]; simp
   obtain ⟨b', o, rfl, _, hc⟩ := h3.get (k := 0) hpos
   have hb0 : bs[0] = b := by simp [hbr]
   rw [hb0, Nat.add_zero] at hc
   clear hb0
   have hdr : bs.drop 1 = r := by rw [hbr]; rfl
   have hl0 : ((bs.length : Int) == 0) = false := beq_eq_false_iff_ne.2 (by omega)
   have hfl : zaK (some bs) = if 1 < b.toNat then (false, none) else (((b.toNat : Int) == 1), some r) := by rw [hbr]; rfl
   have hfin := IsRR.next hb h1 h2 h3 h4 (j := 1) hpos
   rw [hdr] at hfin
   have HBR := Lib.hid hbr
   clear hbr hdr hne
   by_cases hb1 : 1 < b.toNat
   ·rw [if_pos hb1] at hfl
    have HD := Lib.hid hfl
    clear hfl
    go_enter Tryz.func172, Tryz.ntmps172
    go_wp2_with (go_at_call 171; refine (zdT _ _ _ _ h).mono ?_; rintro e w2 ⟨rfl, hr⟩)
    go_ret
    rw [HD.out]
    exact ⟨rfl, hr⟩
   ·rw [if_neg hb1] at hfl
    have HD := Lib.hid hfl
    clear hfl
    have s2 : ∀ w, (Instr.slice 48 (.slice (some ⟨b', o, none⟩) bs.length cap) (some (.int .i64 1)) none none).run Tryz.prog w = .ok (.slice (cutA (some ⟨b', o, none⟩) cap 1 1) (bs.length - 1) (cap - 1)) w := zfJ (P := Tryz.prog) 48 zc5 1 zcg (some ⟨b', o, none⟩) bs.length cap 1 hpos
    go_enter Tryz.func172, Tryz.ntmps172
    go_wp2_with fail
    go_ret
    rw [HD.out]
    exact ⟨rfl, hfin⟩
theorem zhh (w : World) (F : Nat → Prop) (g : Nat) (s : Rd) (h : IsRR w F g s) :
  Calls Tryz.prog 103 #[.pointer (some ⟨g, 0, none⟩)] w fun e w' => e = .returned (.int .i64 (zd2 s)) ∧ w = w' := by
 cases s with
 | none =>
  have c0 := h.1.cell 0
  have c1 := h.1.cell 1
  simp at c0 c1
  go_enter Tryz.func103, Tryz.ntmps103
  go_wp2
  go_ret
  exact ⟨rfl, rfl⟩
 | some bs =>
  obtain ⟨A, cap, hb, _⟩ := id h
  have c0 := hb.cell 0
  have c1 := hb.cell 1
  simp at c0 c1
  by_cases hne : bs = []
  ·subst hne
   go_enter Tryz.func103, Tryz.ntmps103
   go_wp2
   go_ret
   exact ⟨rfl, rfl⟩
  ·have hpos : (0 : Int) < ((bs.length : Nat) : Int) := by cases bs with | nil => exact (hne rfl).elim | cons b r => simp
   have HD := Lib.hid (show zd2 (some bs) = 4 by simp [zd2, hne])
   clear hne
   go_enter Tryz.func103, Tryz.ntmps103
   go_wp2
   go_ret
   rw [HD.out]
   exact ⟨rfl, rfl⟩
theorem zhD (w : World) (F : Nat → Prop) (g : Nat) (s : Rd) (h : IsRR w F g s) (most : Int) (hsz : zav s ≤ 1000000000000) :
  Calls Tryz.prog 175 #[.pointer (some ⟨g, 0, none⟩), .int .i64 most] w fun e w' => ∃ A c, e = .returned (.slice A (zb1 most s).1.length c) ∧ Own w' 5 1 A (zb1 most s).1.length c ((zb1 most s).1.map B8) ∧ RRTo w F g (zb1 most s).2 w' ∧ ∀ k, inA A k → w.heap.size ≤ k := by
 rcases zbO most s with hn | ⟨bs, m, r, rfl, hn, hm, _, hbs⟩
 ·have HD := Lib.hid (zdt hn)
  have hcon := zaF _ _ _ _ h most hsz
  rw [hn] at hcon
  clear hn
  go_enter Tryz.func175, Tryz.ntmps175
  go_wp2_with (go_at_call 101; refine hcon.mono ?_; rintro e w1 ⟨rfl, h1⟩; have c1 := h1.1.1.cell 1; simp at c1)
  go_ret
  rw [HD.out]
  exact ⟨none, 0, rfl, Own.nil _ _ _, h1, fun k hk => (zaH k hk).elim⟩
 ·have HD := Lib.hid (zd0 hn)
  have hcon := zaF _ _ _ _ h most hsz
  rw [hn] at hcon
  have hrl : r.length ≤ 1000000000000 := by
   have : zav (some bs) = bs.length := rfl
   rw [this, hbs, List.length_append] at hsz
   omega
  clear hn hbs
  unfold topN at hm
  by_cases hlt : r.length < m
  ·go_enter Tryz.func175, Tryz.ntmps175
   go_wp2_with fail
   refine hcon.mono ?_
   rintro e w1 ⟨rfl, h1⟩
   obtain ⟨A, cap, hb, q1, q2, q3, q4⟩ := id h1.1
   have c0 := hb.cell 0
   have c1 := hb.cell 1
   simp at c0 c1
   go_wp2_with (go_at_call 171; refine (zdT _ _ _ _ h1.1).mono ?_; rintro e w2 ⟨rfl, hr⟩)
   go_ret
   rw [HD.out, if_pos hlt]
   exact ⟨none, 0, rfl, Own.nil _ _ _, h1.trans hr, fun k hk => (zaH k hk).elim⟩
  ·have hle : m ≤ r.length := by omega
   go_enter Tryz.func175, Tryz.ntmps175
   go_wp2_with fail
   refine hcon.mono ?_
   rintro e w1 ⟨rfl, h1⟩
   obtain ⟨A, cap, hb, q1, q2, q3, q4⟩ := id h1.1
   have c0 := hb.cell 0
   have c1 := hb.cell 1
   have f0 := hb.frozen 0
   simp at c0 c1
   have htl : (r.take m).length = m := by rw [List.length_take]; omega
   have HT := Lib.hid htl
   clear htl
   have s1 := zcN (P := Tryz.prog) 48 zc5 1 zcg A r.length cap m (by omega)
   have s2 := zfJ (P := Tryz.prog) 48 zc5 1 zcg A r.length cap m hle
   have c0a := (hb.alloc (.cells #[] 5)).cell 0
   simp at c0a
   have hsl := (q3.pre (k := m)).alloc (.cells #[] 5)
   rw [← List.map_take] at hsl
   go_wp2_with (at_builtin; refine zdm rfl _ _ _ rfl 1 (.int .u8 0) Tryz.underlying48 zaL rfl (by decide) rfl (Own.new w1 5 1 0 0 #[] (Nat.le_refl _) (by decide) rfl) rfl hsl (by rw [List.length_map, HT.out, Nat.mul_one]) (zar _) (by omega) (by unfold maxLen; omega) ?_; intro A' cap' w2 ho hf hin; have hb2 := (hb.alloc (.cells #[] 5)).fr hf (fun hk => by have := hb.lt; rw [(za9 _ _).1 hk] at this; simp at this); have c20 := hb2.cell 0; have f20 := hb2.frozen 0; simp at c20)
   go_ret
   rw [HD.out, if_neg hlt]
   simp only [HT.out]
   simp only [Nat.zero_add, Nat.zero_mul, List.take_zero, List.nil_append] at ho
   have hnew : ∀ k, inA A' k → w1.heap.size ≤ k := fun k hk => by
    rcases hin k hk with h | h
    ·rw [(za9 _ _).1 h]; exact Nat.le_refl _
    ·rw [h]; simp
   have hfw : Nw w1 w2 := ((Fr.refl _ w1).alloc _).trans hf fun k hk => .inr (by rw [(za9 _ _).1 hk]; exact Nat.le_refl _)
   have q32 := q3.fr hfw (fun _ _ h => h)
   have hnext := IsRR.next hb2 q1 q2 q32 (q4.fr hfw.size) hle
   have hgl := hb.lt
   refine ⟨A', cap', rfl, ho.setCell (p := ⟨g, 0, none⟩) (fun hk => by have := hnew g hk; omega) _, ⟨hnext.1, h1.2.tr (hfw.on.tr hnext.2)⟩, fun k hk => Nat.le_trans h1.2.size (hnew k hk)⟩
open Go Go.RowKit
theorem zap (m : Int) (s : Rd) : zav (za1 m s).2 ≤ zav s := by
 rcases zbO m s with h | ⟨bs, k, r, rfl, h, _, _, hb⟩
 ·rw [h]; exact Nat.zero_le _
 ·rw [h]; simp [zav, hb]
theorem zev (s : Rd) : zav (zaK s).2 ≤ zav s := by
 cases s with
 | none => exact Nat.le_refl _
 | some bs =>
  cases bs with
  | nil => exact Nat.le_refl _
  | cons b r =>
   by_cases h : 1 < b.toNat
   ·have e : zaK (some (b :: r)) = (false, none) := by simp [zaK, h]
    rw [e]; exact Nat.zero_le _
   ·have e : zaK (some (b :: r)) = (((b.toNat : Int) == 1), some r) := by simp [zaK, h]
    rw [e]; simp [zav]
theorem zeS (m : Int) (s : Rd) : zav (zb1 m s).2 ≤ zav s := by
 rcases zbO m s with h | ⟨bs, k, r, rfl, h, _, _, hb⟩
 ·rw [zdt h]; exact Nat.zero_le _
 ·rw [zd0 h]
  split
  ·exact Nat.zero_le _
  ·simp [zav, hb]; omega
open Go
theorem zdn (m : Int) (k : Nat) (s : Rd) : zav (rdNs m k s).2 ≤ zav s := by
 induction k with
 | zero => exact Nat.le_refl _
 | succ k ih => exact Nat.le_trans (zap _ _) ih
theorem zcj (s : Rd) : zav (zaA s).2 ≤ zav s := Nat.le_trans (zdn _ _ _) (zap _ _)
theorem zgk (s : Rd) : zav (zat s).2 ≤ zav s := Nat.le_trans (zcj _) (Nat.le_trans (zcj _) (Nat.le_trans (zcj _) (zcj _)))
theorem ziQ (s : Rd) : zav (zb7 s).2 ≤ zav s := Nat.le_trans (zgk _) (Nat.le_trans (zeS _ _) (Nat.le_trans (zap _ _) (zap _ _)))
theorem zex (s : Rd) : zav (zb8 s).2 ≤ zav s := Nat.le_trans (zgk _) (Nat.le_trans (zap _ _) (zap _ _))
theorem zd9 (k : Nat) (s : Rd) : zav (zam k s).2 ≤ zav s := by
 induction k with
 | zero => exact Nat.le_refl _
 | succ k ih => exact Nat.le_trans (ziQ _) ih
theorem zhg (m : Int) (k : Nat) (s : Rd) : rdNs m (k + 1) s = ((za1 m s).1 :: (rdNs m k (za1 m s).2).1, (rdNs m k (za1 m s).2).2) := by
 induction k generalizing s with
 | zero => rfl
 | succ k ih =>
  show ((rdNs m (k + 1) s).1 ++ [(za1 m (rdNs m (k + 1) s).2).1], (za1 m (rdNs m (k + 1) s).2).2) = _
  rw [ih]
  rfl
theorem zlK (m : Int) (k : Nat) (s : Rd) : rdBy (List.replicate k m) s = rdNs m k s := by
 induction k generalizing s with
 | zero => rfl
 | succ k ih =>
  rw [zhg, ← ih]
  rfl
theorem zkf (s : Rd) : rdBy zaS s = rdNs 1073741824 8 s := zlK 1073741824 8 s
theorem zhp (m : Int) (k : Nat) (s : Rd) : (rdNs m k s).1.length = k := by
 induction k with
 | zero => rfl
 | succ k ih =>
  show ((rdNs m k s).1 ++ [_]).length = k + 1
  simp [ih]
def zcK (s : Rd) : Option (LetF × Rd) :=
 let h := rdNs 1073741824 8 s
 let f := zaK h.2
 let n := za1 30 f.2
 let e := zam n.1.toNat n.2
 let b := zb8 e.2
 let q := rdNs 1073741824 2 b.2
 let t := za1 4611686018427387903 q.2
 let r := zb1 131072 t.2
 let x : LetF := ⟨h.1.getD 0 0, h.1.getD 1 0, h.1.getD 2 0, h.1.getD 3 0, h.1.getD 4 0, h.1.getD 5 0, h.1.getD 6 0, h.1.getD 7 0, f.1, e.1.1, (zbu e.2).1, q.1.getD 0 0, q.1.getD 1 0, t.1, r.1⟩
 if h.1.getD 0 0 < 256 ∧ e.1.2 = true ∧ (zbu e.2).2 = true ∧ zaE x = true then some (x, r.2) else none
theorem zl0 (s : Rd) : zcK s = if (zbh zaS s).1.1.kind < 256 ∧ ((zam (za1 30 (zaK (rdBy zaS s).2).2).1.toNat (za1 30 (zaK (rdBy zaS s).2).2).2).1.2 = true ∧ (zbu (zam (za1 30 (zaK (rdBy zaS s).2).2).1.toNat (za1 30 (zaK (rdBy zaS s).2).2).2).2).2 = true ∧ zaE (zbh zaS s).1.1 = true) then some ((zbh zaS s).1.1, (zbh zaS s).2) else none := by
 have hq : ∀ s : Rd, rdNs 1073741824 2 s = ([(za1 1073741824 s).1, (za1 1073741824 (za1 1073741824 s).2).1], (za1 1073741824 (za1 1073741824 s).2).2) := fun s => rfl
 unfold zcK zbh
 rw [← zkf]
 generalize rdBy zaS s = h
 simp only
 generalize zaK h.2 = f
 generalize za1 30 f.2 = n
 generalize zam n.1.toNat n.2 = e
 rw [hq]
 generalize zbu e.2 = b
 generalize (zb8 e.2).2 = s5
 generalize za1 1073741824 s5 = c
 generalize za1 1073741824 c.2 = d
 generalize za1 4611686018427387903 d.2 = t
 generalize zb1 131072 t.2 = r
 rfl
theorem zlO (s : Rd) : (zbh zaS s).1.2 = ((zam (za1 30 (zaK (rdBy zaS s).2).2).1.toNat (za1 30 (zaK (rdBy zaS s).2).2).2).1.2 && ((zbu (zam (za1 30 (zaK (rdBy zaS s).2).2).1.toNat (za1 30 (zaK (rdBy zaS s).2).2).2).2).2 && ((zbh zaS s).2.isSome && zaE (zbh zaS s).1.1))) := by
 unfold zbh
 generalize rdBy zaS s = h
 simp only
theorem zjF {x : LetF} (h : zaE x = true) : x.kind ≤ 8 := ((zbw _).1 h).head.1.1.2
theorem zkt (s : Rd) : (∃ x r, zbh zaS s = ((x, true), some r) ∧ zcK s = some (x, some r)) ∨ ((zbh zaS s).1.2 = false ∧ (zcK s = none ∨ ∃ x, zcK s = some (x, none))) := by
 rw [zl0]
 have h2 := zlO s
 generalize (zam (za1 30 (zaK (rdBy zaS s).2).2).1.toNat (za1 30 (zaK (rdBy zaS s).2).2).2).1.2 = a at h2 ⊢
 generalize (zbu (zam (za1 30 (zaK (rdBy zaS s).2).2).1.toNat (za1 30 (zaK (rdBy zaS s).2).2).2).2).2 = b at h2 ⊢
 generalize zbh zaS s = q at h2 ⊢
 obtain ⟨⟨x, ok⟩, r⟩ := q
 simp only at h2 ⊢
 cases ok with
 | true =>
  replace h2 := h2.symm
  simp only [Bool.and_eq_true] at h2
  obtain ⟨rfl, rfl, h3, h4⟩ := h2
  cases r with
  | none => cases h3
  | some r =>
   have := zjF h4
   exact .inl ⟨x, r, rfl, if_pos ⟨by omega, rfl, rfl, h4⟩⟩
 | false =>
  refine .inr ⟨rfl, ?_⟩
  split
  ·rename_i h
   obtain ⟨h1, rfl, rfl, h4⟩ := h
   rw [h4] at h2
   cases r with
   | none => exact .inr ⟨x, rfl⟩
   | some r => cases h2
  ·exact .inl rfl
theorem zmF (x : LetF) : letB x ≠ [] := by
 intro h
 have := congrArg List.length h
 unfold letB zcl at this
 simp at this
theorem ziN : (zbh zaS (some [])).1.2 = false := by
 cases h : (zbh zaS (some [])).1.2 with
 | false => rfl
 | true =>
  obtain ⟨_, r, _, h3⟩ := zfo zeU.1 h
  injection h3 with h3
  have := zmF _ (List.append_eq_nil_iff.1 h3.symm).1
  exact this.elim
def zba : Nat → Rd → Option (List LetF × Rd)
 | 0, s => some ([], s)
 | k + 1, s => match zba k s with
  | none => none
  | some (l, r) => if zav r = 0 then none else match zcK r with
   | none => none
   | some (x, r') => some (l ++ [x], r')
def getP (b : List UInt8) : Option (List LetF) := match zba (za1 1073741824 (some b)).1.toNat (za1 1073741824 (some b)).2 with
 | none => none
 | some (l, r) => if zd2 r = 0 then some l else none
theorem zjB (k : Nat) (r : List UInt8) : (∃ l r', zbC zaS k r = some (l, r') ∧ zba k (some r) = some (l, some r')) ∨ (zbC zaS k r = none ∧ (zba k (some r) = none ∨ ∃ l, zba k (some r) = some (l, none))) := by
 induction k with
 | zero => exact .inl ⟨[], r, rfl, rfl⟩
 | succ k ih =>
  rcases ih with ⟨l, r', h1, h2⟩ | ⟨h1, h2⟩
  ·cases hr : r' with
   | nil =>
    subst hr
    refine .inr ⟨?_, .inl ?_⟩
    ·rw [zbC, h1]
     simp only
     split
     ·rename_i h3
      have := ziN
      rw [h3] at this
      cases this
     ·rfl
    ·rw [zba, h2]
     rfl
   | cons c r2 =>
    have hne : ¬ zav (some r') = 0 := by rw [hr]; exact Nat.succ_ne_zero _
    rcases zkt (some r') with ⟨x, r3, h3, h4⟩ | ⟨h3, h4⟩
    ·refine .inl ⟨l ++ [x], r3, ?_, ?_⟩
     ·rw [zbC, h1]
      simp only
      rw [h3]
     ·rw [zba, h2]
      simp only
      rw [if_neg hne, h4]
    ·refine .inr ⟨?_, ?_⟩
     ·rw [zbC, h1]
      simp only
      split
      ·rename_i h5
       rw [h5] at h3
       cases h3
      ·rfl
     ·rw [zba, h2]
      simp only
      rw [if_neg hne]
      rcases h4 with h4 | ⟨x, h4⟩
      ·rw [h4]; exact .inl rfl
      ·rw [h4]; exact .inr ⟨l ++ [x], rfl⟩
  ·refine .inr ⟨?_, .inl ?_⟩
   ·rw [zbC, h1]
   ·rcases h2 with h2 | ⟨l, h2⟩
    ·rw [zba, h2]
    ·rw [zba, h2]
     rfl
theorem zmf (b : List UInt8) : getP b = zbJ zaS b := by
 unfold getP zbJ
 rcases zbO 1073741824 (some b) with h | ⟨bs, m, r, _, h, _, _, _⟩
 ·rw [h]
  rfl
 ·rw [h]
  simp only [Int.toNat_natCast]
  rcases zjB m r with ⟨l, r', h1, h2⟩ | ⟨h1, h2⟩
  ·rw [h1, h2]
   cases r' with
   | nil => rfl
   | cons c r => rfl
  ·rw [h1]
   rcases h2 with h2 | ⟨l, h2⟩
   ·rw [h2]
   ·rw [h2]
    rfl
theorem zit (k : Nat) (s r : Rd) (l : List LetF) (h : zba k s = some (l, r)) : zav r ≤ zav s := by
 induction k generalizing l r with
 | zero =>
  injection h with h
  injection h with h1 h2
  subst h2
  exact Nat.le_refl _
 | succ k ih =>
  rw [zba] at h
  cases hk : zba k s with
  | none => rw [hk] at h; cases h
  | some q =>
   obtain ⟨l', r'⟩ := q
   rw [hk] at h
   simp only at h
   split at h
   ·cases h
   ·cases hp : zcK r' with
    | none => rw [hp] at h; cases h
    | some q2 =>
     obtain ⟨x, r2⟩ := q2
     rw [hp] at h
     simp only at h
     injection h with h
     injection h with h1 h2
     subst h2
     refine Nat.le_trans ?_ (ih _ _ hk)
     unfold zcK at hp
     simp only at hp
     split at hp
     ·injection hp with hp
      injection hp with h1 h2
      subst h2
      exact Nat.le_trans (zeS _ _) (Nat.le_trans (zap _ _) (Nat.le_trans (zdn _ _ _) (Nat.le_trans (zex _) (Nat.le_trans (zd9 _ _) (Nat.le_trans (zap _ _) (Nat.le_trans (zev _) (zdn _ _ _)))))))
     ·cases hp
end Go.Proofs.YtippdjaakcgeoaaGreat
