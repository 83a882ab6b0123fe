/- Lemmas of the walks: BgD, RefB, Eff, EfB, Rgn, RefC. (Laid together by shake.py.) -/
import Derived.Still
import Derived.Deep.Quiet
import Derived.Test.YtippdjaakcgeoaaGreatPa01
import Derived.Test.YtippdjaakcgeoaaGreatPa02
import Derived.Test.YtippdjaakcgeoaaGreatPa12
set_option linter.unusedVariables false
set_option linter.unusedSimpArgs false
namespace Go.Proofs.YtippdjaakcgeoaaGreat
open Go Go.RowKit
set_option linter.unusedVariables false
set_option linter.unusedSimpArgs false
def ApLRel (w : World) (g : Nat) (LL : List (Ls LetM)) (i : Value) (wr : World) : Prop := ∃ k : Nat, k ≤ LL.length ∧ i = .int .i64 k ∧ BagSt w wr g (lvs ((LL.take k).flatMap fun s => s.l.flatMap letInts)) (lvs ((LL.take k).flatMap fun s => s.l.flatMap letByts)) (lvs ((LL.take k).flatMap fun s => s.l.map LetM.ents)) (lvs (LL.take k))
theorem flat_two {α β : Type} (g : Ls α → List β) (l : List (Ls α)) (k : Nat) (h : k < l.length) : ((l.take k).flatMap g).length + (g l[k]).length ≤ (l.flatMap g).length := flat_pre g l k h
set_option maxRecDepth 100000 in
set_option maxHeartbeats 2000000 in
theorem apartLetters_any (w : World) (F0 F : Nat → Prop) (B : Option Addr) (c : Nat) (LL : List (Ls LetM)) (hs : Sl w F0 B (lvs LL)) (hL : Held w F 50 20 letsC LL) (hH : LetsHd w F (LL.flatMap (·.l))) (hF : ∀ k, F k → k < w.heap.size)
    (n1 : LL.length ≤ 1000) (n2 : (LL.flatMap fun s => s.l.flatMap letInts).length ≤ 999000000) (n3 : (LL.flatMap fun s => s.l.flatMap letByts).length ≤ 999000000) (n4 : (LL.flatMap fun s => s.l.map LetM.ents).length ≤ 999000000) (hz : ∀ x ∈ LL.flatMap (·.l), LetSz x) (n : Nat) (hn : n = LL.length) :
    Calls Tryz.prog 16 #[.slice B n c] w fun e w' => e = .returned (.bool true) ∧ Fr F w w' := by
  have HZ := Lib.hid hz
  have HH := Lib.hid hH
  have HL := Lib.hid hL
  have HN := Lib.hid hn
  clear hz hH hL hn
  go_enter Tryz.func16, Tryz.ntmps16
  go_upto_region 2 with (fail)
  obtain ⟨g, hg⟩ : ∃ g, g = w.heap.size := ⟨_, rfl⟩
  obtain ⟨W0, hW0⟩ : ∃ W, W = w.alloc (.cells (bag4 (.slice none 0 0) (.slice none 0 0) (.slice none 0 0) (.slice none 0 0)) 115) := ⟨_, rfl⟩
  have st0 : BagSt w W0 g [] [] [] [] := by rw [hg, hW0]; exact BagSt.new
  have e0 : w.alloc (.cells (#[.slice none 0 0, .slice none 0 0, .slice none 0 0, .slice none 0 0, .slice none 0 0, .slice none 0 0, .slice none 0 0, .slice none 0 0, .slice none 0 0, .slice none 0 0, .slice none 0 0, .slice none 0 0, .slice none 0 0, .slice none 0 0, .slice none 0 0, .slice none 0 0, .slice none 0 0, .slice none 0 0, .slice none 0 0, .slice none 0 0, .slice none 0 0, .slice none 0 0]) 115) = W0 := hW0.symm
  have HG := Lib.hid hg
  have E0 := Lib.hid e0
  clear hg hW0 e0
  rw [← HG.out]
  try rw [E0.out]
  go_wp2_with fail
  go_loopw [4] (fun i wr => ApLRel w g LL i wr) (fun i _ => n - (intOf i).toNat)
  case atStart => exact ⟨0, Nat.zero_le _, rfl, by simpa [lvs] using st0⟩
  case round =>
    clear st0
    obtain ⟨k, hk, rfl, st⟩ := hrel
    by_cases hlt : k < n
    · have hlk : k < LL.length := by rw [← HN.out]; exact hlt
      have hi0 : (k : Int) < (n : Int) := by omega
      have hi1 : decide ((k : Int) < (n : Int)) = true := decide_eq_true hi0
      have hi2 : decide (k < n) = true := decide_eq_true hlt
      obtain ⟨b, o, hA, _, hc⟩ := Sl.get (f := Ls.v) (hs.fr st.new_ (fun _ _ h => h)) hlk
      have hmem : ∀ x ∈ (LL[k]).l, x ∈ LL.flatMap (·.l) := fun x hx => List.mem_flatMap.2 ⟨_, List.getElem_mem hlk, hx⟩
      have hnext : ∀ w', BgTo w wr g ((lvs ((LL.take k).flatMap fun s => s.l.flatMap letInts)) ++ lvs ((LL[k]).l.flatMap letInts)) ((lvs ((LL.take k).flatMap fun s => s.l.flatMap letByts)) ++ lvs ((LL[k]).l.flatMap letByts)) ((lvs ((LL.take k).flatMap fun s => s.l.map LetM.ents)) ++ lvs ((LL[k]).l.map LetM.ents)) (lvs (LL.take k) ++ [.slice (LL[k]).a (LL[k]).l.length (LL[k]).c]) w' → ApLRel w g LL (.int .i64 ((k : Int) + 1)) w' := fun w' h => by
        refine ⟨k + 1, by omega, by go_num, ?_⟩
        have h1 := h.1
        rw [lvs_flat_succ _ _ _ hlk, lvs_flat_succ _ _ _ hlk, lvs_flat_succ _ _ _ hlk]
        have e : lvs (LL.take (k + 1)) = lvs (LL.take k) ++ [(LL[k]).v] := by rw [List.take_succ_eq_append_getElem hlk, lvs_append]; rfl
        rw [e]
        exact h1
      have hl1 := flat_two (fun s : Ls LetM => s.l.flatMap letInts) LL k hlk
      have hl2 := flat_two (fun s : Ls LetM => s.l.flatMap letByts) LL k hlk
      have hl3 := flat_two (fun s : Ls LetM => s.l.map LetM.ents) LL k hlk
      simp only [List.length_map] at hl3
      have hput := putLetters_bag w wr g _ _ _ _ (LL[k]).a (LL[k]).c (LL[k]).l F ((HL.out.each _ (List.getElem_mem hlk)).own.sl.mono fun j hj _ => (HL.out.each _ (List.getElem_mem hlk)).base j hj) (fun x hx => HH.out.each x (hmem x hx)) st (by rw [lvs_len]; omega) (by rw [lvs_len]; omega) (by rw [lvs_len]; omega) (by rw [lvs_len, List.length_take]; omega)
      obtain ⟨s, hse⟩ : ∃ s, LL[k] = s := ⟨_, rfl⟩
      rw [hse] at hc hput hnext
      obtain ⟨sa, sc, sl⟩ := s
      simp only at hc hput hnext
      obtain ⟨sn, hsn⟩ : ∃ n, sl.length = n := ⟨_, rfl⟩
      simp only [Ls.v] at hc
      rw [hsn] at hc hput hnext
      have HNX := Lib.hid hnext
      have HP := Lib.hid hput
      clear hnext hput hse hsn hmem hl1 hl2 hl3 st
      subst hA
      go_wp2_with fail
      refine HP.out.mono ?_
      rintro e w5 ⟨rfl, b5⟩
      have H5 := Lib.hid (HNX.out w5 b5)
      clear b5
      go_wp2_with fail
      refine ⟨H5.out, ?_⟩
      simp [intOf]
      omega
    · have hkn : k = LL.length := by have := HN.out; omega
      rw [hkn, List.take_length] at st
      have e1 : (LL.flatMap fun s => s.l.flatMap letInts) = (LL.flatMap (·.l)).flatMap letInts := by rw [List.flatMap_assoc]
      have e2 : (LL.flatMap fun s => s.l.flatMap letByts) = (LL.flatMap (·.l)).flatMap letByts := by rw [List.flatMap_assoc]
      have e3 : (LL.flatMap fun s => s.l.map LetM.ents) = (LL.flatMap (·.l)).map LetM.ents := by rw [List.map_flatMap]
      rw [e1, e2, e3] at st
      rw [e1] at n2
      rw [e2] at n3
      rw [e3] at n4
      have hap := bagApart4 w wr g F _ _ _ _ st HH.out.ints HH.out.byts HH.out.ents HL.out hF (by omega) (by omega) (by omega) (by omega) (fun s hs => by
          obtain ⟨x, hx, hs⟩ := List.mem_flatMap.1 hs
          have hzx := HZ.out x hx
          rcases List.mem_append.1 hs with hs | hs
          · obtain ⟨e, he, hs⟩ := List.mem_flatMap.1 hs
            have hze := (hzx.each e he).cfg
            simp only [entInts, cfgInts, List.mem_cons, List.not_mem_nil, or_false] at hs
            have := hze.v
            have := hze.o
            have := hze.l
            have := hze.w
            rcases hs with rfl | rfl | rfl | rfl <;> omega
          · have hze := hzx.cfg
            simp only [cfgInts, List.mem_cons, List.not_mem_nil, or_false] at hs
            have := hze.v
            have := hze.o
            have := hze.l
            have := hze.w
            rcases hs with rfl | rfl | rfl | rfl <;> omega) (fun s hs => by
          obtain ⟨x, hx, hs⟩ := List.mem_flatMap.1 hs
          have hzx := HZ.out x hx
          rcases List.mem_append.1 hs with hs | hs
          · obtain ⟨e, he, rfl⟩ := List.mem_map.1 hs
            have := (hzx.each e he).cmd
            omega
          · rw [List.mem_singleton.1 hs]
            have := hzx.bytes
            omega) (fun s hs => by
          obtain ⟨x, hx, rfl⟩ := List.mem_map.1 hs
          have := (HZ.out x hx).ents
          omega) (fun s hs => by
          have h1 := flat_two (fun s : Ls LetM => s.l.map LetM.ents) LL
          obtain ⟨i, hi, rfl⟩ := List.mem_iff_getElem.1 hs
          have h2 := h1 i hi
          simp only [List.length_map] at h2
          rw [e3] at h2
          simp only [List.length_map] at h2 n4
          omega)
      have HAP := Lib.hid hap
      clear hap st hkn e1 e2 e3
      go_wp2_with fail
      refine HAP.out.mono ?_
      rintro e w5 ⟨rfl, f5⟩
      go_wp2_with fail
      go_ret
      exact ⟨rfl, f5⟩
def ApBRel (w : World) (g : Nat) (ss : List (Ls UInt8)) (i : Value) (wr : World) : Prop := ∃ k : Nat, k ≤ ss.length ∧ i = .int .i64 k ∧ BagSt w wr g [] (lvs (ss.take k)) [] []
set_option maxRecDepth 100000 in
set_option maxHeartbeats 2000000 in
theorem apartBytes_h (w : World) (F0 F : Nat → Prop) (B : Option Addr) (c : Nat) (ss : List (Ls UInt8)) (hs : Sl w F0 B (lvs ss)) (hH : Held w F 5 1 bytesC ss) (hF : ∀ k, F k → k < w.heap.size)
    (n1 : ss.length ≤ 1000) (hz : ∀ s ∈ ss, s.l.length ≤ 100000000000) (n : Nat) (hn : n = ss.length) :
    Calls Tryz.prog 41 #[.slice B n c] w fun e w' => e = .returned (.bool true) ∧ Fr F w w' := by
  have HZ := Lib.hid hz
  have HH := Lib.hid hH
  have HN := Lib.hid hn
  clear hz hH hn
  go_enter Tryz.func41, Tryz.ntmps41
  go_upto_region 2 with (fail)
  obtain ⟨g, hg⟩ : ∃ g, g = w.heap.size := ⟨_, rfl⟩
  obtain ⟨W0, hW0⟩ : ∃ W, W = w.alloc (.cells (bag4 (.slice none 0 0) (.slice none 0 0) (.slice none 0 0) (.slice none 0 0)) 115) := ⟨_, rfl⟩
  have st0 : BagSt w W0 g [] [] [] [] := by rw [hg, hW0]; exact BagSt.new
  have e0 : w.alloc (.cells (#[.slice none 0 0, .slice none 0 0, .slice none 0 0, .slice none 0 0, .slice none 0 0, .slice none 0 0, .slice none 0 0, .slice none 0 0, .slice none 0 0, .slice none 0 0, .slice none 0 0, .slice none 0 0, .slice none 0 0, .slice none 0 0, .slice none 0 0, .slice none 0 0, .slice none 0 0, .slice none 0 0, .slice none 0 0, .slice none 0 0, .slice none 0 0, .slice none 0 0]) 115) = W0 := hW0.symm
  have HG := Lib.hid hg
  have E0 := Lib.hid e0
  clear hg hW0 e0
  rw [← HG.out]
  try rw [E0.out]
  go_wp2_with fail
  go_loopw [4] (fun i wr => ApBRel w g ss i wr) (fun i _ => n - (intOf i).toNat)
  case atStart => exact ⟨0, Nat.zero_le _, rfl, by simpa [lvs] using st0⟩
  case round =>
    clear st0
    obtain ⟨k, hk, rfl, st⟩ := hrel
    by_cases hlt : k < n
    · have hlk : k < ss.length := by rw [← HN.out]; exact hlt
      have hi0 : (k : Int) < (n : Int) := by omega
      have hi1 : decide ((k : Int) < (n : Int)) = true := decide_eq_true hi0
      have hi2 : decide (k < n) = true := decide_eq_true hlt
      obtain ⟨b, o, hA, _, hc⟩ := Sl.get (f := Ls.v) (hs.fr st.new_ (fun _ _ h => h)) hlk
      have hnext : ∀ w', BgTo w wr g [] (lvs (ss.take k) ++ [.slice (ss[k]).a (ss[k]).l.length (ss[k]).c]) [] [] w' → ApBRel w g ss (.int .i64 ((k : Int) + 1)) w' := fun w' h => by
        refine ⟨k + 1, by omega, by go_num, ?_⟩
        have e : lvs (ss.take (k + 1)) = lvs (ss.take k) ++ [(ss[k]).v] := by rw [List.take_succ_eq_append_getElem hlk, lvs_append]; rfl
        rw [e]
        exact h.1
      have hput := putBytes_bag w wr g [] (lvs (ss.take k)) [] [] (ss[k]).a (ss[k]).l.length (ss[k]).c st (by rw [lvs_len, List.length_take]; omega)
      obtain ⟨s, hse⟩ : ∃ s, ss[k] = s := ⟨_, rfl⟩
      rw [hse] at hc hput hnext
      obtain ⟨sa, sc, sl⟩ := s
      simp only at hc hput hnext
      obtain ⟨sn, hsn⟩ : ∃ n, sl.length = n := ⟨_, rfl⟩
      simp only [Ls.v] at hc
      rw [hsn] at hc hput hnext
      have HNX := Lib.hid hnext
      have HP := Lib.hid hput
      clear hnext hput hse hsn st
      subst hA
      go_wp2_with fail
      refine HP.out.mono ?_
      rintro e w5 ⟨rfl, b5⟩
      have H5 := Lib.hid (HNX.out w5 b5)
      clear b5
      go_wp2_with fail
      refine ⟨H5.out, ?_⟩
      simp [intOf]
      omega
    · have hkn : k = ss.length := by have := HN.out; omega
      rw [hkn, List.take_length] at st
      have hap := bagApart4 w wr g F [] ss [] [] st (Held.nil _ _ _ _ _) HH.out (Held.nil _ _ _ _ _) (Held.nil _ _ _ _ _) hF (by simp) (by omega) (by simp) (by simp) (fun _ h => by cases h) HZ.out (fun _ h => by cases h) (fun _ h => by cases h)
      have HAP := Lib.hid hap
      clear hap st hkn
      go_wp2_with fail
      refine HAP.out.mono ?_
      rintro e w5 ⟨rfl, f5⟩
      go_wp2_with fail
      go_ret
      exact ⟨rfl, f5⟩
end Go.Proofs.YtippdjaakcgeoaaGreat

namespace Go.Proofs.YtippdjaakcgeoaaGreat
open Go Go.RowKit

/-- Block g is a reader of the document's. -/
def IsRR (w : World) (F : Nat → Prop) (g : Nat) : Rd → Prop
  | none => Blk w g 154 #[.slice none 0 0, .bool true] ∧ OutF w F g
  | some bs => ∃ A cap, Blk w g 154 #[.slice A bs.length cap, .bool false] ∧ bs.length ≤ cap ∧ cap ≤ maxLen ∧ Sl w F A (bs.map B8) ∧ OutF w F g
theorem IsRR.fr {w w' : World} {F S : Nat → Prop} {g : Nat} {s : Rd} (h : IsRR w F g s) (hf : Fr S w w') (hg : ¬ S g) (hd : ∀ k, F k → ¬ S k) : IsRR w' F g s := by
  cases s with
  | none => exact ⟨h.1.fr hf hg, h.2.fr hf.size⟩
  | some bs =>
    obtain ⟨A, cap, hb, h1, h2, h3, h4⟩ := h
    exact ⟨A, cap, hb.fr hf hg, h1, h2, h3.fr hf hd, h4.fr hf.size⟩
theorem IsRR.out {w : World} {F : Nat → Prop} {g : Nat} {s : Rd} (h : IsRR w F g s) : OutF w F g := by
  cases s with
  | none => exact h.2
  | some bs => obtain ⟨_, _, _, _, _, _, h⟩ := h; exact h
theorem IsRR.lt {w : World} {F : Nat → Prop} {g : Nat} {s : Rd} (h : IsRR w F g s) : g < w.heap.size := by
  cases s with
  | none => exact h.1.lt
  | some bs => obtain ⟨_, _, hb, _⟩ := h; exact hb.lt
def RRTo (w : World) (F : Nat → Prop) (g : Nat) (s : Rd) (w' : World) : Prop := IsRR w' F g s ∧ Fr (· = g) w w'
theorem RRTo.trans {w w1 w2 : World} {F : Nat → Prop} {g : Nat} {s1 s2 : Rd} (h : RRTo w F g s1 w1) (k : RRTo w1 F g s2 w2) : RRTo w F g s2 w2 := ⟨k.1, h.2.tr k.2⟩
theorem RRTo.refl {w : World} {F : Nat → Prop} {g : Nat} {s : Rd} (h : IsRR w F g s) : RRTo w F g s w := ⟨h, Fr.refl _ _⟩

/-- Reading on: the store of what is left. -/
theorem IsRR.next {w : World} {F : Nat → Prop} {g : Nat} {A : Option Addr} {cap : Nat} {bs : List UInt8} (hb : Blk w g 154 #[.slice A bs.length cap, .bool false]) (h1 : bs.length ≤ cap) (h2 : cap ≤ maxLen) (h3 : Sl w F A (bs.map B8)) (h4 : OutF w F g) {j : Nat} (hj : j ≤ bs.length) :
    RRTo w F g (some (bs.drop j)) (w.setCell ⟨g, 0, none⟩ (.slice (cutA A cap j 1) (bs.length - j) (cap - j))) := by
  refine ⟨⟨cutA A cap j 1, cap - j, ?_, ?_, ?_, ?_, h4.fr (by simp [World.setCell])⟩, (Fr.refl (· = g) w).setCell (p := ⟨g, 0, none⟩) (.inl rfl) _⟩
  · have := hb.set_ 0 (.slice (cutA A cap j 1) (bs.length - j) (cap - j))
    simpa using this
  · simp; omega
  · unfold maxLen at h2 ⊢; omega
  · have := (h3.drop (n := bs.length) (m := cap) (s := 1) (l := j) (by simp) h1 hj).setCell (p := ⟨g, 0, none⟩) h4.1 (.slice (cutA A cap j 1) (bs.length - j) (cap - j))
    simpa [List.map_drop] using this

end Go.Proofs.YtippdjaakcgeoaaGreat

namespace Go.Proofs.YtippdjaakcgeoaaGreat
open Go Go.RowKit

section
variable {P : Program} {ops : Array Oper} {md : Region.Mode} {C : (Nat → Bool) → World → Prop}
/-- What is asked of one operation's result. -/
def effUpon (P : Program) (K : World → Prop) (v : Value) : Result Next → Prop
  | .ok (.value u) w' => u = v ∧ K w'
  | .ok .skip w' => v = undef ∧ K w'
  | .ok (.enter f args) w' => Calls P f args w' (fun e w'' => e = .returned v ∧ K w'')
  | _ => False
def effAt (P : Program) (o : Oper) (a : Act) (v : Value) (K : World → Prop) (w : World) : Prop := effUpon P K v ((execOp a.eval o).run P w)
def onL (L : Nat → Bool) (k : Nat) : Nat → Bool := fun j => if j = k then true else L j
/-- Does an operation wait for another one? -/
def waitsFor (md : Region.Mode) (o : Oper) (j : Nat) : Bool := o.after.any fun e => Region.binds md e && e.on == j
def effB (md : Region.Mode) (ops : Array Oper) : Bool :=
  Region.noSelect ops && (List.range ops.size).all fun k => match ops[k]? with
    | none => true
    | some o => (o.after.all fun e => !Region.binds md e || decide (e.on < k)) && (List.range ops.size).all fun j => decide (j ≤ k) || (match ops[j]? with
      | none => true
      | some oj => (oj.after.any fun e => Region.binds md e && e.on == k) || o.apart ops oj)
theorem effB_spec (h : effB md ops = true) : Region.noSelect ops = true ∧ ∀ k o, ops[k]? = some o → (∀ e ∈ o.after, Region.binds md e = true → e.on < k) ∧
    ∀ j oj, k < j → ops[j]? = some oj → (∃ e ∈ oj.after, Region.binds md e = true ∧ e.on = k) ∨ o.apart ops oj = true := by
  unfold effB at h
  rw [Bool.and_eq_true] at h
  refine ⟨h.1, fun k o ho => ?_⟩
  have hk : k < ops.size := (Array.getElem?_eq_some_iff.1 ho).1
  have h1 := List.all_eq_true.1 h.2 k (List.mem_range.2 hk)
  rw [ho] at h1
  simp only [Bool.and_eq_true] at h1
  refine ⟨fun e he hb => ?_, fun j oj hj hoj => ?_⟩
  · have h2 := Array.all_eq_true_iff_forall_mem.1 h1.1 e he
    rw [hb] at h2
    simpa using h2
  · have hjn : j < ops.size := (Array.getElem?_eq_some_iff.1 hoj).1
    have h2 := List.all_eq_true.1 h1.2 j (List.mem_range.2 hjn)
    rw [hoj] at h2
    simp only [Bool.or_eq_true, decide_eq_true_eq] at h2
    rcases h2 with h2 | h2 | h2
    · omega
    · rw [← Array.any_toList, List.any_eq_true] at h2
      obtain ⟨e, he, h3⟩ := h2
      simp only [Bool.and_eq_true, beq_iff_eq] at h3
      exact .inl ⟨e, by simpa using he, h3.1, h3.2⟩
    · exact .inr h2
/-- The frame behind some operations. -/
def dstOf (ops : Array Oper) (i : Nat) : Option Tmp := (ops[i]?).bind (·.dst)
def frameL (ops : Array Oper) (V : Nat → Value) (is : List Nat) (a : Act) : Act := is.foldl (fun a i => a.put (dstOf ops i) (V i)) a
theorem frameL_append (V : Nat → Value) (l m : List Nat) (a : Act) : frameL ops V (l ++ m) a = frameL ops V m (frameL ops V l a) := List.foldl_append
theorem put_ne (a : Act) (t : Tmp) (d : Option Tmp) (v : Value) (h : ∀ d', d = some d' → d' ≠ t) : (a.put d v).tmps[t]? = a.tmps[t]? := by
  cases d with
  | none => rfl
  | some d => simp [Act.put, Array.getElem?_setIfInBounds_ne (h d rfl)]
theorem put_agree (a b : Act) (t : Tmp) (d : Option Tmp) (v : Value) (h : a.tmps[t]? = b.tmps[t]?) : (a.put d v).tmps[t]? = (b.put d v).tmps[t]? := by
  cases d with
  | none => exact h
  | some d =>
    by_cases hdt : d = t
    · subst hdt
      have hsz : d < a.tmps.size ↔ d < b.tmps.size := by
        constructor
        · intro hl
          rcases Nat.lt_or_ge d b.tmps.size with h1 | h1
          · exact h1
          · rw [Array.getElem?_eq_none h1, Array.getElem?_eq_getElem hl] at h; cases h
        · intro hl
          rcases Nat.lt_or_ge d a.tmps.size with h1 | h1
          · exact h1
          · rw [Array.getElem?_eq_none h1, Array.getElem?_eq_getElem hl] at h; cases h
      simp only [Act.put, Array.getElem?_setIfInBounds_self]
      by_cases hl : d < a.tmps.size
      · rw [if_pos hl, if_pos (hsz.1 hl)]
      · rw [if_neg hl, if_neg (fun h => hl (hsz.2 h))]
    · have hne : ∀ d', some d = some d' → d' ≠ t := fun d' h1 h2 => hdt (by injection h1 with h1; rw [h1, h2])
      rw [put_ne _ _ _ _ hne, put_ne _ _ _ _ hne]
      exact h
theorem frameL_at (V : Nat → Value) (t : Tmp) (keep : Nat → Bool) (l : List Nat) (a b : Act) (hab : a.tmps[t]? = b.tmps[t]?) (h : ∀ i ∈ l, keep i = false → ∀ d, dstOf ops i = some d → d ≠ t) :
    (frameL ops V l a).tmps[t]? = (frameL ops V (l.filter keep) b).tmps[t]? := by
  induction l generalizing a b with
  | nil => exact hab
  | cons i l ih =>
    cases hk : keep i with
    | true =>
      rw [List.filter_cons_of_pos hk]
      exact ih _ _ (put_agree a b t _ _ hab) (fun j hj => h j (by simp [hj]))
    | false =>
      rw [List.filter_cons_of_neg (by simp [hk])]
      exact ih _ _ ((put_ne _ _ _ _ (h i (by simp) hk)).trans hab) (fun j hj => h j (by simp [hj]))
/-- Two frames that agree wherever an operation looks. -/
theorem frameL_looks (V : Nat → Value) (o : Oper) (hsel : ∀ cs b, o.op ≠ .select cs b) (keep : Nat → Bool) (l : List Nat) (a : Act) (h : ∀ i ∈ l, keep i = false → ∀ d, dstOf ops i = some d → d ∉ o.looksAt ops) :
    execOp (frameL ops V l a).eval o = execOp (frameL ops V (l.filter keep) a).eval o ∧ Region.wanted o (yielded ops (frameL ops V l a).tmps) = Region.wanted o (yielded ops (frameL ops V (l.filter keep) a).tmps) := by
  have hev : ∀ t, t ∈ o.looksAt ops → (frameL ops V l a).tmps[t]? = (frameL ops V (l.filter keep) a).tmps[t]? := fun t ht =>
    frameL_at V t keep l a a rfl fun i hi hk d hd e => h i hi hk d hd (by rw [e]; exact ht)
  refine ⟨execOp_congr o hsel fun x hx => ?_, ?_⟩
  · cases x with
    | tmp t =>
      have := hev t (List.mem_append_left _ (List.mem_filterMap.2 ⟨.tmp t, by simpa using hx, rfl⟩))
      simp only [Act.eval, Array.getD_eq_getD_getElem?, this]
    | _ => rfl
  · unfold Region.wanted
    cases hg : o.guard with
    | none => rfl
    | some gw =>
      obtain ⟨g, want⟩ := gw
      have hy : yielded ops (frameL ops V l a).tmps g = yielded ops (frameL ops V (l.filter keep) a).tmps g := by
        unfold yielded
        cases ht : (ops[g]?).bind (·.dst) with
        | none => rfl
        | some t =>
          have := hev t (by simp [Oper.looksAt, hg, ht])
          simp only [Option.bind_some, this]
      simp only [hy]
def Lof (listed : Array Bool) : Nat → Bool := fun j => listed.getD j false
theorem Lof_set {listed : Array Bool} {i : Nat} (hi : i < listed.size) : Lof (listed.setIfInBounds i true) = onL (Lof listed) i := by
  funext j
  unfold Lof onL
  by_cases h : j = i
  · subst h; simp [hi]
  · rw [if_neg h, getD_set_ne false (Ne.symm h)]
/-- How a state stands. -/
structure EffInv (ops : Array Oper) (md : Region.Mode) (C : (Nat → Bool) → World → Prop) (V : Nat → Value) (a0 : Act) (fuel : Nat) (listed : Array Bool) (a : Act) (w : World) : Prop where
  size : listed.size = ops.size
  down : ∀ j o, ops[j]? = some o → Lof listed j = true → ∀ e ∈ o.after, Region.binds md e = true → Lof listed e.on = true
  frame : a = frameL ops V ((List.range' 0 ops.size).filter (Lof listed)) a0
  cls : C (Lof listed) w
  cnt : fuel = ((List.range' 0 ops.size).filter (fun j => !Lof listed j)).length
theorem range_split (n i : Nat) (h : i < n) : List.range' 0 n = List.range' 0 i ++ i :: List.range' (i + 1) (n - i - 1) := by
  have e : n = i + ((n - i - 1) + 1) := by omega
  conv => lhs; rw [e]
  rw [← List.range'_append_1, Nat.zero_add, List.range'_succ]
theorem Lof_lt {listed : Array Bool} {j : Nat} (h : Lof listed j = true) : j < listed.size := by
  unfold Lof at h
  rcases Nat.lt_or_ge j listed.size with h1 | h1
  · exact h1
  · simp [h1] at h
theorem getD_tf {listed : Array Bool} {j : Nat} (h : listed.getD j true = false) : j < listed.size ∧ Lof listed j = false := by
  unfold Lof
  rcases Nat.lt_or_ge j listed.size with h1 | h1
  · refine ⟨h1, ?_⟩
    simp [h1] at h ⊢
    exact h
  · simp [h1] at h
theorem getD_ft {listed : Array Bool} {j : Nat} (hj : j < listed.size) (h : Lof listed j = false) : listed.getD j true = false := by
  unfold Lof at h
  simp [hj] at h ⊢
  exact h
theorem onL_filter {L : Nat → Bool} {i : Nat} (l : List Nat) (h : ∀ j ∈ l, j ≠ i) : l.filter (onL L i) = l.filter L :=
  List.filter_congr fun j hj => by unfold onL; rw [if_neg (h j hj)]
theorem frameL_comm (V : Nat → Value) (d : Option Tmp) (v : Value) (l : List Nat) (x : Act) (h : ∀ b ∈ l, ∀ t, d = some t → dstOf ops b ≠ some t) : (frameL ops V l x).put d v = frameL ops V l (x.put d v) := by
  induction l generalizing x with
  | nil => rfl
  | cons b l ih =>
    show (frameL ops V l (x.put (dstOf ops b) (V b))).put d v = frameL ops V l ((x.put d v).put (dstOf ops b) (V b))
    rw [ih _ (fun c hc => h c (by simp [hc])), Act.put_comm x v (V b) (h b (by simp))]
theorem dstOf_some {i : Nat} {o : Oper} (h : ops[i]? = some o) : dstOf ops i = o.dst := by simp [dstOf, h]
/-- One operation put. -/
theorem EffInv.step {V : Nat → Value} {a0 : Act} {fuel : Nat} {listed : Array Bool} {a : Act} {w w' : World} (hB : effB md ops = true) (h : EffInv ops md C V a0 (fuel + 1) listed a w) {i : Nat} {o : Oper} (hi : ops[i]? = some o)
    (hr : i ∈ Region.ready md ops listed) (hc : C (onL (Lof listed) i) w') : EffInv ops md C V a0 fuel (listed.setIfInBounds i true) (a.put o.dst (V i)) w' := by
  have hin : i < ops.size := (Array.getElem?_eq_some_iff.1 hi).1
  obtain ⟨h0, o', ho', hall⟩ := mem_ready.1 hr
  obtain rfl : o' = o := by rw [hi] at ho'; injection ho' with ho'; exact ho'.symm
  have hiL := (getD_tf h0).2
  have hset := Lof_set (listed := listed) (i := i) (by rw [h.size]; exact hin)
  have hsp := range_split ops.size i hin
  have hlo : ∀ j ∈ List.range' 0 i, j ≠ i := fun j hj => by have := (List.mem_range'_1.1 hj).2; omega
  have hhi : ∀ j ∈ List.range' (i + 1) (ops.size - i - 1), j ≠ i := fun j hj => by have := (List.mem_range'_1.1 hj).1; omega
  refine ⟨by simpa using h.size, fun j oj hj hjl e he hb => ?_, ?_, by rw [hset]; exact hc, ?_⟩
  · rw [hset] at hjl ⊢
    unfold onL at hjl ⊢
    split
    · rfl
    · by_cases hji : j = i
      · subst hji
        rw [hj] at hi
        injection hi with hi
        subst hi
        exact hall e he hb
      · rw [if_neg hji] at hjl
        exact h.down j oj hj hjl e he hb
  · rw [hset, hsp, List.filter_append, onL_filter _ hlo, List.filter_cons_of_pos (by simp [onL]), onL_filter _ hhi, h.frame, hsp, List.filter_append, List.filter_cons_of_neg (by simp [hiL]), frameL_append, frameL_append]
    have hcm := frameL_comm (ops := ops) V o'.dst (V i) ((List.range' (i + 1) (ops.size - i - 1)).filter (Lof listed)) (frameL ops V ((List.range' 0 i).filter (Lof listed)) a0) (fun b hb t ht => by
      obtain ⟨hb1, hb2⟩ := List.mem_filter.1 hb
      have hbi := (List.mem_range'_1.1 hb1).1
      have hbn : b < ops.size := by rw [← h.size]; exact Lof_lt hb2
      obtain ⟨ob, hob⟩ : ∃ ob, ops[b]? = some ob := ⟨_, Array.getElem?_eq_getElem hbn⟩
      rw [dstOf_some hob]
      rcases ((effB_spec hB).2 i _ hi).2 b ob (by omega) hob with ⟨e, he, h1, h2⟩ | hap
      · have := h.down b ob hob hb2 e he h1
        rw [h2, hiL] at this
        cases this
      · exact (Oper.apart_spec hap).2.1 t ht)
    rw [hcm]
    show _ = frameL ops V _ ((frameL ops V _ a0).put (dstOf ops i) (V i))
    rw [dstOf_some hi]
  · have h1 := h.cnt
    have e1 : (List.range' 0 ops.size).filter (fun j => !Lof listed j) = (List.range' 0 i).filter (fun j => !Lof listed j) ++ i :: (List.range' (i + 1) (ops.size - i - 1)).filter (fun j => !Lof listed j) := by
      rw [hsp, List.filter_append, List.filter_cons_of_pos (by simp [hiL])]
    have e2 : (List.range' 0 ops.size).filter (fun j => !Lof (listed.setIfInBounds i true) j) = (List.range' 0 i).filter (fun j => !Lof listed j) ++ (List.range' (i + 1) (ops.size - i - 1)).filter (fun j => !Lof listed j) := by
      rw [hset, hsp, List.filter_append, List.filter_cons_of_neg (by simp [onL])]
      congr 1
      · exact List.filter_congr fun j hj => by unfold onL; rw [if_neg (hlo j hj)]
      · exact List.filter_congr fun j hj => by unfold onL; rw [if_neg (hhi j hj)]
    rw [e1, List.length_append, List.length_cons] at h1
    rw [e2, List.length_append]
    omega
/-- Where an operation may come up it finds what it looks at as in the order of the text. -/
theorem EffInv.looks {V : Nat → Value} {a0 : Act} {fuel : Nat} {listed : Array Bool} {a : Act} {w : World} (hB : effB md ops = true) (h : EffInv ops md C V a0 fuel listed a w) {i : Nat} {o : Oper} (hi : ops[i]? = some o)
    (hr : i ∈ Region.ready md ops listed) : execOp a.eval o = execOp (frameL ops V (List.range' 0 i) a0).eval o ∧ Region.wanted o (yielded ops a.tmps) = Region.wanted o (yielded ops (frameL ops V (List.range' 0 i) a0).tmps) := by
  have hin : i < ops.size := (Array.getElem?_eq_some_iff.1 hi).1
  obtain ⟨h0, o', ho', hall⟩ := mem_ready.1 hr
  obtain rfl : o' = o := by rw [hi] at ho'; injection ho' with ho'; exact ho'.symm
  have hiL := (getD_tf h0).2
  have hsel : ∀ cs b, o'.op ≠ .select cs b := fun cs b => Region.noSelect_spec (effB_spec hB).1 i o' cs b hi
  have k1 := frameL_looks (ops := ops) V o' hsel (fun j => decide (j < i)) ((List.range' 0 ops.size).filter (Lof listed)) a0 (fun b hb hk d hd => by
    obtain ⟨hb1, hb2⟩ := List.mem_filter.1 hb
    have hbn : b < ops.size := by rw [← h.size]; exact Lof_lt hb2
    obtain ⟨ob, hob⟩ : ∃ ob, ops[b]? = some ob := ⟨_, Array.getElem?_eq_getElem hbn⟩
    have hbi : i < b := by
      have h1 : ¬ b < i := by simpa using hk
      have h2 : b ≠ i := fun e => by rw [e, hiL] at hb2; cases hb2
      omega
    rw [dstOf_some hob] at hd
    rcases ((effB_spec hB).2 i _ hi).2 b ob hbi hob with ⟨e, he, h1, h2⟩ | hap
    · have := h.down b ob hob hb2 e he h1
      rw [h2, hiL] at this
      cases this
    · exact (Oper.apart_spec hap).2.2 d hd)
  have k2 := frameL_looks (ops := ops) V o' hsel (Lof listed) (List.range' 0 i) a0 (fun b hb hk d hd => by
    have hbi := (List.mem_range'_1.1 hb).2
    have hbn : b < ops.size := by omega
    obtain ⟨ob, hob⟩ : ∃ ob, ops[b]? = some ob := ⟨_, Array.getElem?_eq_getElem hbn⟩
    rw [dstOf_some hob] at hd
    rcases ((effB_spec hB).2 b ob hob).2 i _ (by omega) hi with ⟨e, he, h1, h2⟩ | hap
    · have := hall e he h1
      rw [h2] at this
      unfold Lof at hk
      rw [hk] at this
      cases this
    · exact (Oper.apart_spec hap).1 d hd)
  have e : ((List.range' 0 ops.size).filter (Lof listed)).filter (fun j => decide (j < i)) = (List.range' 0 i).filter (Lof listed) := by
    rw [range_split ops.size i hin, List.filter_append, List.filter_append, List.filter_cons_of_neg (by simp [hiL])]
    have z1 : ((List.range' 0 i).filter (Lof listed)).filter (fun j => decide (j < i)) = (List.range' 0 i).filter (Lof listed) :=
      List.filter_eq_self.2 fun j hj => by
        have := (List.mem_range'_1.1 (List.mem_filter.1 hj).1).2
        exact decide_eq_true (by omega)
    have z2 : ((List.range' (i + 1) (ops.size - i - 1)).filter (Lof listed)).filter (fun j => decide (j < i)) = [] :=
      List.filter_eq_nil_iff.2 fun j hj => by
        have := (List.mem_range'_1.1 (List.mem_filter.1 hj).1).1
        simp; omega
    rw [z1, z2, List.append_nil]
  rw [e] at k1
  rw [h.frame]
  exact ⟨k1.1.trans k2.1.symm, k1.2.trans k2.2.symm⟩
end
end Go.Proofs.YtippdjaakcgeoaaGreat

namespace Go.Proofs.YtippdjaakcgeoaaGreat
open Go Go.RowKit

/-- What is told of an operation as it comes: where its memory lies, how much there is. -/
abbrev Bk := Nat → Nat × Option Addr
section
variable {P : Program} {ops : Array Oper} {md : Region.Mode} {C : (Nat → Bool) → Bk → World → Prop}
def updB (B : Bk) (k : Nat) (b : Nat × Option Addr) : Bk := fun j => if j = k then b else B j
theorem updB_self (B : Bk) (k : Nat) : updB B k (B k) = B := by
  funext j
  unfold updB
  by_cases h : j = k
  · rw [if_pos h, h]
  · rw [if_neg h]
theorem updB_at (B : Bk) (k : Nat) (b : Nat × Option Addr) : updB B k b k = b := if_pos rfl
/-- What an operation waits for, at some removes. -/
def reach (md : Region.Mode) (ops : Array Oper) : Nat → Nat → Nat → Bool
  | 0, k, j => k == j
  | f + 1, k, j => k == j || (match ops[k]? with
    | none => false
    | some o => o.after.any fun e => Region.binds md e && reach md ops f e.on j)
abbrev fuelR : Nat := 3
def effUpon2 (P : Program) (K : Nat × Option Addr → World → Prop) (vf : Nat × Option Addr → Value) : Result Next → Prop
  | .ok (.value u) w' => ∃ b, u = vf b ∧ K b w'
  | .ok .skip w' => ∃ b, vf b = undef ∧ K b w'
  | .ok (.enter f args) w' => Calls P f args w' (fun e w'' => ∃ b, e = .returned (vf b) ∧ K b w'')
  | _ => False
def effAt2 (P : Program) (o : Oper) (a : Act) (vf : Nat × Option Addr → Value) (K : Nat × Option Addr → World → Prop) (w : World) : Prop := effUpon2 P K vf ((execOp a.eval o).run P w)
def EffIn2 (md : Region.Mode) (P : Program) (ops : Array Oper) (C : (Nat → Bool) → Bk → World → Prop) (o : Oper) (k : Nat) (vf : Bk → Value) (a : Act) (B : Bk) : Prop :=
  ∀ L w, L k = false → (∀ j, waitsFor md o j = true → L j = true) → C L B w → (Region.wanted o (yielded ops a.tmps) = true ∧ effAt2 P o a (fun b => vf (updB B k b)) (fun b w' => C (onL L k) (updB B k b) w') w) ∨ (Region.wanted o (yielded ops a.tmps) = false ∧ ∃ b, vf (updB B k b) = undef ∧ C (onL L k) (updB B k b) w)
def DepIn (md : Region.Mode) (ops : Array Oper) (k : Nat) (vf : Bk → Value) : Prop := ∀ B B' : Bk, (∀ j, reach md ops fuelR k j = true → B j = B' j) → vf B = vf B'
/-- The walk. -/
def wpEff2 (md : Region.Mode) (P : Program) (ops : Array Oper) (C : (Nat → Bool) → Bk → World → Prop) (Q : Bk → Act → Prop) : List Oper → Nat → (Bk → Act) → Prop
  | [], _, a => ∀ B, Q B (a B)
  | o :: rest, k, a => ∃ vf : Bk → Value, DepIn md ops k vf ∧ (∀ B, EffIn2 md P ops C o k vf (a B) B) ∧ wpEff2 md P ops C Q rest (k + 1) (fun B => (a B).put o.dst (vf B))
theorem effUpon2_const {K : World → Prop} {K' : Nat × Option Addr → World → Prop} {v : Value} {vf : Nat × Option Addr → Value} {b : Nat × Option Addr} (hv : vf b = v) (hK : ∀ w, K w → K' b w) {r : Result Next} (h : effUpon P K v r) : effUpon2 P K' vf r := by
  cases r with
  | ok n w' =>
    cases n <;> simp only [effUpon, effUpon2] at h ⊢
    case value u => exact ⟨b, by rw [hv]; exact h.1, hK _ h.2⟩
    case skip => exact ⟨b, by rw [hv]; exact h.1, hK _ h.2⟩
    case enter f args => exact h.mono fun e w'' ⟨he, hw⟩ => ⟨b, by rw [hv]; exact he, hK _ hw⟩
  | halt x w' => simp only [effUpon] at h
/-- A value that hangs on what is told of those that it waits for. -/
theorem wpEff2_dep {Q : Bk → Act → Prop} {o : Oper} {rest : List Oper} {k : Nat} {a : Bk → Act} (vf : Bk → Value) (hd : DepIn md ops k vf)
    (h1 : ∀ B L w, L k = false → (∀ j, waitsFor md o j = true → L j = true) → C L B w → (Region.wanted o (yielded ops (a B).tmps) = true ∧ effAt P o (a B) (vf B) (C (onL L k) B) w) ∨ (Region.wanted o (yielded ops (a B).tmps) = false ∧ vf B = undef ∧ C (onL L k) B w))
    (h2 : wpEff2 md P ops C Q rest (k + 1) (fun B => (a B).put o.dst (vf B))) : wpEff2 md P ops C Q (o :: rest) k a := by
  refine ⟨vf, hd, fun B L w hL hD hC => ?_, h2⟩
  rcases h1 B L w hL hD hC with ⟨hw, he⟩ | ⟨hw, hv, hc⟩
  · refine .inl ⟨hw, effUpon2_const (b := B k) (by show vf _ = _; rw [updB_self]) (fun w h => ?_) he⟩
    rw [updB_self]
    exact h
  · refine .inr ⟨hw, B k, by rw [updB_self]; exact hv, ?_⟩
    rw [updB_self]
    exact hc
theorem wpEff2_cons {Q : Bk → Act → Prop} {o : Oper} {rest : List Oper} {k : Nat} {a : Bk → Act} {v : Value}
    (h1 : ∀ B L w, L k = false → (∀ j, waitsFor md o j = true → L j = true) → C L B w → (Region.wanted o (yielded ops (a B).tmps) = true ∧ effAt P o (a B) v (C (onL L k) B) w) ∨ (Region.wanted o (yielded ops (a B).tmps) = false ∧ v = undef ∧ C (onL L k) B w))
    (h2 : wpEff2 md P ops C Q rest (k + 1) (fun B => (a B).put o.dst v)) : wpEff2 md P ops C Q (o :: rest) k a :=
  wpEff2_dep (fun _ => v) (fun _ _ _ => rfl) h1 h2
theorem wpEff2_free {Q : Bk → Act → Prop} {o : Oper} {rest : List Oper} {k : Nat} {a : Bk → Act} (vf : Nat × Option Addr → Value)
    (h1 : ∀ B L w, L k = false → (∀ j, waitsFor md o j = true → L j = true) → C L B w → (Region.wanted o (yielded ops (a B).tmps) = true ∧ effAt2 P o (a B) vf (fun b w' => C (onL L k) (updB B k b) w') w) ∨ (Region.wanted o (yielded ops (a B).tmps) = false ∧ ∃ b, vf b = undef ∧ C (onL L k) (updB B k b) w))
    (h2 : wpEff2 md P ops C Q rest (k + 1) (fun B => (a B).put o.dst (vf (B k)))) : wpEff2 md P ops C Q (o :: rest) k a := by
  refine ⟨fun B => vf (B k), fun B B' h => by show vf _ = vf _; rw [h k (by simp [reach])], fun B L w hL hD hC => ?_, h2⟩
  have := h1 B L w hL hD hC
  simpa only [updB_at] using this
theorem wpEff2_nil {Q : Bk → Act → Prop} {k : Nat} {a : Bk → Act} (h : ∀ B, Q B (a B)) : wpEff2 md P ops C Q [] k a := h
theorem frameL_congr (V V' : Nat → Value) (m : List Nat) (b : Act) (h : ∀ i ∈ m, V i = V' i) : frameL ops V m b = frameL ops V' m b := by
  induction m generalizing b with
  | nil => rfl
  | cons i m ihm =>
    show frameL ops V m (b.put _ _) = frameL ops V' m (b.put _ _)
    rw [h i (by simp)]
    exact ihm _ fun j hj => h j (by simp [hj])
theorem wpEff2_values {Q : Bk → Act → Prop} (l : List Oper) (k : Nat) (a : Bk → Act) (hl : ∀ j, l[j]? = ops[k + j]?) (h : wpEff2 md P ops C Q l k a) :
    ∃ vf : Nat → Bk → Value, (∀ j, DepIn md ops j (vf j)) ∧ (∀ j o, l[j]? = some o → ∀ B, EffIn2 md P ops C o (k + j) (vf (k + j)) (frameL ops (fun j => vf j B) (List.range' k j) (a B)) B) ∧ ∀ B, Q B (frameL ops (fun j => vf j B) (List.range' k l.length) (a B)) := by
  induction l generalizing k a with
  | nil => exact ⟨fun _ _ => undef, fun _ _ _ _ => rfl, fun j o hj => (by simp at hj), fun B => h B⟩
  | cons o l ih =>
    obtain ⟨v, hdp, he, hr⟩ := h
    obtain ⟨V, h0, h1, h2⟩ := ih (k + 1) _ (fun j => by have := hl (j + 1); simpa [Nat.add_assoc, Nat.add_comm 1 j] using this) hr
    have hd : dstOf ops k = o.dst := by
      have := hl 0
      simp at this
      simp [dstOf, ← this]
    have hF : ∀ B j, frameL ops (fun i => (if i = k then v else V i) B) (List.range' k (j + 1)) (a B) = frameL ops (fun i => V i B) (List.range' (k + 1) j) ((a B).put o.dst (v B)) := fun B j => by
      rw [List.range'_succ]
      show frameL ops _ (List.range' (k + 1) j) ((a B).put (dstOf ops k) ((if k = k then v else V k) B)) = _
      rw [if_pos rfl, hd]
      refine frameL_congr _ _ _ _ fun i hi => ?_
      have := (List.mem_range'_1.1 hi).1
      show (if i = k then v else V i) B = V i B
      rw [if_neg (by omega)]
    refine ⟨fun i => if i = k then v else V i, fun j => ?_, fun j o' hj B => ?_, fun B => ?_⟩
    · show DepIn md ops j (if j = k then v else V j)
      by_cases hjk : j = k
      · rw [if_pos hjk, hjk]; exact hdp
      · rw [if_neg hjk]; exact h0 j
    · cases j with
      | zero =>
        simp at hj
        subst hj
        simpa [frameL] using he B
      | succ j =>
        have hj' : l[j]? = some o' := by simpa using hj
        have := h1 j o' hj' B
        rw [hF B j]
        have e : k + (j + 1) = k + 1 + j := by omega
        simp only [e]
        rw [if_neg (by omega)]
        exact this
    · rw [List.length_cons, hF]
      exact h2 B
theorem reach_listed {listed : Array Bool} (hdn : ∀ j o, ops[j]? = some o → Lof listed j = true → ∀ e ∈ o.after, Region.binds md e = true → Lof listed e.on = true) (f k j : Nat) (hk : Lof listed k = true) (h : reach md ops f k j = true) : Lof listed j = true := by
  induction f generalizing k with
  | zero =>
    unfold reach at h
    rw [beq_iff_eq] at h
    rw [← h]
    exact hk
  | succ f ih =>
    unfold reach at h
    rw [Bool.or_eq_true, beq_iff_eq] at h
    rcases h with h | h
    · rw [← h]
      exact hk
    · cases ho : ops[k]? with
      | none => rw [ho] at h; cases h
      | some o =>
        rw [ho] at h
        simp only at h
        rw [← Array.any_toList, List.any_eq_true] at h
        obtain ⟨e, he, h3⟩ := h
        rw [Bool.and_eq_true] at h3
        exact ih e.on (hdn k o ho hk e (by simpa using he) h3.1) h3.2
theorem EffInv.congrV {V V' : Nat → Value} {a0 : Act} {fuel : Nat} {listed : Array Bool} {a : Act} {w : World} (h : EffInv ops md (fun _ _ => True) V a0 fuel listed a w) (hV : ∀ j, Lof listed j = true → V j = V' j) : EffInv ops md (fun _ _ => True) V' a0 fuel listed a w :=
  ⟨h.size, h.down, by rw [h.frame]; exact frameL_congr _ _ _ _ fun i hi => hV i (List.mem_filter.1 hi).2, trivial, h.cnt⟩
/-- Whatever order is picked. -/
theorem wpAny_eff2 {vf : Nat → Bk → Value} {a0 : Act} {Q : Exit → Act → World → Prop} (hB : effB md ops = true) (hd : ∀ j, DepIn md ops j (vf j)) (hV : ∀ j o, ops[j]? = some o → ∀ B, EffIn2 md P ops C o j (vf j) (frameL ops (fun j => vf j B) (List.range' 0 j) a0) B)
    (hQ : ∀ B w, C (fun j => decide (j < ops.size)) B w → Q .normal (frameL ops (fun j => vf j B) (List.range' 0 ops.size) a0) w) (fuel : Nat) (listed : Array Bool) (a : Act) (w : World) (B : Bk) (h : EffInv ops md (fun _ _ => True) (fun j => vf j B) a0 fuel listed a w) (hc : C (Lof listed) B w) : wpAny P md ops Q fuel listed a w := by
  induction fuel generalizing listed a w B with
  | zero =>
    have hnil := List.eq_nil_of_length_eq_zero h.cnt.symm
    have hal : ∀ j, j < ops.size → Lof listed j = true := fun j hj => by
      have := List.filter_eq_nil_iff.1 hnil j (List.mem_range'_1.2 ⟨by omega, by omega⟩)
      simpa using this
    have hLe : Lof listed = fun j => decide (j < ops.size) := by
      funext j
      by_cases hj : j < ops.size
      · rw [hal j hj, decide_eq_true hj]
      · rw [decide_eq_false hj]
        cases hx : Lof listed j with
        | false => rfl
        | true => exact absurd (h.size ▸ Lof_lt hx) hj
    refine ⟨?_, ?_⟩
    · refine List.eq_nil_iff_forall_not_mem.2 fun i hi => ?_
      obtain ⟨h0, _⟩ := mem_ready.1 hi
      obtain ⟨h1, h2⟩ := getD_tf h0
      rw [hal i (h.size ▸ h1)] at h2
      cases h2
    · have hf := h.frame
      rw [List.filter_eq_self.2 (fun j hj => hal j (by have := (List.mem_range'_1.1 hj).2; omega))] at hf
      rw [hf]
      exact hQ B w (hLe ▸ hc)
  | succ fuel ih =>
    refine ⟨fun hnil => ?_, fun i hi => ?_⟩
    · exfalso
      have hal : ∀ k, k ≤ ops.size → ∀ j, j < k → Lof listed j = true := by
        intro k
        induction k with
        | zero => intro _ j hj; omega
        | succ k ihk =>
          intro hk j hj
          by_cases hjk : j < k
          · exact ihk (by omega) j hjk
          · obtain rfl : j = k := by omega
            cases hx : Lof listed j with
            | true => rfl
            | false =>
              exfalso
              obtain ⟨o, ho⟩ : ∃ o, ops[j]? = some o := ⟨_, Array.getElem?_eq_getElem (by omega)⟩
              have : j ∈ Region.ready md ops listed := mem_ready.2 ⟨getD_ft (by rw [h.size]; omega) hx, o, ho, fun e he hb => ihk (by omega) e.on (((effB_spec hB).2 j o ho).1 e he hb)⟩
              rw [hnil] at this
              cases this
      have := h.cnt
      rw [List.filter_eq_nil_iff.2 (fun j hj => by rw [hal ops.size (Nat.le_refl _) j (by have := (List.mem_range'_1.1 hj).2; omega)]; simp)] at this
      simp at this
    · obtain ⟨h0, o, ho, hal⟩ := mem_ready.1 hi
      obtain ⟨hex, hwa⟩ := h.looks hB ho hi
      have hiL := (getD_tf h0).2
      have stepE : ∀ b w', C (onL (Lof listed) i) (updB B i b) w' → wpAny P md ops Q fuel (listed.setIfInBounds i true) (a.put o.dst (vf i (updB B i b))) w' := fun b w' hc' => by
        have h' := h.congrV (V' := fun j => vf j (updB B i b)) (fun j hj => hd j _ _ fun j' hj' => by
          have := reach_listed h.down fuelR j j' hj hj'
          unfold updB
          rw [if_neg (fun e => by rw [e, hiL] at this; cases this)])
        have h2 := h'.step hB ho hi (w' := w') trivial
        exact ih _ _ _ (updB B i b) h2 (by rw [Lof_set (by rw [h.size]; exact (Array.getElem?_eq_some_iff.1 ho).1)]; exact hc')
      have hE := hV i o ho B (Lof listed) w (getD_tf h0).2 (fun j hj => by
        unfold waitsFor at hj
        rw [← Array.any_toList, List.any_eq_true] at hj
        obtain ⟨e, he, h3⟩ := hj
        simp only [Bool.and_eq_true, beq_iff_eq] at h3
        rw [← h3.2]
        exact hal e (by simpa using he) h3.1) hc
      unfold wpOp
      simp only [ho]
      rw [hwa]
      rcases hE with ⟨hw, hE⟩ | ⟨hw, b, hv, hE⟩
      · simp only [hw, if_true]
        refine .inl ?_
        unfold effAt2 at hE
        unfold Oper.wp
        rw [hex]
        generalize (execOp (frameL ops (fun j => vf j B) (List.range' 0 i) a0).eval o).run P w = r at hE ⊢
        cases r with
        | ok n w' =>
          cases n <;> simp only [effUpon2] at hE <;> simp only [Oper.upon]
          case value u =>
            obtain ⟨b, e1, e2⟩ := hE
            rw [e1]
            exact stepE b _ e2
          case skip =>
            obtain ⟨b, e1, e2⟩ := hE
            rw [← e1]
            exact stepE b _ e2
          case enter f args =>
            exact hE.mono fun e w'' ⟨b, he, hw''⟩ => by subst he; exact stepE b _ hw''
        | halt x w' => simp only [effUpon2] at hE
      · simp only [hw, Bool.false_eq_true, if_false]
        rw [← hv]
        exact stepE b _ hE
/-- A drawn region, walked once. -/
theorem wp_region_eff2 {id : Nat} {Q : Exit → Act → World → Prop} {a : Act} {w : World} {l : List Oper} (C : (Nat → Bool) → Bk → World → Prop) (B0 : Bk) (hm : P.follows .mixedOrders = true) (hB : effB .any l.toArray = true) (hC : C (fun _ => false) B0 w.drew)
    (h : wpEff2 .any P l.toArray C (fun B a' => ∀ w', C (fun j => decide (j < l.length)) B w' → Q .normal a' w') l 0 (fun _ => a)) : (Code.region id l.toArray true).wp P Q a w := by
  obtain ⟨V, h0, h1, h2⟩ := wpEff2_values l 0 (fun _ => a) (fun j => by simp) h
  refine wp_region_any hm ?_
  have hL0 : Lof (Array.replicate l.toArray.size false) = fun _ => false := by
    funext j
    unfold Lof
    by_cases hj : j < l.length
    · simp [hj]
    · simp [Nat.le_of_not_lt hj]
  refine wpAny_eff2 (vf := V) (a0 := a) hB h0 (fun j o hj B => ?_) (fun B w' hw' => ?_) _ _ _ w.drew B0 ⟨by simp, fun j o _ hj => (by rw [hL0] at hj; cases hj), ?_, trivial, ?_⟩ (by rw [hL0]; exact hC)
  · have := h1 j o (by simpa using hj) B
    simpa using this
  · have := h2 B w' (by simpa using hw')
    simpa using this
  · rw [hL0, List.filter_eq_nil_iff.2 (fun j _ => by simp)]; rfl
  · rw [hL0, List.filter_eq_self.2 (fun j _ => by simp)]; simp
end
end Go.Proofs.YtippdjaakcgeoaaGreat

namespace Go.Proofs.YtippdjaakcgeoaaGreat
open Go Go.RowKit
set_option linter.unusedVariables false
set_option linter.unusedSimpArgs false
/-- What is listed is closed under what it waits for. -/
def DownB (md : Region.Mode) (ops : Array Oper) (L : Nat → Bool) : Prop := ∀ k o, ops[k]? = some o → L k = true → ∀ j, waitsFor md o j = true → L j = true
theorem DownB.step {md : Region.Mode} {ops : Array Oper} {L : Nat → Bool} (h : DownB md ops L) {k : Nat} {o : Oper} (ho : ops[k]? = some o) (hD : ∀ j, waitsFor md o j = true → L j = true) : DownB md ops (onL L k) := fun i o' hi hl j hj => by
  unfold onL at hl ⊢
  by_cases e : j = k
  · rw [if_pos e]
  rw [if_neg e]
  by_cases e2 : i = k
  · subst e2
    rw [ho] at hi
    injection hi with hi
    subst hi
    exact hD j hj
  · rw [if_neg e2] at hl
    exact h i o' hi hl j hj
def waitsB (md : Region.Mode) (ops : Array Oper) (a b : Nat) : Bool := match ops[a]? with
  | none => false
  | some o => waitsFor md o b
theorem DownB.of {md : Region.Mode} {ops : Array Oper} {L : Nat → Bool} (h : DownB md ops L) {a b : Nat} (hw : waitsB md ops a b = true) (ha : L a = true) : L b = true := by
  unfold waitsB at hw
  cases ho : ops[a]? with
  | none => rw [ho] at hw; cases hw
  | some o => rw [ho] at hw; exact h a o ho ha b hw
theorem DownB.no {md : Region.Mode} {ops : Array Oper} {L : Nat → Bool} (h : DownB md ops L) {a b : Nat} (hw : waitsB md ops a b = true) (hb : L b = false) : L a = false := by
  cases ha : L a with
  | false => rfl
  | true => rw [h.of hw ha] at hb; cases hb
/-- Call (kc), slice made (kb), append (ka), store (ks). -/
def RgApp (md : Region.Mode) (ops : Array Oper) (kc kb ka ks : Nat) (S0 S1 : World → Prop) (S2 : Nat → World → Prop) (S3 S4 : Nat × Option Addr → World → Prop) (L : Nat → Bool) (B : Bk) (w : World) : Prop :=
  DownB md ops L ∧ (if L ks = true then S4 (B ka) w else if L ka = true then S3 (B ka) w else if L kb = true then S2 (B kb).1 w else if L kc = true then S1 w else S0 w)
section
variable {md : Region.Mode} {ops : Array Oper} {kc kb ka ks : Nat} {S0 S1 : World → Prop} {S2 : Nat → World → Prop} {S3 S4 : Nat × Option Addr → World → Prop} {L : Nat → Bool} {B : Bk} {w w' : World} {o : Oper}
theorem RgApp.start (h : S0 w) : RgApp md ops kc kb ka ks S0 S1 S2 S3 S4 (fun _ => false) B w := ⟨fun _ _ _ h => (by cases h), by simpa using h⟩
theorem onL_neB {j k : Nat} (h : (k != j) = true) : onL L j k = L k := if_neg (by simpa using h)
theorem onL_self {j : Nat} : onL L j j = true := if_pos rfl
theorem RgApp.keep (h : RgApp md ops kc kb ka ks S0 S1 S2 S3 S4 L B w) {j : Nat} (ho : ops[j]? = some o) (hD : ∀ i, waitsFor md o i = true → L i = true) (n1 : (kc != j) = true) (n2 : (kb != j) = true) (n3 : (ka != j) = true) (n4 : (ks != j) = true) : RgApp md ops kc kb ka ks S0 S1 S2 S3 S4 (onL L j) B w :=
  ⟨h.1.step ho hD, by rw [onL_neB n1, onL_neB n2, onL_neB n3, onL_neB n4]; exact h.2⟩
theorem RgApp.all (h : RgApp md ops kc kb ka ks S0 S1 S2 S3 S4 L B w) {φ : Prop} (h0 : S0 w → φ) (h1 : S1 w → φ) (h2 : ∀ b, S2 b w → φ) (h3 : ∀ b, S3 b w → φ) (h4 : ∀ b, S4 b w → φ) : φ := by
  have h5 := h.2
  split at h5
  · exact h4 _ h5
  split at h5
  · exact h3 _ h5
  split at h5
  · exact h2 _ h5
  split at h5
  · exact h1 h5
  · exact h0 h5
theorem RgApp.call (h : RgApp md ops kc kb ka ks S0 S1 S2 S3 S4 L B w) (hL : L kc = false) (hb : waitsB md ops kb kc = true) (ha : waitsB md ops ka kb = true) (hs : waitsB md ops ks ka = true) (ho : ops[kc]? = some o) (hD : ∀ i, waitsFor md o i = true → L i = true) (n2 : (kb != kc) = true) (n3 : (ka != kc) = true) (n4 : (ks != kc) = true) :
    S0 w ∧ ∀ w', S1 w' → RgApp md ops kc kb ka ks S0 S1 S2 S3 S4 (onL L kc) B w' := by
  have lb := h.1.no hb hL
  have la := h.1.no ha lb
  have ls := h.1.no hs la
  refine ⟨by simpa [lb, la, ls, hL] using h.2, fun w' h1 => ⟨h.1.step ho hD, ?_⟩⟩
  rw [onL_neB n2, onL_neB n3, onL_neB n4, onL_self, lb, la, ls]
  simpa using h1
theorem RgApp.build (h : RgApp md ops kc kb ka ks S0 S1 S2 S3 S4 L B w) (hL : L kb = false) (hc : L kc = true) (ha : waitsB md ops ka kb = true) (hs : waitsB md ops ks ka = true) (ho : ops[kb]? = some o) (hD : ∀ i, waitsFor md o i = true → L i = true) (n3 : (ka != kb) = true) (n4 : (ks != kb) = true) :
    S1 w ∧ ∀ w' b, S2 b.1 w' → RgApp md ops kc kb ka ks S0 S1 S2 S3 S4 (onL L kb) (updB B kb b) w' := by
  have la := h.1.no ha hL
  have ls := h.1.no hs la
  refine ⟨by simpa [la, ls, hL, hc] using h.2, fun w' b h1 => ⟨h.1.step ho hD, ?_⟩⟩
  rw [onL_neB n3, onL_neB n4, onL_self, la, ls]
  simpa [updB] using h1
theorem RgApp.app (h : RgApp md ops kc kb ka ks S0 S1 S2 S3 S4 L B w) (hL : L ka = false) (hb : L kb = true) (hs : waitsB md ops ks ka = true) (ho : ops[ka]? = some o) (hD : ∀ i, waitsFor md o i = true → L i = true) (n4 : (ks != ka) = true) :
    S2 (B kb).1 w ∧ ∀ w' b, S3 b w' → RgApp md ops kc kb ka ks S0 S1 S2 S3 S4 (onL L ka) (updB B ka b) w' := by
  have ls := h.1.no hs hL
  refine ⟨by simpa [ls, hL, hb] using h.2, fun w' b h1 => ⟨h.1.step ho hD, ?_⟩⟩
  rw [onL_neB n4, onL_self, ls]
  simpa [updB] using h1
theorem RgApp.store (h : RgApp md ops kc kb ka ks S0 S1 S2 S3 S4 L B w) (hL : L ks = false) (ha : L ka = true) (ho : ops[ks]? = some o) (hD : ∀ i, waitsFor md o i = true → L i = true) :
    S3 (B ka) w ∧ ∀ w', S4 (B ka) w' → RgApp md ops kc kb ka ks S0 S1 S2 S3 S4 (onL L ks) B w' := by
  refine ⟨by simpa [hL, ha] using h.2, fun w' h1 => ⟨h.1.step ho hD, ?_⟩⟩
  rw [onL_self]
  simpa using h1
end
end Go.Proofs.YtippdjaakcgeoaaGreat

namespace Go.Proofs.YtippdjaakcgeoaaGreat
open Go Go.RowKit

theorem and127 (n : Nat) (h : n ≤ 4611686018427387903) : bits BinOp.and IntKind.i64 (n : Int) 127 = ((n % 128 : Nat) : Int) := by
  show IntKind.i64.wrap ((BitVec.ofInt 64 (n : Int) &&& BitVec.ofInt 64 ((127 : Nat) : Int)).toNat : Int) = _
  rw [BitVec.toNat_and, ofInt_i64_nat n (by omega), ofInt_i64_nat 127 (by omega), show (127 : Nat) = 2 ^ 7 - 1 from rfl, Nat.and_two_pow_sub_one_eq_mod, IntKind.wrap_i64]
  omega
theorem or128 (m : Nat) : bits BinOp.or IntKind.u8 ((UInt8.ofNat (m % 128)).toNat : Int) 128 = ((UInt8.ofNat (m % 128 + 128)).toNat : Int) := by
  have h := orByte (m % 128)
  rw [Nat.mod_mod] at h
  rw [← h, UInt8.toNat_ofNat']
  congr 1
theorem byte127 (m : Nat) : ((m % 128 : Nat) : Int) % 256 = ((UInt8.ofNat (m % 128)).toNat : Int) := lowByte (m % 128) (by omega)

theorem rnum_bad (w : World) (n : Int) (hn : n < 0 ∨ 4611686018427387903 < n) :
    Calls Tryz.prog 205 #[.int .i64 n] w fun e w' => e = .returned (.tuple #[.slice none 0 0, .bool false]) ∧ w = w' := by
  by_cases h0 : n < 0
  · go_enter Tryz.func205, Tryz.ntmps205
    go_wp2_with fail
    go_ret2
    exact ⟨rfl, rfl⟩
  · have h1 : 4611686018427387903 < n := by omega
    go_enter Tryz.func205, Tryz.ntmps205
    go_wp2_with fail
    go_ret2
    exact ⟨rfl, rfl⟩

/-- What was made of a number so far: all but m's bytes, and m's first seven bits. -/
def RNumRel (w : World) (n : Nat) (v out : Value) (wr : World) : Prop :=
  ∃ (m : Nat) (p : List UInt8) (g cap : Nat), v = .int .i64 (m / 128 : Nat) ∧ out = .slice (some ⟨g, 0, none⟩) (p.length + 1) cap ∧ m ≤ topN ∧ p.length + (enc m).length = (enc n).length ∧ p ++ enc m = enc n ∧
    Own wr 5 1 (some ⟨g, 0, none⟩) (p.length + 1) cap ((p ++ [UInt8.ofNat (m % 128)]).map B8) ∧ Nw w wr ∧ w.heap.size ≤ g

theorem and256 (n : Nat) (h : n ≤ 4611686018427387903) : bits BinOp.and IntKind.i64 (n : Int) 127 % 256 = ((UInt8.ofNat (n % 128)).toNat : Int) := by
  rw [and127 n h]
  exact byte127 n

set_option maxHeartbeats 1000000 in
theorem rnum_ok (w : World) (n : Nat) (hn : n ≤ 4611686018427387903) :
    Calls Tryz.prog 205 #[.int .i64 n] w fun e w' => ∃ A c, e = .returned (.tuple #[.slice A (enc n).length c, .bool true]) ∧ Own w' 5 1 A (enc n).length c ((enc n).map B8) ∧ Nw w w' ∧ ∀ k, inA A k → w.heap.size ≤ k := by
  go_enter Tryz.func205, Tryz.ntmps205
  go_wp2_with fail
  go_loopw [0, 4] (fun v out wr => RNumRel w n v out wr) (fun v _ _ => (intOf v).toNat)
  case atStart =>
    refine ⟨n, [], w.heap.size, 1, by go_num, rfl, hn, by simp, rfl, ?_, (Fr.refl _ w).alloc _, Nat.le_refl _⟩
    rw [and256 n hn]
    exact Own.new w 5 1 1 1 #[B8 (UInt8.ofNat (n % 128))] (Nat.le_refl _) (by decide) rfl
  case round =>
    obtain ⟨m, p, g, cap, rfl, rfl, hm, hl, he, ho, hq, hg⟩ := hrel
    have HE := Lib.hid he
    have HL := Lib.hid hl
    have hlen := enc_len n
    have hpl : p.length ≤ 9 := by omega
    clear he hl hlen
    have hm' := hm
    unfold topN at hm'
    obtain ⟨k, hk⟩ : ∃ k, m / 128 = k := ⟨_, rfl⟩
    rw [hk]
    have HK := Lib.hid hk
    have hk2 : k ≤ 4611686018427387903 := by omega
    clear hk
    by_cases hpos : 0 < k
    · have hc := ho.cellAt (k := p.length) (by omega)
      have e : ((p ++ [UInt8.ofNat (m % 128)]).map B8)[p.length]? = some (B8 (UInt8.ofNat (m % 128))) := by simp
      rw [e] at hc
      have hfz := ho.frozenAt p.length
      have hor := or128 m
      have hbk := and256 k hk2
      have hst := ho.store p.length (B8 (UInt8.ofNat (m % 128 + 128)))
      have e2 : ((p ++ [UInt8.ofNat (m % 128)]).map B8).set p.length (B8 (UInt8.ofNat (m % 128 + 128))) = (p ++ [UInt8.ofNat (m % 128 + 128)]).map B8 := by simp
      rw [e2] at hst
      have henc := enc_big m (by have := HK.out; omega) hm
      rw [HK.out] at henc
      have HN := Lib.hid henc
      clear e e2 henc
      obtain ⟨x, hx⟩ : ∃ x, UInt8.ofNat (m % 128) = x := ⟨_, rfl⟩
      obtain ⟨y, hy⟩ : ∃ y, UInt8.ofNat (m % 128 + 128) = y := ⟨_, rfl⟩
      obtain ⟨z, hz⟩ : ∃ z, UInt8.ofNat (k % 128) = z := ⟨_, rfl⟩
      rw [hx] at hor hc
      rw [hy] at hor hst HN
      rw [hz] at hbk
      have HZ := Lib.hid hz
      clear hx hy hz ho
      go_wp2_with (at_builtin; refine wl_append2 rfl _ _ _ rfl 1 (.int .u8 0) Tryz.underlying48 info_u8 rfl (by decide) rfl (hst.alloc _) rfl (sl_new _ _ [B8 z] _ (by simp)) rfl (B8_oneCell [z]) (by omega) (by unfold maxLen; omega) ?_; intro A' cap' w2 hap)
      have hfin : ∀ (W : World) (A' : Option Addr) (cap' : Nat) (w2 : World), Nw w W → w.heap.size ≤ W.heap.size → AppTo W 5 1 (some ⟨g, 0, none⟩) (p.length + 1) cap 1 ((p ++ [y]).map B8) [B8 z] A' cap' w2 → RNumRel w n (.int .i64 ((k : Int) / 128)) (.slice A' (p.length + 1 + 1) cap') w2 := by
        intro W A' cap' w2 hW hWs hap
        obtain ⟨ho2, _, hcase⟩ := hap
        obtain ⟨g', rfl, hg', hf⟩ : ∃ g', A' = some ⟨g', 0, none⟩ ∧ w.heap.size ≤ g' ∧ Nw w w2 := by
          rcases hcase with ⟨_, rfl, _, hf⟩ | ⟨_, rfl, hf⟩
          · exact ⟨g, rfl, hg, hW.new hf (fun b hb => by rw [(inA_some _ _).1 hb]; exact hg)⟩
          · exact ⟨_, rfl, hWs, hW.tr hf⟩
        have h1 := HL.out
        have h2 := HE.out
        rw [HN.out] at h1 h2
        refine ⟨k, p ++ [y], g', cap', by go_num, by simp, by unfold topN; omega, by simp at h1 ⊢; omega, by rw [← h2]; simp, ?_, hf, hg'⟩
        rw [HZ.out]
        simpa using ho2
      refine ⟨hfin _ _ _ _ (((hq.setCell (p := ⟨g, p.length, none⟩) (.inr hg) _).alloc _)) (by have := hq.size; simp [World.setCell]; omega) hap, ?_⟩
      simp [intOf]
      omega
    · go_wp2_with fail
      go_ret2
      have hm128 : m < 128 := by have := HK.out; omega
      have h2 := HE.out
      rw [enc_small m hm128] at h2
      have h3 : UInt8.ofNat (m % 128) = UInt8.ofNat m := by rw [Nat.mod_eq_of_lt hm128]
      rw [h3, h2] at ho
      have h4 : (enc n).length = p.length + 1 := by rw [← h2]; simp
      exact ⟨some ⟨g, 0, none⟩, cap, by rw [h4]; rfl, by rw [h4]; exact ho, hq, fun j hj => by rw [(inA_some _ _).1 hj]; exact hg⟩

theorem rflag_any (w : World) (b : Bool) : Calls Tryz.prog 147 #[.bool b] w fun e w' => ∃ A c, e = .returned (.slice A 1 c) ∧ Own w' 5 1 A 1 c ([if b then 1 else 0].map B8) ∧ Nw w w' ∧ ∀ k, inA A k → w.heap.size ≤ k := by
  cases b
  · go_enter Tryz.func147, Tryz.ntmps147
    go_wp2_with fail
    go_ret
    exact ⟨some ⟨w.heap.size, 0, none⟩, 1, rfl, Own.new w 5 1 1 1 #[B8 0] (Nat.le_refl _) (by decide) rfl, (Fr.refl _ w).alloc _, fun k hk => by rw [(inA_some _ _).1 hk]; exact Nat.le_refl _⟩
  · go_enter Tryz.func147, Tryz.ntmps147
    go_wp2_with fail
    go_ret
    exact ⟨some ⟨w.heap.size, 0, none⟩, 1, rfl, Own.new w 5 1 1 1 #[B8 1] (Nat.le_refl _) (by decide) rfl, (Fr.refl _ w).alloc _, fun k hk => by rw [(inA_some _ _).1 hk]; exact Nat.le_refl _⟩

theorem rrow_any (w : World) (F : Nat → Prop) (A : Option Addr) (c : Nat) (bs : List UInt8) (h : Sl w F A (bs.map B8)) (hsz : bs.length ≤ 1000000000000) :
    Calls Tryz.prog 150 #[.slice A bs.length c] w fun e w' => ∃ A' c', e = .returned (.slice A' ((enc bs.length).length + bs.length) c') ∧ Own w' 5 1 A' ((enc bs.length).length + bs.length) c' ((enc bs.length ++ bs).map B8) ∧ Nw w w' ∧ ∀ k, inA A' k → w.heap.size ≤ k := by
  have hlen := enc_len bs.length
  go_enter Tryz.func150, Tryz.ntmps150
  go_wp2_with (first | (go_at_call 205; refine (rnum_ok _ bs.length (by omega)).mono ?_; rintro e w1 ⟨A1, c1, rfl, ho1, q1, n1⟩; have h1 := h.fr q1 (fun _ _ h => h)) | (at_builtin; refine wl_append2 rfl _ _ _ rfl 1 (.int .u8 0) Tryz.underlying48 info_u8 rfl (by decide) rfl ho1 rfl h1 (by simp) (B8_oneCell bs) (by omega) (by unfold maxLen; omega) ?_; intro A' cap' w2 hap))
  go_ret
  obtain ⟨ho2, _, hcase⟩ := hap
  refine ⟨A', cap', rfl, by rw [List.map_append]; exact ho2, ?_, ?_⟩
  · rcases hcase with ⟨_, rfl, _, hf⟩ | ⟨_, rfl, hf⟩
    · exact q1.new hf n1
    · exact q1.tr hf
  · intro k hk
    rcases hcase with ⟨_, rfl, _, hf⟩ | ⟨_, rfl, hf⟩
    · exact n1 k hk
    · rw [(inA_some _ _).1 hk]; exact q1.size
end Go.Proofs.YtippdjaakcgeoaaGreat
