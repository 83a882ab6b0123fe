/- Lemmas of the walks: BgD, RaC, Open, Frm, FrmB, FrL, FrN. (Laid together by shake.py.) -/
import Derived.Deep.Slices
import Derived.SizedLaws
import Derived.ChangeSlices
import Derived.SliceStrings
import Derived.OpenShut
import Derived.ShutString
import Derived.ChangeOld
import Derived.Test.YtippdjaakcgeoaaGreatNr02
import Derived.Test.YtippdjaakcgeoaaGreatNr16
import Derived.Test.YtippdjaakcgeoaaGreatNr21
import Derived.Test.YtippdjaakcgeoaaGreatNr22
import Derived.Test.YtippdjaakcgeoaaGreatNr23
import Derived.Test.YtippdjaakcgeoaaGreatNr26
set_option linter.unusedVariables false
set_option linter.unusedSimpArgs false
namespace Go.Proofs.YtippdjaakcgeoaaGreat
open Go Go.RowKit
set_option linter.unusedVariables false
set_option linter.unusedSimpArgs false
def ApLRel (w : World) (g : Nat) (LL : List (Ls LetM)) (i : Value) (wr : World) : Prop := ∃ k : Nat, k ≤ LL.length ∧ i = .int .i64 k ∧ BagSt w wr g (lvs ((LL.take k).flatMap fun s => s.l.flatMap letInts)) (lvs ((LL.take k).flatMap fun s => s.l.flatMap letByts)) (lvs ((LL.take k).flatMap fun s => s.l.map LetM.ents)) (lvs (LL.take k))
theorem flat_two {α β : Type} (g : Ls α → List β) (l : List (Ls α)) (k : Nat) (h : k < l.length) : ((l.take k).flatMap g).length + (g l[k]).length ≤ (l.flatMap g).length := flat_pre g l k h
set_option maxRecDepth 100000 in
set_option maxHeartbeats 2000000 in
theorem apartLetters_any (w : World) (F0 F : Nat → Prop) (B : Option Addr) (c : Nat) (LL : List (Ls LetM)) (hs : Sl w F0 B (lvs LL)) (hL : Held w F 50 20 letsC LL) (hH : LetsHd w F (LL.flatMap (·.l))) (hF : ∀ k, F k → k < w.heap.size)
    (n1 : LL.length ≤ 1000) (n2 : (LL.flatMap fun s => s.l.flatMap letInts).length ≤ 999000000) (n3 : (LL.flatMap fun s => s.l.flatMap letByts).length ≤ 999000000) (n4 : (LL.flatMap fun s => s.l.map LetM.ents).length ≤ 999000000) (hz : ∀ x ∈ LL.flatMap (·.l), LetSz x) (n : Nat) (hn : n = LL.length) :
    Calls Tryz.prog 16 #[.slice B n c] w fun e w' => e = .returned (.bool true) ∧ Fr F w w' := by
  have HZ := Lib.hid hz
  have HH := Lib.hid hH
  have HL := Lib.hid hL
  have HN := Lib.hid hn
  clear hz hH hL hn
  go_enter Tryz.func16, Tryz.ntmps16
  go_upto_region 2 with (fail)
  obtain ⟨g, hg⟩ : ∃ g, g = w.heap.size := ⟨_, rfl⟩
  obtain ⟨W0, hW0⟩ : ∃ W, W = w.alloc (.cells (bag4 (.slice none 0 0) (.slice none 0 0) (.slice none 0 0) (.slice none 0 0)) 115) := ⟨_, rfl⟩
  have st0 : BagSt w W0 g [] [] [] [] := by rw [hg, hW0]; exact BagSt.new
  have e0 : w.alloc (.cells (#[.slice none 0 0, .slice none 0 0, .slice none 0 0, .slice none 0 0, .slice none 0 0, .slice none 0 0, .slice none 0 0, .slice none 0 0, .slice none 0 0, .slice none 0 0, .slice none 0 0, .slice none 0 0, .slice none 0 0, .slice none 0 0, .slice none 0 0, .slice none 0 0, .slice none 0 0, .slice none 0 0, .slice none 0 0, .slice none 0 0, .slice none 0 0, .slice none 0 0]) 115) = W0 := hW0.symm
  have HG := Lib.hid hg
  have E0 := Lib.hid e0
  clear hg hW0 e0
  rw [← HG.out]
  try rw [E0.out]
  go_wp2_with fail
  go_loopw [4] (fun i wr => ApLRel w g LL i wr) (fun i _ => n - (intOf i).toNat)
  case atStart => exact ⟨0, Nat.zero_le _, rfl, by simpa [lvs] using st0⟩
  case round =>
    clear st0
    obtain ⟨k, hk, rfl, st⟩ := hrel
    by_cases hlt : k < n
    · have hlk : k < LL.length := by rw [← HN.out]; exact hlt
      have hi0 : (k : Int) < (n : Int) := by omega
      have hi1 : decide ((k : Int) < (n : Int)) = true := decide_eq_true hi0
      have hi2 : decide (k < n) = true := decide_eq_true hlt
      obtain ⟨b, o, hA, _, hc⟩ := Sl.get (f := Ls.v) (hs.fr st.new_ (fun _ _ h => h)) hlk
      have hmem : ∀ x ∈ (LL[k]).l, x ∈ LL.flatMap (·.l) := fun x hx => List.mem_flatMap.2 ⟨_, List.getElem_mem hlk, hx⟩
      have hnext : ∀ w', BgTo w wr g ((lvs ((LL.take k).flatMap fun s => s.l.flatMap letInts)) ++ lvs ((LL[k]).l.flatMap letInts)) ((lvs ((LL.take k).flatMap fun s => s.l.flatMap letByts)) ++ lvs ((LL[k]).l.flatMap letByts)) ((lvs ((LL.take k).flatMap fun s => s.l.map LetM.ents)) ++ lvs ((LL[k]).l.map LetM.ents)) (lvs (LL.take k) ++ [.slice (LL[k]).a (LL[k]).l.length (LL[k]).c]) w' → ApLRel w g LL (.int .i64 ((k : Int) + 1)) w' := fun w' h => by
        refine ⟨k + 1, by omega, by go_num, ?_⟩
        have h1 := h.1
        rw [lvs_flat_succ _ _ _ hlk, lvs_flat_succ _ _ _ hlk, lvs_flat_succ _ _ _ hlk]
        have e : lvs (LL.take (k + 1)) = lvs (LL.take k) ++ [(LL[k]).v] := by rw [List.take_succ_eq_append_getElem hlk, lvs_append]; rfl
        rw [e]
        exact h1
      have hl1 := flat_two (fun s : Ls LetM => s.l.flatMap letInts) LL k hlk
      have hl2 := flat_two (fun s : Ls LetM => s.l.flatMap letByts) LL k hlk
      have hl3 := flat_two (fun s : Ls LetM => s.l.map LetM.ents) LL k hlk
      simp only [List.length_map] at hl3
      have hput := putLetters_bag w wr g _ _ _ _ (LL[k]).a (LL[k]).c (LL[k]).l F ((HL.out.each _ (List.getElem_mem hlk)).own.sl.mono fun j hj _ => (HL.out.each _ (List.getElem_mem hlk)).base j hj) (fun x hx => HH.out.each x (hmem x hx)) st (by rw [lvs_len]; omega) (by rw [lvs_len]; omega) (by rw [lvs_len]; omega) (by rw [lvs_len, List.length_take]; omega)
      obtain ⟨s, hse⟩ : ∃ s, LL[k] = s := ⟨_, rfl⟩
      rw [hse] at hc hput hnext
      obtain ⟨sa, sc, sl⟩ := s
      simp only at hc hput hnext
      obtain ⟨sn, hsn⟩ : ∃ n, sl.length = n := ⟨_, rfl⟩
      simp only [Ls.v] at hc
      rw [hsn] at hc hput hnext
      have HNX := Lib.hid hnext
      have HP := Lib.hid hput
      clear hnext hput hse hsn hmem hl1 hl2 hl3 st
      subst hA
      go_wp2_with fail
      refine HP.out.mono ?_
      rintro e w5 ⟨rfl, b5⟩
      have H5 := Lib.hid (HNX.out w5 b5)
      clear b5
      go_wp2_with fail
      refine ⟨H5.out, ?_⟩
      simp [intOf]
      omega
    · have hkn : k = LL.length := by have := HN.out; omega
      rw [hkn, List.take_length] at st
      have e1 : (LL.flatMap fun s => s.l.flatMap letInts) = (LL.flatMap (·.l)).flatMap letInts := by rw [List.flatMap_assoc]
      have e2 : (LL.flatMap fun s => s.l.flatMap letByts) = (LL.flatMap (·.l)).flatMap letByts := by rw [List.flatMap_assoc]
      have e3 : (LL.flatMap fun s => s.l.map LetM.ents) = (LL.flatMap (·.l)).map LetM.ents := by rw [List.map_flatMap]
      rw [e1, e2, e3] at st
      rw [e1] at n2
      rw [e2] at n3
      rw [e3] at n4
      have hap := bagApart4 w wr g F _ _ _ _ st HH.out.ints HH.out.byts HH.out.ents HL.out hF (by omega) (by omega) (by omega) (by omega) (fun s hs => by
          obtain ⟨x, hx, hs⟩ := List.mem_flatMap.1 hs
          have hzx := HZ.out x hx
          rcases List.mem_append.1 hs with hs | hs
          · obtain ⟨e, he, hs⟩ := List.mem_flatMap.1 hs
            have hze := (hzx.each e he).cfg
            simp only [entInts, cfgInts, List.mem_cons, List.not_mem_nil, or_false] at hs
            have := hze.v
            have := hze.o
            have := hze.l
            have := hze.w
            rcases hs with rfl | rfl | rfl | rfl <;> omega
          · have hze := hzx.cfg
            simp only [cfgInts, List.mem_cons, List.not_mem_nil, or_false] at hs
            have := hze.v
            have := hze.o
            have := hze.l
            have := hze.w
            rcases hs with rfl | rfl | rfl | rfl <;> omega) (fun s hs => by
          obtain ⟨x, hx, hs⟩ := List.mem_flatMap.1 hs
          have hzx := HZ.out x hx
          rcases List.mem_append.1 hs with hs | hs
          · obtain ⟨e, he, rfl⟩ := List.mem_map.1 hs
            have := (hzx.each e he).cmd
            omega
          · rw [List.mem_singleton.1 hs]
            have := hzx.bytes
            omega) (fun s hs => by
          obtain ⟨x, hx, rfl⟩ := List.mem_map.1 hs
          have := (HZ.out x hx).ents
          omega) (fun s hs => by
          have h1 := flat_two (fun s : Ls LetM => s.l.map LetM.ents) LL
          obtain ⟨i, hi, rfl⟩ := List.mem_iff_getElem.1 hs
          have h2 := h1 i hi
          simp only [List.length_map] at h2
          rw [e3] at h2
          simp only [List.length_map] at h2 n4
          omega)
      have HAP := Lib.hid hap
      clear hap st hkn e1 e2 e3
      go_wp2_with fail
      refine HAP.out.mono ?_
      rintro e w5 ⟨rfl, f5⟩
      go_wp2_with fail
      go_ret
      exact ⟨rfl, f5⟩
end Go.Proofs.YtippdjaakcgeoaaGreat

namespace Go.Proofs.YtippdjaakcgeoaaGreat
open Go Go.RowKit
set_option linter.unusedVariables false
set_option linter.unusedSimpArgs false

theorem Aw.stepS {w w1 w2 : World} {col col' : Nat → Nat} {D : Nat → Prop} (h : Aw w w1 col) (e : ExtS D w1 w2 col col') (hd : ¬ D 0) : Aw w w2 col' :=
  ⟨e.nw_of h.nw (fun k hk e' => hd (by rw [← h.z k hk]; exact e')), fun k hk => (e.ext k (Nat.lt_of_lt_of_le hk h.nw.size)).trans (h.z k hk), e.cln h.cln⟩
theorem deedT_leN (ds : List DeedN) (k : Nat) : deedT (ds.take k) ≤ deedT ds := by
  have h := List.take_append_drop k ds
  unfold deedT
  conv => rhs; rw [← h, List.map_append, List.sum_append]
  omega
theorem lets_fewN {l : List LetM} (hn : l.length ≤ 80) (hy : ∀ y ∈ l, y.ents.l.length ≤ 30) : (l.flatMap letInts).length ≤ 999000000 ∧ (l.flatMap letByts).length ≤ 999000000 ∧ (l.map LetM.ents).length ≤ 999000000 := by
  have key : ∀ l : List LetM, (∀ y ∈ l, y.ents.l.length ≤ 30) → (l.flatMap letInts).length ≤ l.length * 200 ∧ (l.flatMap letByts).length ≤ l.length * 200 := by
    intro l
    induction l with
    | nil => intro _; exact ⟨Nat.le_refl _, Nat.le_refl _⟩
    | cons y l ih =>
      intro hy
      obtain ⟨h1, h2⟩ := ih (fun z hz => hy z (List.mem_cons_of_mem _ hz))
      have h3 := hy y List.mem_cons_self
      have h4 : (letInts y).length = y.ents.l.length * 4 + 4 := by
        have key2 : ∀ es : List EntM, (es.flatMap entInts).length = es.length * 4 := by
          intro es
          induction es with
          | nil => rfl
          | cons e es ih2 => rw [List.flatMap_cons, List.length_append, ih2, List.length_cons]; show 4 + _ = _; omega
        unfold letInts
        rw [List.length_append, key2]
        rfl
      have h5 : (letByts y).length = y.ents.l.length + 1 := by unfold letByts; rw [List.length_append, List.length_map]; rfl
      rw [List.flatMap_cons, List.flatMap_cons, List.length_append, List.length_append, List.length_cons, h4, h5]
      omega
  obtain ⟨h1, h2⟩ := key l hy
  exact ⟨by omega, by omega, by rw [List.length_map]; omega⟩
/-- What waits on a link, twice, lies apart. -/
theorem apart_two {w w1 w2 w3 : World} {A2 A4 : Option Addr} {c2 c4 : Nat} {l2 l4 : List LetM} (h2 : Own w1 50 20 A2 l2.length c2 (letsC l2)) (d2 : LetsHd w1 (fun k => Since w k ∧ ¬ inA A2 k) l2) (b2 : ∀ k, inA A2 k → w.heap.size ≤ k) (q1 : Nw w w1)
    (h4 : Own w2 50 20 A4 l4.length c4 (letsC l4)) (d4 : LetsHd w2 (fun k => Since w1 k ∧ ¬ inA A4 k) l4) (b4 : ∀ k, inA A4 k → w1.heap.size ≤ k) (q2 : Nw w1 w2)
    (z2 : ∀ y ∈ l2, LetSz y) (z4 : ∀ y ∈ l4, LetSz y) (o2 : ∀ y ∈ l2, letOk y.x = true) (o4 : ∀ y ∈ l4, letOk y.x = true) (n2 : l2.length ≤ 40) (n4 : l4.length ≤ 40)
    (hw3 : w3 = w2.alloc (.cells #[.slice A2 l2.length c2, .slice A4 l4.length c4] 28)) :
    Calls Tryz.prog 16 #[.slice (some ⟨w2.heap.size, 0, none⟩) 2 2] w3 fun e w' => e = .returned (.bool true) ∧ Nw w w' := by
  have q3 : Nw w2 w3 := by rw [hw3]; exact (Fr.refl (fun _ => False) _).alloc _
  have s1 := q1.size
  have s2 := q2.size
  have hsz : w2.heap.size < w3.heap.size := by
    rw [hw3]
    show _ < (w2.heap.push _).size
    rw [Array.size_push]
    omega
  have a2 : LsHd w3 (fun k => w.heap.size ≤ k ∧ k < w1.heap.size) 50 20 letsC ⟨A2, c2, l2⟩ := ⟨(h2.fr q2 (fun _ _ h => h)).fr q3 (fun _ _ h => h), fun k hk => ⟨b2 k hk, h2.lt k hk⟩⟩
  have a4 : LsHd w3 (fun k => w1.heap.size ≤ k ∧ k < w2.heap.size) 50 20 letsC ⟨A4, c4, l4⟩ := ⟨h4.fr q3 (fun _ _ h => h), fun k hk => ⟨b4 k hk, h4.lt k hk⟩⟩
  have e2 : LetsHd w3 (fun k => w.heap.size ≤ k ∧ k < w1.heap.size) l2 := ((d2.mono (G := fun k => w.heap.size ≤ k ∧ k < w1.heap.size) fun k hk hl => ⟨hk.1, hl⟩).nw q2).nw q3
  have e4 : LetsHd w3 (fun k => w1.heap.size ≤ k ∧ k < w2.heap.size) l4 := (d4.mono (G := fun k => w1.heap.size ≤ k ∧ k < w2.heap.size) fun k hk hl => ⟨hk.1, hl⟩).nw q3
  have hL : Held w3 (fun k => w.heap.size ≤ k ∧ k < w2.heap.size) 50 20 letsC [⟨A2, c2, l2⟩, ⟨A4, c4, l4⟩] := (Held.one a2).append (Held.one a4) (fun k h1 h2 => by omega) (fun k hk _ => by omega) (fun k hk _ => by omega)
  have e : ([⟨A2, c2, l2⟩, ⟨A4, c4, l4⟩] : List (Ls LetM)).flatMap (·.l) = l2 ++ l4 := by simp
  have hH : LetsHd w3 (fun k => w.heap.size ≤ k ∧ k < w2.heap.size) (([⟨A2, c2, l2⟩, ⟨A4, c4, l4⟩] : List (Ls LetM)).flatMap (·.l)) := by
    rw [e]
    exact e2.append e4 (fun k h1 h2 => by omega) (fun k hk _ => by omega) (fun k hk _ => by omega)
  have hok : ∀ y ∈ l2 ++ l4, y.ents.l.length ≤ 30 := fun y hy => by
    have h9 : letOk y.x = true := (List.mem_append.1 hy).elim (o2 y) (o4 y)
    unfold letOk at h9
    simp only [Bool.and_eq_true, decide_eq_true_eq] at h9
    have h8 := h9.2.2.2.1.1
    rw [List.length_map] at h8
    exact h8
  obtain ⟨m1, m2, m3⟩ := lets_fewN (l := l2 ++ l4) (by rw [List.length_append]; omega) hok
  refine (apartLetters_any w3 (· = w2.heap.size) (fun k => w.heap.size ≤ k ∧ k < w2.heap.size) (some ⟨w2.heap.size, 0, none⟩) 2 [⟨A2, c2, l2⟩, ⟨A4, c4, l4⟩] ?_ hL hH (fun k hk => by omega) (by simp) ?_ ?_ ?_ (fun x hx => ?_) 2 rfl).mono fun e w' hh => ⟨hh.1, ((q1.tr q2).tr q3).new hh.2 (fun k hk => hk.1)⟩
  · have := sl_new w2 28 [.slice A2 l2.length c2, .slice A4 l4.length c4] _ rfl
    rw [hw3]
    exact this
  · have e : ([⟨A2, c2, l2⟩, ⟨A4, c4, l4⟩] : List (Ls LetM)).flatMap (fun s => s.l.flatMap letInts) = (l2 ++ l4).flatMap letInts := by simp
    rw [e]; exact m1
  · have e : ([⟨A2, c2, l2⟩, ⟨A4, c4, l4⟩] : List (Ls LetM)).flatMap (fun s => s.l.flatMap letByts) = (l2 ++ l4).flatMap letByts := by simp
    rw [e]; exact m2
  · have e : ([⟨A2, c2, l2⟩, ⟨A4, c4, l4⟩] : List (Ls LetM)).flatMap (fun s => s.l.map LetM.ents) = (l2 ++ l4).map LetM.ents := by simp
    rw [e]; exact m3
  · rw [e] at hx
    rcases List.mem_append.1 hx with hx | hx
    · exact z2 x hx
    · exact z4 x hx
theorem docNew (w : World) (col : Nat → Nat) (c : Nat) (hc : c ≠ 0) : ∃ col', Ext w (w.alloc (.cells #[.slice none 0 0] 30)) col col' c ∧ DocC (w.alloc (.cells #[.slice none 0 0] 30)) col' c w.heap.size 0 [] := by
  have q : Nw w (w.alloc (.cells #[.slice none 0 0] 30)) := (Fr.refl (fun _ => False) w).alloc _
  have hsz : w.heap.size < (w.alloc (.cells #[.slice none 0 0] 30)).heap.size := by
    show _ < (w.heap.push _).size
    rw [Array.size_push]
    omega
  have hD : IsDoc (w.alloc (.cells #[.slice none 0 0] 30)) (fun k => k = w.heap.size) (fun _ => False) ⟨w.heap.size, lsZ⟩ :=
    ⟨Blk.new _ _ _, Own.nil _ _ _, fun k hk => (inA_none k hk).elim, (by intro x hx; cases hx), (by intro x hx; cases hx), rfl, fun _ _ h => h, (by rintro k rfl; exact hsz), fun _ h => h.elim⟩
  obtain ⟨col', h1, h2, _⟩ := doc_step (col := col) hc hD (Nw.on q) (by rintro k rfl; exact .inr (Nat.le_refl _)) (fun _ h => h.elim)
  exact ⟨col', h1, ⟨_, h2, rfl, rfl, Nat.le_refl _⟩⟩
def nrR (W : World) (gn gm : Nat) (ds : List DeedN) (v10 v11 i : Value) (wr : World) : Prop :=
  ∃ k col gc ge, k ≤ ds.length + 1 ∧ i = .int .i64 (k : Nat) ∧ v10 = .pointer (some ⟨gc, 0, none⟩) ∧ v11 = .pointer (some ⟨ge, 0, none⟩) ∧ Aw W wr col ∧ Duo wr col 1 2 gn gm (k + deedT (ds.take k)) ∧ Duo wr col 3 4 gc ge (k + deedT (ds.take k))
def nrQ (W : World) (gn gm gc ge M : Nat) (ds : List DeedN) (i : Value) (wr : World) : Prop :=
  ∃ k col, k ≤ ds.length ∧ i = .int .i64 (k : Nat) ∧ Aw W wr col ∧ Duo wr col 1 2 gn gm M ∧ Duo wr col 3 4 gc ge (M + k + deedT (ds.take k))
set_option maxRecDepth 100000 in
set_option maxHeartbeats 16000000 in
/-- In any world, the deeds in blocks F. -/
theorem runs25_any (W : World) (F : Nat → Prop) (A : Option Addr) (c : Nat) (ds : List DeedN) (h : Sl W F A (deedsN ds)) (he : ∀ x ∈ ds, DeedNIn W F x) (hl : ds.length ≤ 1125899906842624) (fork : Int) (hfk : -9223372036854775808 ≤ fork ∧ fork ≤ 9223372036854775807)
    (B : Option Addr) (c2 : Nat) (es : List DeedN) (h2 : Sl W F B (deedsN es)) (he2 : ∀ x ∈ es, DeedNIn W F x) (hl2 : es.length ≤ 1125899906842624) (hF : ∀ k, F k → k < W.heap.size) :
    Calls Tryz.prog 3 #[.slice A ds.length c, .int .i64 fork, .slice B es.length c2] W fun e w' => e = .returned (.bool true) ∧ Nw W w' := by
  have hl1 := light_any W F A c ds h he hl
  have hli := fun w0 (q : Nw W w0) => light_any w0 F B c2 es (h2.fr q (fun _ _ h => h)) (fun x hx => (he2 x hx).nw q) hl2
  have HE := Lib.hid he
  have HE2 := Lib.hid he2
  have HL1 := Lib.hid hl1
  have HLI := Lib.hid hli
  obtain ⟨n1, hn1⟩ : ∃ n1, n1 = ds.length := ⟨_, rfl⟩
  obtain ⟨n2, hn2⟩ : ∃ n2, n2 = es.length := ⟨_, rfl⟩
  clear he he2 hl1 hli
  go_enter Tryz.func3, Tryz.ntmps3
  go_upto_region 3 with (first | (go_at_call 9; refine (awake_any _).mono ?_; rintro e w9 ⟨rfl, q9⟩) | (go_at_call 8; refine (HLI.out w1 q1).mono ?_; rintro e w2 ⟨b2, rfl, hf2, q2⟩; cases b2) | (go_at_call 8; refine HL1.out.mono ?_; rintro e w1 ⟨b1, rfl, hf1, q1⟩; cases b1))
  · go_ret
    exact ⟨rfl, q1.tr q9⟩
  · go_ret
    exact ⟨rfl, (q1.tr q2).tr q9⟩
  have few1 := hf1 trivial
  have few2 := hf2 trivial
  have hfl : ds.length + deedT ds ≤ 400 := few1.1
  have hfl2 : es.length + deedT es ≤ 400 := few2.1
  have FW1 := Lib.hid few1.2
  have FW2 := Lib.hid few2.2
  have a2 : Aw W w2 (fun _ => 0) := ⟨q1.tr q2, fun _ _ => rfl, fun _ _ => rfl⟩
  have hnw := nNew w2 (fun _ => 0) 1 (by decide)
  clear hf1 hf2 few1 few2 q1 q2 HL1 HLI
  go_upto_region 4 with (go_at_call 10; refine hnw.mono ?_; rintro e w3 ⟨gn, col3, rfl, x3, n3, q3⟩)
  have a3 := a2.step x3 (by decide)
  obtain ⟨col4, x4, d4⟩ := docNew w3 col3 2 (by decide)
  have n4 := n3.ext x4 (by decide) (by decide) (by decide)
  have a4 := a3.step x4 (by decide)
  obtain ⟨w4, hw4⟩ : ∃ w4, w4 = w3.alloc (.cells #[.slice none 0 0] 30) := ⟨_, rfl⟩
  obtain ⟨gm, hgm⟩ : ∃ gm, gm = w3.heap.size := ⟨_, rfl⟩
  rw [← hw4, ← hgm] at d4
  rw [← hw4] at n4 a4
  rw [← hw4, ← hgm]
  clear hw4 hgm x4 x3 n3 q3 a2 a3 hnw
  have hcp := nCopy (by decide) n4 (by omega) 3 (by decide)
  have d4' := d4
  go_upto_region 5 with (go_at_call 11; refine (pick_any _ fork _ (by omega) (by omega) hfk).mono ?_; rintro e w5 ⟨⟨kk, hkk, rfl⟩, rfl⟩)
  go_upto_region 6 with (first | (go_at_call 13; refine (vCopy (by decide) (d4.ext x5 (by decide) (by decide) (by decide)) (by omega) 4 (by decide)).mono ?_; rintro e w6 ⟨ge, col6, rfl, x6, d6, _⟩) | (go_at_call 12; refine hcp.mono ?_; rintro e w5 ⟨gc, col5, rfl, x5, n5, _⟩))
  have a6 := (a4.step x5 (by decide)).step x6 (by decide)
  have U1 : Duo w6 col6 1 2 gn gm 0 := ⟨fun _ => [], [], (n4.ext x5 (by decide) (by decide) (by decide)).ext x6 (by decide) (by decide) (by decide), (d4.ext x5 (by decide) (by decide) (by decide)).ext x6 (by decide) (by decide) (by decide), fun n => rfl⟩
  have U2 : Duo w6 col6 3 4 gc ge 0 := ⟨fun _ => [], [], n5.ext x6 (by decide) (by decide) (by decide), d6, fun n => rfl⟩
  clear a4 n4 d4 d4' hcp x5 x6 n5 d6
  go_wp2_with fail
  go_loopw [10, 11, 12] (fun v10 v11 i wr => nrR W gn gm ds v10 v11 i wr) (fun _ _ i _ => ds.length + 1 - (intOf i).toNat)
  case atStart => exact ⟨0, col6, gc, ge, Nat.zero_le _, rfl, rfl, rfl, a6, U1.more (Nat.zero_le _), U2.more (Nat.zero_le _)⟩
  case round =>
    clear a6 U1 U2
    obtain ⟨k, col, gc2, ge2, hk, rfl, rfl, rfl, aw, U1, U2⟩ := hrel
    obtain ⟨w0, hw0⟩ : ∃ w0, w0 = wr := ⟨_, rfl⟩
    rw [← hw0] at aw U1 U2 ⊢
    clear hw0
    have hTk := deedT_leN ds k
    by_cases hlt : k ≤ ds.length
    · have hi0 : (k : Int) ≤ (ds.length : Int) := by omega
      obtain ⟨N0, hN0⟩ : ∃ N0, N0 = k + deedT (ds.take k) := ⟨_, rfl⟩
      rw [← hN0] at U1 U2
      have hN4 : N0 ≤ 801 := by omega
      go_upto_if 43 with (fail)
      go_cut [10, 11] (fun v10 v11 wx => ∃ col gc ge, v10 = .pointer (some ⟨gc, 0, none⟩) ∧ v11 = .pointer (some ⟨ge, 0, none⟩) ∧ Aw W wx col ∧ Duo wx col 1 2 gn gm N0 ∧ Duo wx col 3 4 gc ge N0)
      case first =>
        by_cases hke : k = kk
        · subst hke
          obtain ⟨p, L, u1, u2, u3⟩ := U1
          have hcp := nCopy (by decide) u1 (by omega) 3 (by decide)
          go_wp2_with (first | (go_at_call 13; refine (vCopy (by decide) (u2.ext x5 (by decide) (by decide) (by decide)) (by omega) 4 (by decide)).mono ?_; rintro e w6 ⟨ge, col6, rfl, x6, d6, _⟩) | (go_at_call 12; refine hcp.mono ?_; rintro e w5 ⟨gc, col5, rfl, x5, n5, _⟩))
          go_meet
          exact ⟨col6, gc, ge, rfl, rfl, (aw.step x5 (by decide)).step x6 (by decide), ⟨p, L, (u1.ext x5 (by decide) (by decide) (by decide)).ext x6 (by decide) (by decide) (by decide), (u2.ext x5 (by decide) (by decide) (by decide)).ext x6 (by decide) (by decide) (by decide), u3⟩, ⟨p, L, n5.ext x6 (by decide) (by decide) (by decide), d6, u3⟩⟩
        · have hie : ¬ (k : Int) = (kk : Int) := by omega
          have hbe : ((k : Int) == (kk : Int)) = false := by simp [hie]
          go_wp2_with fail
          go_meet
          exact ⟨col, gc2, ge2, rfl, rfl, aw, U1, U2⟩
      case rest =>
        obtain ⟨wx, hwx⟩ : ∃ wx, wx = wc := ⟨_, rfl⟩
        rw [← hwx] at hcut ⊢
        clear hwx aw U1 U2
        obtain ⟨col1, gc1, ge1, rfl, rfl, aw, U1, U2⟩ := hcut
        by_cases hlt2 : k < ds.length
        · have hj0 : (k : Int) < (ds.length : Int) := by omega
          obtain ⟨b, o, rfl, _, hbW, hc0⟩ := h.deedN hlt2
          have din := HE.out _ (List.getElem_mem hlt2)
          have dfew := FW1.out _ (List.getElem_mem hlt2)
          have dlen := deedT_take ds k hlt2
          obtain ⟨d, hd⟩ : ∃ d, ds[k] = d := ⟨_, rfl⟩
          rw [hd] at hc0 din dfew dlen
          have hT1 := deedT_leN ds (k + 1)
          have hc : ∀ j u, (deedNL d)[j]? = some u → wx.cell? ⟨b, o + k * 4 + j, none⟩ = some u := fun j u hu => (aw.nw.cell (p := ⟨b, o + k * 4 + j, none⟩) hbW (fun h => h)).trans (hc0 j u hu)
          have hF0 : ∀ j, F j → j < wx.heap.size → CB wx col1 0 j := fun j hj hl => ⟨aw.z j (hF j hj), hl⟩
          have hact := act_any wx col1 1 2 gn gm N0 (by decide) (by decide) (by decide) (by decide) (by decide) (by decide) (by decide) (by omega) U1 aw.cln d din.kind din.way ((din.lets.ls.sl.fr aw.nw (fun _ _ h => h)).mono hF0) (fun x hx => ((din.lets.each x hx).nw aw.nw).mono hF0) (fun x hx => (dfew x hx).sz (by omega)) (by omega)
          have HACT := Lib.hid hact
          have HN0 := Lib.hid hN0
          have HDL := Lib.hid dlen
          clear hd hact hc0 din dfew dlen hN0
          go_wp2_with (first | (refine wl_cells_want (by kernel_rfl) 35 _ rfl b (o + k * 4) rfl _ _ hc Tryz.underlying35 rfl (by kernel_rfl) ?_) | (go_at_call 14; refine HACT.out.mono ?_; rintro e w7 ⟨rfl, col7, x7, U7⟩))
          go_roundw
          case rel =>
            have h9 := HN0.out
            have h10 := HDL.out
            exact ⟨k + 1, col7, gc1, ge1, by omega, by go_num, rfl, rfl, aw.stepS x7 (by decide), U7.more (by omega), (U2.exts x7 (by decide) (by decide) (by decide) (by decide) (by decide)).more (by omega)⟩
          case measure => simp [intOf]; omega
        · have hj0 : ¬ (k : Int) < (ds.length : Int) := by omega
          have hjb : decide ((k : Int) < (ds.length : Int)) = false := decide_eq_false hj0
          have hke : deedT (ds.take k) = deedT (ds.take (k + 1)) := by rw [List.take_of_length_le (by omega), List.take_of_length_le (by omega)]
          have HN0 := Lib.hid hN0
          have HKE := Lib.hid hke
          clear hN0 hke
          go_wp2_with fail
          go_roundw
          case rel =>
            have h9 := HN0.out
            have h10 := HKE.out
            exact ⟨k + 1, col1, gc1, ge1, by omega, by go_num, rfl, rfl, aw, U1.more (by omega), U2.more (by omega)⟩
          case measure => simp [intOf]; omega
    · obtain rfl : k = ds.length + 1 := by omega
      obtain ⟨M, hM⟩ : ∃ M, M = ds.length + 1 + deedT (ds.take (ds.length + 1)) := ⟨_, rfl⟩
      rw [← hM] at U1 U2
      have hM4 : M ≤ 801 := by omega
      have hM9 := Lib.hid hM
      clear hM
      have hsm := same25_any w0 col 1 2 gn gm M (by decide) (by decide) (by omega) U1
      go_upto_region 16 with (go_at_call 15; refine hsm.mono ?_; rintro e w1 ⟨rfl, q1⟩)
      have a1 := aw.tr q1
      have V1 := U1.nw q1 (by decide) (by decide)
      have V2 := U2.nw q1 (by decide) (by decide)
      clear hsm aw U1 U2
      go_wp2_with fail
      go_loopw [13] (fun i wr => nrQ W gn gm gc2 ge2 M es i wr) (fun i _ => es.length - (intOf i).toNat)
      case atStart => exact ⟨0, col, Nat.zero_le _, rfl, a1, V1, V2.more (by omega)⟩
      case round =>
        clear a1 V1 V2
        obtain ⟨k, col1, hk, rfl, aw, U1, U2⟩ := hrel
        have hTk := deedT_leN es k
        by_cases hlt2 : k < es.length
        · have hj0 : (k : Int) < (es.length : Int) := by omega
          obtain ⟨b, o, rfl, _, hbW, hc0⟩ := h2.deedN hlt2
          have din := HE2.out _ (List.getElem_mem hlt2)
          have dfew := FW2.out _ (List.getElem_mem hlt2)
          have dlen := deedT_take es k hlt2
          obtain ⟨d, hd⟩ : ∃ d, es[k] = d := ⟨_, rfl⟩
          rw [hd] at hc0 din dfew dlen
          have hT1 := deedT_leN es (k + 1)
          have hc : ∀ j u, (deedNL d)[j]? = some u → wr.cell? ⟨b, o + k * 4 + j, none⟩ = some u := fun j u hu => (aw.nw.cell (p := ⟨b, o + k * 4 + j, none⟩) hbW (fun h => h)).trans (hc0 j u hu)
          have hF0 : ∀ j, F j → j < wr.heap.size → CB wr col1 0 j := fun j hj hl => ⟨aw.z j (hF j hj), hl⟩
          have hact := act_any wr col1 3 4 gc2 ge2 (M + k + deedT (es.take k)) (by decide) (by decide) (by decide) (by decide) (by decide) (by decide) (by decide) (by omega) U2 aw.cln d din.kind din.way ((din.lets.ls.sl.fr aw.nw (fun _ _ h => h)).mono hF0) (fun x hx => ((din.lets.each x hx).nw aw.nw).mono hF0) (fun x hx => (dfew x hx).sz (by omega)) (by omega)
          have HACT := Lib.hid hact
          have HDL := Lib.hid dlen
          clear hd hact hc0 din dfew dlen
          go_wp2_with (first | (refine wl_load_cells rfl 35 _ rfl b (o + k * 4) rfl _ _ hc Tryz.underlying35 rfl (by kernel_rfl) ?_) | (go_at_call 14; refine HACT.out.mono ?_; rintro e w7 ⟨rfl, col7, x7, U7⟩))
          go_roundw
          case rel =>
            have h10 := HDL.out
            exact ⟨k + 1, col7, by omega, by go_num, aw.stepS x7 (by decide), U1.exts x7 (by decide) (by decide) (by decide) (by decide) (by decide), U7.more (by omega)⟩
          case measure => simp [intOf]; omega
        · obtain rfl : es.length = k := by omega
          obtain ⟨w0, hw0⟩ : ∃ w0, w0 = wr := ⟨_, rfl⟩
          rw [← hw0] at aw U1 U2 ⊢
          clear hw0
          have hcd := fun w1 (q : Nw w0 w1) => same25_any w1 col1 3 4 gc2 ge2 _ (by decide) (by decide) (by omega) (U2.nw q (by decide) (by decide))
          have hnm := fun w1 (q : Nw w0 w1) => same25_any w1 col1 1 2 gn gm _ (by decide) (by decide) (by omega) (U1.nw q (by decide) (by decide))
          have hwt : ∀ w1, Nw w0 w1 → Calls Tryz.prog 17 #[.pointer (some ⟨gn, 0, none⟩), I64 1, I64 2] w1 fun e w' => ∃ A cap n l, e = .returned (.slice A n cap) ∧ n = List.length l ∧ Own w' 50 20 A l.length cap (letsC l) ∧ LetsHd w' (fun k => Since w1 k ∧ ¬ inA A k) l ∧ (∀ k, inA A k → w1.heap.size ≤ k) ∧ Nw w1 w' ∧ (∀ y ∈ l, LetSz y) ∧ (∀ y ∈ l, letOk y.x = true) ∧ l.length ≤ 40 := fun w1 q => by
            obtain ⟨p, L, u1, _, _⟩ := U1
            have hok := u1.ok (1, 2)
            refine (nWaiting (by decide) (u1.nw q (by decide)) 1 2 way12).mono fun e w' hh => ?_
            obtain ⟨A, cap, ys, h1, h2, h3, h4, h5, h6, h7⟩ := hh
            refine ⟨A, cap, _, ys, h1, rfl, h3, h4, h7, h6, h5, fun y hy => hok.1 _ (by rw [← h2]; exact List.mem_map.2 ⟨y, hy, rfl⟩), ?_⟩
            have := hok.2
            rw [← h2, List.length_map] at this
            exact this
          have HCD := Lib.hid hcd
          have HNM := Lib.hid hnm
          have HWT := Lib.hid hwt
          clear hcd hnm hwt
          go_wp2_with (first | (go_at_call 15; refine (HNM.out w6 Q6).mono ?_; rintro e w7 ⟨rfl, q7⟩; have Q7 := Q6.tr q7) | (go_at_call 15; refine (HNM.out w1 Q1).mono ?_; rintro e w2 ⟨rfl, q2⟩; have Q2 := Q1.tr q2) | (go_at_call 15; refine (HCD.out w0 (Fr.refl _ _)).mono ?_; rintro e w1 ⟨rfl, Q1⟩) | (go_at_call 17; refine (HWT.out w3 Q3).mono ?_; rintro e w4 ⟨A4, c4, n4, l4, rfl, hn4, o4, d4, b4, q4, z4, k4, m4⟩; have Q4 := Q3.tr q4; have HL4 := Lib.hid hn4; clear hn4) | (go_at_call 17; refine (HWT.out w2 Q2).mono ?_; rintro e w3 ⟨A3, c3, n3, l3, rfl, hn3, o3, d3, b3, q3, z3, k3, m3⟩; have Q3 := Q2.tr q3; have HL3 := Lib.hid hn3; clear hn3) | (go_at_call 16; rw [HL3.out, HL4.out]; refine (apart_two o3 d3 b3 q3 o4 d4 b4 q4 z3 z4 k3 k4 m3 m4 rfl).mono ?_; rintro e w6 ⟨rfl, q6⟩; have Q6 := Q2.tr q6) | (go_at_call 9; refine (awake_any w7).mono ?_; rintro e w8 ⟨rfl, q8⟩; have Q8 := Q7.tr q8))
          go_ret
          exact ⟨rfl, aw.nw.tr Q8⟩
end Go.Proofs.YtippdjaakcgeoaaGreat

namespace Go.Proofs.YtippdjaakcgeoaaGreat
open Go Go.RowKit

theorem spot_none {w : World} {a : Addr} {v : Value} (h : w.cell? a = some v) : a.spot = none ∧ a.block < w.heap.size := by
  refine ⟨?_, World.block_lt_of_cell? w a h⟩
  unfold World.cell? at h
  split at h
  · split at h
    · cases h
    · rename_i h2; simpa using h2
  · cases h

/-- A slice of integers that came in, as 'open_ints' gives it. -/
def RowIn (k : IntKind) (w : World) (a : Option Addr) (len cap : Nat) (zs : List Int) : Prop :=
  (a = none ∧ len = 0 ∧ cap = 0 ∧ zs = []) ∨
  ∃ x, a = some x ∧ len ≤ cap ∧ cap ≤ maxLen ∧ zs.length = cap ∧ (∀ i, i < zs.length → w.cell? (x.add i) = some (.int k (zs.getD i 0))) ∧ ∀ n ∈ zs, (Lit.int k n).wf = true

theorem RowIn.sl {k : IntKind} {w : World} {a : Option Addr} {len cap : Nat} {zs : List Int} (h : RowIn k w a len cap zs) : (zs.take len).length = len ∧ len ≤ cap ∧ cap ≤ maxLen ∧ Sl w (· < w.heap.size) a ((zs.take len).map (Value.int k)) := by
  rcases h with ⟨rfl, rfl, rfl, rfl⟩ | ⟨x, rfl, hl, hm, hz, hc, _⟩
  · exact ⟨rfl, Nat.le_refl _, by decide, .inl rfl⟩
  · refine ⟨by rw [List.length_take]; omega, hl, hm, ?_⟩
    by_cases he : zs = []
    · subst he; exact .inl (by simp)
    · have hpos : 0 < zs.length := by cases zs with | nil => exact (he rfl).elim | cons _ _ => simp
      have h0 := hc 0 hpos
      rw [show x.add 0 = x from rfl] at h0
      obtain ⟨hs, hb⟩ := spot_none h0
      obtain ⟨b, o, s⟩ := x
      simp only at hs hb
      subst hs
      refine .inr ⟨b, o, rfl, hb, hb, fun j u hu => ?_⟩
      have hj : j < (zs.take len).length := by
        rcases Nat.lt_or_ge j ((zs.take len).map (Value.int k)).length with h | h
        · simpa using h
        · rw [List.getElem?_eq_none h] at hu; cases hu
      rw [List.length_take] at hj
      have h1 := hc j (by omega)
      rw [Addr.add_lit] at h1
      rw [h1, ← hu]
      simp only [List.getElem?_map, List.getElem?_take]
      rw [if_pos (by omega)]
      simp [List.getD, show j < zs.length by omega]

theorem u8_of_wf {n : Int} (h : (Lit.int .u8 n).wf = true) : 0 ≤ n ∧ n ≤ 255 := by
  simpa [Lit.wf, IntKind.min, IntKind.max, IntKind.signed, IntKind.bits] using h
/-- Bytes that came in. -/
theorem RowIn.u8 {w : World} {a : Option Addr} {len cap : Nat} {zs : List Int} (h : RowIn .u8 w a len cap zs) : ∃ bs : List UInt8, bs.length = len ∧ len ≤ cap ∧ cap ≤ maxLen ∧ Sl w (· < w.heap.size) a (bs.map B8) := by
  obtain ⟨h1, h2, h3, h4⟩ := h.sl
  refine ⟨(zs.take len).map fun n => UInt8.ofNat n.toNat, by simpa using h1, h2, h3, ?_⟩
  have e : ((zs.take len).map fun n => UInt8.ofNat n.toNat).map B8 = (zs.take len).map (Value.int .u8) := by
    rw [List.map_map]
    refine List.map_congr_left fun n hn => ?_
    have hw : (Lit.int .u8 n).wf = true := by
      rcases h with ⟨_, _, _, rfl⟩ | ⟨_, _, _, _, _, _, hw⟩
      · simp at hn
      · exact hw n (List.mem_of_mem_take hn)
    have := u8_of_wf hw
    show Value.int .u8 ((UInt8.ofNat n.toNat).toNat : Int) = _
    rw [UInt8.toNat_ofNat']
    congr 1
    omega
  rw [e]
  exact h4
end Go.Proofs.YtippdjaakcgeoaaGreat

namespace Go.Proofs.YtippdjaakcgeoaaGreat
open Go Go.RowKit Go.ChangeShapes Go.WideShapes Go.Deep

section
variable {H : Type} {enc : TypeId × Value → H} {P : Program} {w : World} {held : Bool} {base : Nat}

/-- All that it weighs is within the reach. -/
def Lighter (P : Program) (t : TypeId) (d : DataW H) : Prop := ∀ m ∈ d.weights P t, m ≤ reachBytes

theorem weightsAll_mem {e : TypeId} : ∀ {l : List (DataW H)} {d : DataW H}, d ∈ l → ∀ m ∈ d.weights P e, m ∈ DataW.weightsAll P e l
  | d0 :: l, d, h, m, hm => by
    simp only [DataW.weightsAll, List.mem_append]
    rcases List.mem_cons.1 h with rfl | h
    · exact .inl hm
    · exact .inr (weightsAll_mem h m hm)
theorem Lighter.of_each {ts : List TypeId} {ds : List (DataW H)} (h : (DataW.weightsEach P ts ds).all (· ≤ reachBytes) = true) {j : Nat} {t : TypeId} {d : DataW H} (ht : ts[j]? = some t) (hd : ds[j]? = some d) : Lighter P t d := fun m hm => by
  have := List.all_eq_true.1 h _ (DataW.weights_mem_each ht hd m hm)
  simpa using this

/-- A slice that came in, its elements one cell each. -/
theorem in_list {α : Type} [Inhabited α] (f : α → Value) (Q : α → Prop) {t e : TypeId} {fuel : Nat} {cs : List Value} {x : DataW H × List MemPlace} (ht : P.underlying t = some (.slice e)) (hc : P.cellsOf e = 1)
    (h : DataW.trod enc P w base (fun _ => true) held fuel t cs = some x) (hw : Lighter P t x.1)
    (each : ∀ n v d pl, DataW.trod enc P w base (fun _ => true) held n e [v] = some (d, pl) → Lighter P e d → ∃ x, v = f x ∧ Q x) :
    ∃ (A : Option Addr) (c : Nat) (l : List α), cs = [.slice A l.length c] ∧ l.length ≤ c ∧ c ≤ maxLen ∧ c * P.bytesOf e ≤ reachBytes ∧ Sl w (· < w.heap.size) A (l.map f) ∧ ∀ x ∈ l, Q x := by
  rcases open_slice1 ht hc h with ⟨rfl, rfl⟩ | ⟨a, len, cap, m, n, V, D, Pl, rfl, _, hl, hm, hmm, rfl, hx⟩
  · exact ⟨none, 0, [], rfl, Nat.le_refl _, by decide, by simp [reachBytes], .inl rfl, by simp⟩
  · simp only [if_true] at hmm
    subst hmm
    have hsz : m * P.bytesOf e ≤ reachBytes := by
      have := hw ((len + (m - len)) * P.bytesOf e) (by simp [DataW.weights, ht])
      rwa [show len + (m - len) = m by omega] at this
    have hel : ∀ i, i < len → ∃ x, V i = f x ∧ Q x := fun i hi => by
      refine each n (V i) (D i) (Pl i) (hx i (by omega)).2 fun k hk => hw k ?_
      simp only [DataW.weights, ht, List.mem_cons, List.mem_append]
      exact .inr (.inl (weightsAll_mem (List.mem_map.2 ⟨i, List.mem_range.2 hi, rfl⟩) k hk))
    obtain ⟨X, hX⟩ := choose_lt (α := α) (p := fun i x => V i = f x ∧ Q x) hel
    refine ⟨some a, m, (List.range len).map X, by simp, by simpa using hl, hm, hsz, ?_, fun x hxm => ?_⟩
    · by_cases hz : len = 0
      · subst hz; exact .inl rfl
      · have h0 := (hx 0 (by omega)).1
        rw [show a.add 0 = a from rfl] at h0
        obtain ⟨hs, hb⟩ := spot_none h0
        obtain ⟨b, o, s⟩ := a
        simp only at hs hb
        subst hs
        refine .inr ⟨b, o, rfl, hb, hb, fun j u hu => ?_⟩
        have hj : j < len := by
          rcases Nat.lt_or_ge j len with h | h
          · exact h
          · rw [List.getElem?_eq_none (by simpa using h)] at hu; cases hu
        have h1 := (hx j (by omega)).1
        rw [Addr.add_lit] at h1
        rw [h1, ← hu]
        simp [hj, (hX j hj).1]
    · obtain ⟨i, hi, rfl⟩ := List.mem_map.1 hxm
      exact (hX i (List.mem_range.1 hi)).2

theorem in_ints {t e : TypeId} {k : IntKind} {fuel : Nat} {cs : List Value} {x : DataW H × List MemPlace} (ht : P.underlying t = some (.slice e)) (he : P.underlying e = some (.int k)) (hc : P.cellsOf e = 1)
    (h : DataW.trod enc P w base (fun _ => true) held fuel t cs = some x) (hw : Lighter P t x.1) :
    ∃ (A : Option Addr) (c : Nat) (l : List Int), cs = [.slice A l.length c] ∧ l.length ≤ c ∧ c ≤ maxLen ∧ c * P.bytesOf e ≤ reachBytes ∧ Sl w (· < w.heap.size) A (l.map (Value.int k)) ∧ ∀ x ∈ l, (Lit.int k x).wf = true :=
  in_list (Value.int k) _ ht hc h hw fun n v d pl hd _ => by
    obtain ⟨z, hz, _, hwf⟩ := DataW.trod_int he hd
    simp at hz
    exact ⟨z, hz, hwf⟩
theorem u8_list (l : List Int) (h : ∀ x ∈ l, (Lit.int .u8 x).wf = true) : ∃ bs : List UInt8, bs.length = l.length ∧ bs.map B8 = l.map (Value.int .u8) := by
  refine ⟨l.map fun n => UInt8.ofNat n.toNat, by simp, ?_⟩
  rw [List.map_map]
  refine List.map_congr_left fun n hn => ?_
  have := u8_of_wf (h n hn)
  show Value.int .u8 ((UInt8.ofNat n.toNat).toNat : Int) = _
  rw [UInt8.toNat_ofNat']
  congr 1
  omega
theorem in_bytes {t e : TypeId} {fuel : Nat} {cs : List Value} {x : DataW H × List MemPlace} (ht : P.underlying t = some (.slice e)) (he : P.underlying e = some (.int .u8)) (hc : P.cellsOf e = 1)
    (h : DataW.trod enc P w base (fun _ => true) held fuel t cs = some x) (hw : Lighter P t x.1) :
    ∃ (A : Option Addr) (c : Nat) (l : List UInt8), cs = [.slice A l.length c] ∧ l.length ≤ c ∧ c ≤ maxLen ∧ c * P.bytesOf e ≤ reachBytes ∧ Sl w (· < w.heap.size) A (l.map B8) := by
  obtain ⟨A, c, l, h1, h2, h3, h4, h5, h6⟩ := in_ints ht he hc h hw
  obtain ⟨bs, hl, hb⟩ := u8_list l h6
  exact ⟨A, c, bs, by rw [hl]; exact h1, by rw [hl]; exact h2, h3, h4, by rw [hb]; exact h5⟩
end
end Go.Proofs.YtippdjaakcgeoaaGreat

namespace Go.Proofs.YtippdjaakcgeoaaGreat
open Go Go.RowKit Go.ChangeShapes Go.WideShapes Go.Deep

theorem flat_len {α : Type} (f : α → List Value) (C : Nat) (l : List α) (hC : ∀ x ∈ l, (f x).length = C) : ((l.map f).flatten).length = l.length * C := by
  induction l with
  | nil => simp
  | cons x l ih =>
    simp only [List.map_cons, List.flatten_cons, List.length_append, List.length_cons]
    rw [ih (fun y hy => hC y (by simp [hy])), hC x (by simp), Nat.succ_mul, Nat.add_comm]
theorem flat_at {α : Type} (f : α → List Value) (C : Nat) (l : List α) (hC : ∀ x ∈ l, (f x).length = C) (i j : Nat) (hi : i < l.length) (hj : j < C) : ((l.map f).flatten)[i * C + j]? = (f l[i])[j]? := by
  induction l generalizing i with
  | nil => simp at hi
  | cons x l ih =>
    simp only [List.map_cons, List.flatten_cons]
    have hx := hC x (by simp)
    cases i with
    | zero =>
      rw [Nat.zero_mul, Nat.zero_add, List.getElem?_append_left (by omega)]
      rfl
    | succ i =>
      rw [List.getElem?_append_right (by rw [Nat.succ_mul]; omega), hx]
      have e : (i + 1) * C + j - C = i * C + j := by rw [Nat.succ_mul]; omega
      rw [e, ih (fun y hy => hC y (by simp [hy])) i (by simpa using hi)]
      rfl

section
variable {H : Type} {enc : TypeId × Value → H} {P : Program} {w : World} {held : Bool} {base : Nat}
/-- A slice that came in, its elements of so many cells each. -/
theorem in_many {α : Type} [Inhabited α] (f : α → List Value) (Q : α → Prop) {t e : TypeId} {fuel : Nat} {cs : List Value} {x : DataW H × List MemPlace} (C : Nat) (hC0 : 0 < C) (ht : P.underlying t = some (.slice e)) (hc : P.cellsOf e = C)
    (h : DataW.trod enc P w base (fun _ => true) held fuel t cs = some x) (hw : Lighter P t x.1)
    (each : ∀ n cs' d pl, DataW.trod enc P w base (fun _ => true) held n e cs' = some (d, pl) → cs'.length = C → Lighter P e d → ∃ x, cs' = f x ∧ Q x) :
    ∃ (A : Option Addr) (c : Nat) (l : List α), cs = [.slice A l.length c] ∧ l.length ≤ c ∧ c ≤ maxLen ∧ c * P.bytesOf e ≤ reachBytes ∧ Sl w (· < w.heap.size) A ((l.map f).flatten) ∧ (∀ x ∈ l, (f x).length = C) ∧ ∀ x ∈ l, Q x := by
  rcases open_slice ht h with ⟨rfl, rfl⟩ | ⟨a, len, cap, m, n, D, Pl, rfl, _, hl, hm, hmm, rfl, hx⟩
  · exact ⟨none, 0, [], rfl, Nat.le_refl _, by decide, by simp [reachBytes], .inl rfl, by simp, by simp⟩
  · simp only [if_true] at hmm
    subst hmm
    rw [hc] at hx
    have hsz : m * P.bytesOf e ≤ reachBytes := by
      have := hw ((len + (m - len)) * P.bytesOf e) (by simp [DataW.weights, ht])
      rwa [show len + (m - len) = m by omega] at this
    have hel : ∀ i, i < len → ∃ x : α, (w.cells? base (a.add (i * C)) C = some (f x)) ∧ (f x).length = C ∧ Q x := fun i hi => by
      obtain ⟨cs', h1, h2⟩ := hx i (by omega)
      obtain ⟨_, hlen, _⟩ := World.cells?_some h1
      obtain ⟨x, rfl, hq⟩ := each n cs' (D i) (Pl i) h2 hlen fun k hk => hw k (by
        simp only [DataW.weights, ht, List.mem_cons, List.mem_append]
        exact .inr (.inl (weightsAll_mem (List.mem_map.2 ⟨i, List.mem_range.2 hi, rfl⟩) k hk)))
      exact ⟨x, h1, hlen, hq⟩
    obtain ⟨X, hX⟩ := choose_lt (α := α) (p := fun i x => (w.cells? base (a.add (i * C)) C = some (f x)) ∧ (f x).length = C ∧ Q x) hel
    have hC : ∀ x ∈ (List.range len).map X, (f x).length = C := fun x hxm => by
      obtain ⟨i, hi, rfl⟩ := List.mem_map.1 hxm
      exact (hX i (List.mem_range.1 hi)).2.1
    refine ⟨some a, m, (List.range len).map X, by simp, by simpa using hl, hm, hsz, ?_, hC, fun x hxm => ?_⟩
    · by_cases hz : len = 0
      · subst hz; exact .inl rfl
      · have h0 := (World.cells?_some (hX 0 (by omega)).1).2.2 0 hC0
        have hl0 := (hX 0 (by omega)).2.1
        rw [show (a.add (0 * C)).add 0 = a by rw [Nat.zero_mul]; rfl, List.getElem?_eq_getElem (by omega)] at h0
        obtain ⟨hs, hb⟩ := spot_none h0
        obtain ⟨b, o, s⟩ := a
        simp only at hs hb
        subst hs
        refine .inr ⟨b, o, rfl, hb, hb, fun j u hu => ?_⟩
        have hj : j < len * C := by
          rcases Nat.lt_or_ge j (len * C) with h | h
          · exact h
          · rw [List.getElem?_eq_none (by rw [flat_len f C _ hC]; simpa using h)] at hu; cases hu
        have hd : j = j / C * C + j % C := by rw [Nat.mul_comm]; exact (Nat.div_add_mod j C).symm
        have hi : j / C < len := by rw [Nat.div_lt_iff_lt_mul hC0]; exact hj
        have hr : j % C < C := Nat.mod_lt _ hC0
        have h1 := (World.cells?_some (hX (j / C) hi).1).2.2 (j % C) hr
        rw [Go.Deep.add_add, ← hd, Addr.add_lit] at h1
        rw [h1, ← hu]
        have h2 := flat_at f C ((List.range len).map X) hC (j / C) (j % C) (by simpa using hi) hr
        rw [← hd] at h2
        rw [h2]
        simp
    · obtain ⟨i, hi, rfl⟩ := List.mem_map.1 hxm
      exact (hX i (List.mem_range.1 hi)).2.2
end
end Go.Proofs.YtippdjaakcgeoaaGreat

namespace Go.Proofs.YtippdjaakcgeoaaGreat
open Go Go.RowKit Go.ChangeShapes Go.WideShapes Go.Deep
set_option linter.unusedVariables false

section
variable {H : Type} {enc : TypeId × Value → H} {P : Program} {w : World} {held : Bool} {base : Nat}
theorem Lighter.part {e t : TypeId} {fs : Array Field} {parts : List (DataW H)} {j : Nat} {d : DataW H} (h : Lighter P e (.agg parts)) (he : P.underlying e = some (.struct fs)) (ht : (fs.toList.map (·.type))[j]? = some t) (hd : parts[j]? = some d) : Lighter P t d := fun m hm => h m (by
  simp only [DataW.weights, he]
  exact DataW.weights_mem_each ht hd m hm)
theorem fld {e : TypeId} {fs : Array Field} {fuel : Nat} {cs : List Value} {x : DataW H × List MemPlace} (he : P.underlying e = some (.struct fs)) (h : DataW.trod enc P w base (fun _ => true) held fuel e cs = some x) (hw : Lighter P e x.1)
    (i t o k : Nat) {f : Field} (hi : fs[i]? = some f) (ht : f.type = t) (ho : f.offset = o) (hk : P.cellsOf t = k) :
    ∃ n y, DataW.trod enc P w base (fun _ => true) held n t ((cs.drop o).take k) = some y ∧ Lighter P t y.1 := by
  obtain ⟨xs, n, _, rfl, _, hl, hf⟩ := DataW.trod_struct he h
  have h1 := hf i f hi
  obtain ⟨hil, _⟩ := Array.getElem?_eq_some_iff.1 hi
  have hx : xs[i]? = some (xs[i]'(by omega)) := List.getElem?_eq_getElem _
  rw [hx, ht, ho, hk] at h1
  refine ⟨n, _, h1, hw.part (j := i) he (by simp [hi, ht]) (by simp [hl, hil])⟩
theorem u8_of_wf2 {z : Int} (h : (Lit.int .u8 z).wf = true) : 0 ≤ z ∧ z ≤ 255 := by
  have := h
  simp [Lit.wf, IntKind.min, IntKind.max, IntKind.signed, IntKind.bits] at this
  omega
end
instance : Inhabited EntM := ⟨entMZ⟩
instance : Inhabited LetM := ⟨letMZ⟩
section
variable {H : Type} {enc : TypeId × Value → H} {w : World} {held : Bool} {base : Nat}
theorem in_int {fuel : Nat} {v : Value} {x : DataW H × List MemPlace} (h : DataW.trod enc Tryz.prog w base (fun _ => true) held fuel 3 [v] = some x) : ∃ n : Int, v = I64 n := by
  obtain ⟨s0, e0, _, e2⟩ := DataW.trod_int Tryz.underlying3 h
  injection e0 with e0
  exact ⟨s0, e0⟩
theorem in_u8 {t : TypeId} {fuel : Nat} {v : Value} {x : DataW H × List MemPlace} (ht : Tryz.prog.underlying t = some (.int .u8)) (h : DataW.trod enc Tryz.prog w base (fun _ => true) held fuel t [v] = some x) : ∃ n : Int, v = .int .u8 n ∧ 0 ≤ n ∧ n ≤ 255 := by
  obtain ⟨s0, e0, _, e2⟩ := DataW.trod_int ht h
  injection e0 with e0
  have := u8_of_wf2 e2
  exact ⟨s0, e0, by omega, by omega⟩
theorem in_bool {fuel : Nat} {v : Value} {x : DataW H × List MemPlace} (h : DataW.trod enc Tryz.prog w base (fun _ => true) held fuel 4 [v] = some x) : ∃ b : Bool, v = .bool b := by
  obtain ⟨s0, e0, _⟩ := DataW.trod_bool Tryz.underlying4 h
  injection e0 with e0
  exact ⟨s0, e0⟩
theorem in_ls8 {fuel : Nat} {v : Value} {x : DataW H × List MemPlace} (h : DataW.trod enc Tryz.prog w base (fun _ => true) held fuel 48 [v] = some x) (hw : Lighter Tryz.prog 48 x.1) :
    ∃ s : Ls UInt8, v = s.v ∧ LsIn w (· < w.heap.size) bytesC s ∧ s.l.length ≤ 1125899906842624 := by
  obtain ⟨A, c, l, e7, hc, hm, hr, hs⟩ := in_bytes Tryz.underlying48 Tryz.underlying5 (by kernel_rfl) h hw
  injection e7 with e7
  have hb : Tryz.prog.bytesOf 5 = 1 := by kernel_rfl
  have h2 : reachBytes = 140737488351232 := rfl
  rw [hb, h2] at hr
  exact ⟨⟨A, c, l⟩, e7, ⟨hs, hc, hm⟩, by show l.length ≤ _; omega⟩
theorem in_lsI {fuel : Nat} {v : Value} {x : DataW H × List MemPlace} (h : DataW.trod enc Tryz.prog w base (fun _ => true) held fuel 41 [v] = some x) (hw : Lighter Tryz.prog 41 x.1) :
    ∃ s : Ls Int, v = s.v ∧ LsIn w (· < w.heap.size) intsC s ∧ s.l.length ≤ 1125899906842624 := by
  obtain ⟨A, c, l, e7, hc, hm, hr, hs, _⟩ := in_ints Tryz.underlying41 Tryz.underlying3 (by kernel_rfl) h hw
  injection e7 with e7
  have hb : Tryz.prog.bytesOf 3 = 8 := by kernel_rfl
  have h2 : reachBytes = 140737488351232 := rfl
  rw [hb, h2] at hr
  exact ⟨⟨A, c, l⟩, e7, ⟨hs, hc, hm⟩, by show l.length ≤ _; omega⟩
theorem in_cfg {fuel : Nat} {cs : List Value} {x : DataW H × List MemPlace} (h : DataW.trod enc Tryz.prog w base (fun _ => true) held fuel 45 cs = some x) (hl : cs.length = 4) (hw : Lighter Tryz.prog 45 x.1) :
    ∃ c : CfgM, cs = cfgL c ∧ CfgIn w (· < w.heap.size) c ∧ CfgBd c := by
  match cs, hl with
  | [v0, v1, v2, v3], _ =>
    obtain ⟨n0, y0, h0, l0⟩ := fld Tryz.underlying45 h hw 0 41 0 1 rfl rfl rfl (by kernel_rfl)
    obtain ⟨n1, y1, h1, l1⟩ := fld Tryz.underlying45 h hw 1 41 1 1 rfl rfl rfl (by kernel_rfl)
    obtain ⟨n2, y2, h2, l2⟩ := fld Tryz.underlying45 h hw 2 41 2 1 rfl rfl rfl (by kernel_rfl)
    obtain ⟨n3, y3, h3, l3⟩ := fld Tryz.underlying45 h hw 3 41 3 1 rfl rfl rfl (by kernel_rfl)
    obtain ⟨s0, e0, i0, b0⟩ := in_lsI (show DataW.trod _ _ _ _ _ _ _ _ [v0] = _ from h0) l0
    obtain ⟨s1, e1, i1, b1⟩ := in_lsI (show DataW.trod _ _ _ _ _ _ _ _ [v1] = _ from h1) l1
    obtain ⟨s2, e2, i2, b2⟩ := in_lsI (show DataW.trod _ _ _ _ _ _ _ _ [v2] = _ from h2) l2
    obtain ⟨s3, e3, i3, b3⟩ := in_lsI (show DataW.trod _ _ _ _ _ _ _ _ [v3] = _ from h3) l3
    exact ⟨⟨s0, s1, s2, s3⟩, by rw [e0, e1, e2, e3], ⟨i0, i1, i2, i3⟩, ⟨b0, b1, b2, b3⟩⟩
theorem in_ents {fuel : Nat} {v : Value} {x : DataW H × List MemPlace} (h : DataW.trod enc Tryz.prog w base (fun _ => true) held fuel 43 [v] = some x) (hw : Lighter Tryz.prog 43 x.1) :
    ∃ s : Ls EntM, v = s.v ∧ LsIn w (· < w.heap.size) entsC s ∧ s.l.length ≤ 1125899906842624 ∧ ∀ e ∈ s.l, EntIn w (· < w.heap.size) e ∧ EntBd e := by
  obtain ⟨A, c, l, h1, h2, h3, h4, h5, _, h7⟩ := in_many entF (fun e => EntIn w (· < w.heap.size) e ∧ EntBd e) 7 (by omega) Tryz.underlying43 (by kernel_rfl) h hw fun n cs' d pl hd hlen hwt => by
    match cs', hlen with
    | [v0, v1, v2, v3, v4, v5, v6], _ =>
      obtain ⟨n0, y0, h0, _⟩ := fld Tryz.underlying87 hd hwt 0 3 0 1 rfl rfl rfl (by kernel_rfl)
      obtain ⟨n1, y1, h1, _⟩ := fld Tryz.underlying87 hd hwt 1 85 1 1 rfl rfl rfl (by kernel_rfl)
      obtain ⟨n2, y2, h2, l2⟩ := fld Tryz.underlying87 hd hwt 2 48 2 1 rfl rfl rfl (by kernel_rfl)
      obtain ⟨n3, y3, h3, l3⟩ := fld Tryz.underlying87 hd hwt 3 45 3 4 rfl rfl rfl (by kernel_rfl)
      obtain ⟨t, e0⟩ := in_int (show DataW.trod _ _ _ _ _ _ _ _ [v0] = _ from h0)
      obtain ⟨k, e1, z1⟩ := in_u8 Tryz.underlying85 (show DataW.trod _ _ _ _ _ _ _ _ [v1] = _ from h1)
      obtain ⟨s, e2, i2, b2⟩ := in_ls8 (show DataW.trod _ _ _ _ _ _ _ _ [v2] = _ from h2) l2
      obtain ⟨c, e3, i3, b3⟩ := in_cfg (show DataW.trod _ _ _ _ _ _ _ _ [v3, v4, v5, v6] = _ from h3) rfl l3
      injection e3 with a0 e3
      injection e3 with a1 e3
      injection e3 with a2 e3
      injection e3 with a3 e3
      exact ⟨⟨t, k, s, c⟩, by rw [e0, e1, e2, a0, a1, a2, a3]; rfl, ⟨z1, i2, i3⟩, ⟨b2, b3⟩⟩
  injection h1 with h1
  have hb : Tryz.prog.bytesOf 87 = 136 := by kernel_rfl
  have hr : reachBytes = 140737488351232 := rfl
  rw [hb, hr] at h4
  exact ⟨⟨A, c, l⟩, h1, ⟨h5, h2, h3⟩, by show l.length ≤ _; omega, h7⟩
theorem in_letter {fuel : Nat} {cs : List Value} {x : DataW H × List MemPlace} (h : DataW.trod enc Tryz.prog w base (fun _ => true) held fuel 50 cs = some x) (hl : cs.length = 20) (hw : Lighter Tryz.prog 50 x.1) :
    ∃ y : LetM, cs = letL y ∧ LetIn w (· < w.heap.size) y ∧ LetBd y := by
  match cs, hl with
  | [v0, v1, v2, v3, v4, v5, v6, v7, v8, v9, v10, v11, v12, v13, v14, v15, v16, v17, v18, v19], _ =>
    obtain ⟨n0, y0, h0, _⟩ := fld Tryz.underlying50 h hw 0 42 0 1 rfl rfl rfl (by kernel_rfl)
    obtain ⟨n1, y1, h1, _⟩ := fld Tryz.underlying50 h hw 1 3 1 1 rfl rfl rfl (by kernel_rfl)
    obtain ⟨n2, y2, h2, _⟩ := fld Tryz.underlying50 h hw 2 3 2 1 rfl rfl rfl (by kernel_rfl)
    obtain ⟨n3, y3, h3, _⟩ := fld Tryz.underlying50 h hw 3 3 3 1 rfl rfl rfl (by kernel_rfl)
    obtain ⟨n4, y4, h4, _⟩ := fld Tryz.underlying50 h hw 4 3 4 1 rfl rfl rfl (by kernel_rfl)
    obtain ⟨n5, y5, h5, _⟩ := fld Tryz.underlying50 h hw 5 3 5 1 rfl rfl rfl (by kernel_rfl)
    obtain ⟨n6, y6, h6, _⟩ := fld Tryz.underlying50 h hw 6 3 6 1 rfl rfl rfl (by kernel_rfl)
    obtain ⟨n7, y7, h7, _⟩ := fld Tryz.underlying50 h hw 7 3 7 1 rfl rfl rfl (by kernel_rfl)
    obtain ⟨n8, y8, h8, _⟩ := fld Tryz.underlying50 h hw 8 4 8 1 rfl rfl rfl (by kernel_rfl)
    obtain ⟨n9, y9, h9, l9⟩ := fld Tryz.underlying50 h hw 9 43 9 1 rfl rfl rfl (by kernel_rfl)
    obtain ⟨n10, y10, h10, l10⟩ := fld Tryz.underlying50 h hw 10 47 10 6 rfl rfl rfl (by kernel_rfl)
    obtain ⟨n11, y11, h11, _⟩ := fld Tryz.underlying50 h hw 11 3 16 1 rfl rfl rfl (by kernel_rfl)
    obtain ⟨n12, y12, h12, _⟩ := fld Tryz.underlying50 h hw 12 3 17 1 rfl rfl rfl (by kernel_rfl)
    obtain ⟨n13, y13, h13, _⟩ := fld Tryz.underlying50 h hw 13 3 18 1 rfl rfl rfl (by kernel_rfl)
    obtain ⟨n14, y14, h14, l14⟩ := fld Tryz.underlying50 h hw 14 48 19 1 rfl rfl rfl (by kernel_rfl)
    have h10' : DataW.trod _ _ _ _ _ _ _ _ [v10, v11, v12, v13, v14, v15] = _ := h10
    obtain ⟨m0, u0, g0, _⟩ := fld Tryz.underlying47 h10' l10 0 3 0 1 rfl rfl rfl (by kernel_rfl)
    obtain ⟨m1, u1, g1, _⟩ := fld Tryz.underlying47 h10' l10 1 3 1 1 rfl rfl rfl (by kernel_rfl)
    obtain ⟨m2, u2, g2, k2⟩ := fld Tryz.underlying47 h10' l10 2 45 2 4 rfl rfl rfl (by kernel_rfl)
    obtain ⟨z0, e0, k0⟩ := in_u8 Tryz.underlying42 (show DataW.trod _ _ _ _ _ _ _ _ [v0] = _ from h0)
    obtain ⟨z1, e1⟩ := in_int (show DataW.trod _ _ _ _ _ _ _ _ [v1] = _ from h1)
    obtain ⟨z2, e2⟩ := in_int (show DataW.trod _ _ _ _ _ _ _ _ [v2] = _ from h2)
    obtain ⟨z3, e3⟩ := in_int (show DataW.trod _ _ _ _ _ _ _ _ [v3] = _ from h3)
    obtain ⟨z4, e4⟩ := in_int (show DataW.trod _ _ _ _ _ _ _ _ [v4] = _ from h4)
    obtain ⟨z5, e5⟩ := in_int (show DataW.trod _ _ _ _ _ _ _ _ [v5] = _ from h5)
    obtain ⟨z6, e6⟩ := in_int (show DataW.trod _ _ _ _ _ _ _ _ [v6] = _ from h6)
    obtain ⟨z7, e7⟩ := in_int (show DataW.trod _ _ _ _ _ _ _ _ [v7] = _ from h7)
    obtain ⟨z8, e8⟩ := in_bool (show DataW.trod _ _ _ _ _ _ _ _ [v8] = _ from h8)
    obtain ⟨s9, e9, i9, b9, c9⟩ := in_ents (show DataW.trod _ _ _ _ _ _ _ _ [v9] = _ from h9) l9
    obtain ⟨z10, e10⟩ := in_int (show DataW.trod _ _ _ _ _ _ _ _ [v10] = _ from g0)
    obtain ⟨z11, e11⟩ := in_int (show DataW.trod _ _ _ _ _ _ _ _ [v11] = _ from g1)
    obtain ⟨c12, e12, i12, b12⟩ := in_cfg (show DataW.trod _ _ _ _ _ _ _ _ [v12, v13, v14, v15] = _ from g2) rfl k2
    obtain ⟨z16, e16⟩ := in_int (show DataW.trod _ _ _ _ _ _ _ _ [v16] = _ from h11)
    obtain ⟨z17, e17⟩ := in_int (show DataW.trod _ _ _ _ _ _ _ _ [v17] = _ from h12)
    obtain ⟨z18, e18⟩ := in_int (show DataW.trod _ _ _ _ _ _ _ _ [v18] = _ from h13)
    obtain ⟨s19, e19, i19, b19⟩ := in_ls8 (show DataW.trod _ _ _ _ _ _ _ _ [v19] = _ from h14) l14
    injection e12 with a0 e12
    injection e12 with a1 e12
    injection e12 with a2 e12
    injection e12 with a3 e12
    exact ⟨⟨z0, z1, z2, z3, z4, z5, z6, z7, z8, s9, ⟨z10, z11, c12⟩, z16, z17, z18, s19⟩, by rw [e0, e1, e2, e3, e4, e5, e6, e7, e8, e9, e10, e11, a0, a1, a2, a3, e16, e17, e18, e19], ⟨k0, i9, fun e he => (c9 e he).1, i12, i19⟩, ⟨b9, fun e he => (c9 e he).2, b12, b19⟩⟩
theorem in_letters {fuel : Nat} {v : Value} {x : DataW H × List MemPlace} (h : DataW.trod enc Tryz.prog w base (fun _ => true) held fuel 28 [v] = some x) (hw : Lighter Tryz.prog 28 x.1) :
    ∃ s : Ls LetM, v = s.v ∧ LsIn w (· < w.heap.size) letsC s ∧ s.l.length ≤ 1125899906842624 ∧ ∀ e ∈ s.l, LetIn w (· < w.heap.size) e ∧ LetBd e := by
  obtain ⟨A, c, l, h1, h2, h3, h4, h5, _, h7⟩ := in_many letF (fun e => LetIn w (· < w.heap.size) e ∧ LetBd e) 20 (by omega) Tryz.underlying28 (by kernel_rfl) h hw fun n cs' d pl hd hlen hwt => in_letter hd hlen hwt
  injection h1 with h1
  have hb : Tryz.prog.bytesOf 50 = 256 := by kernel_rfl
  have hr : reachBytes = 140737488351232 := rfl
  rw [hb, hr] at h4
  exact ⟨⟨A, c, l⟩, h1, ⟨h5, h2, h3⟩, by show l.length ≤ _; omega, h7⟩
end
end Go.Proofs.YtippdjaakcgeoaaGreat

namespace Go.Proofs.YtippdjaakcgeoaaGreat
open Go Go.RowKit Go.ChangeShapes Go.WideShapes Go.Deep
set_option linter.unusedVariables false

theorem i64_wfN {n : Int} (h : (Lit.int .i64 n).wf = true) : -9223372036854775808 ≤ n ∧ n ≤ 9223372036854775807 := by
  simpa [Lit.wf, IntKind.min, IntKind.max, IntKind.signed, IntKind.bits] using h
instance : Inhabited DeedN := ⟨⟨0, 0, 0, lsZ⟩⟩
section
variable {H : Type} {enc : TypeId × Value → H} {w : World} {held : Bool} {base : Nat}
theorem in_int2 {fuel : Nat} {v : Value} {x : DataW H × List MemPlace} (h : DataW.trod enc Tryz.prog w base (fun _ => true) held fuel 3 [v] = some x) : ∃ n : Int, v = I64 n ∧ -9223372036854775808 ≤ n ∧ n ≤ 9223372036854775807 := by
  obtain ⟨s0, e0, _, e2⟩ := DataW.trod_int Tryz.underlying3 h
  injection e0 with e0
  exact ⟨s0, e0, by simpa [Lit.wf, IntKind.min, IntKind.max, IntKind.signed, IntKind.bits] using e2⟩
theorem in_deedsN {fuel : Nat} {cs : List Value} {x : DataW H × List MemPlace} (h : DataW.trod enc Tryz.prog w base (fun _ => true) held fuel 22 cs = some x) (hw : Lighter Tryz.prog 22 x.1) :
    ∃ (A : Option Addr) (c : Nat) (l : List DeedN), cs = [.slice A l.length c] ∧ l.length ≤ c ∧ c ≤ maxLen ∧ c * Tryz.prog.bytesOf 35 ≤ reachBytes ∧ Sl w (· < w.heap.size) A (deedsN l) ∧ ∀ d ∈ l, DeedNIn w (· < w.heap.size) d := by
  obtain ⟨A, c, l, h1, h2, h3, h4, h5, _, h7⟩ := in_many deedNF (fun d => DeedNIn w (· < w.heap.size) d) 4 (by omega) Tryz.underlying22 (by kernel_rfl) h hw fun n cs' d pl hd hlen hwt => by
    match cs', hlen with
    | [v0, v1, v2, v3], _ =>
      obtain ⟨n0, y0, h0, _⟩ := fld Tryz.underlying35 hd hwt 0 3 0 1 rfl rfl rfl (by kernel_rfl)
      obtain ⟨n1, y1, h1, _⟩ := fld Tryz.underlying35 hd hwt 1 3 1 1 rfl rfl rfl (by kernel_rfl)
      obtain ⟨n2, y2, h2, _⟩ := fld Tryz.underlying35 hd hwt 2 3 2 1 rfl rfl rfl (by kernel_rfl)
      obtain ⟨n3, y3, h3, l3⟩ := fld Tryz.underlying35 hd hwt 3 28 3 1 rfl rfl rfl (by kernel_rfl)
      obtain ⟨z0, e0, b0⟩ := in_int2 (show DataW.trod _ _ _ _ _ _ _ _ [v0] = _ from h0)
      obtain ⟨z1, e1, b1⟩ := in_int2 (show DataW.trod _ _ _ _ _ _ _ _ [v1] = _ from h1)
      obtain ⟨z2, e2, b2⟩ := in_int2 (show DataW.trod _ _ _ _ _ _ _ _ [v2] = _ from h2)
      obtain ⟨s, e3, i3, b3, c3⟩ := in_letters (show DataW.trod _ _ _ _ _ _ _ _ [v3] = _ from h3) l3
      refine ⟨⟨z0, z1, z2, s⟩, by rw [e0, e1, e2, e3]; rfl, ⟨b0, ⟨?_, ?_⟩, ⟨i3, fun x hx => (c3 x hx).1⟩, fun x hx => (c3 x hx).2, b3⟩⟩
      · simpa [Lit.wf, IntKind.min, IntKind.max, IntKind.signed, IntKind.bits] using b1
      · simpa [Lit.wf, IntKind.min, IntKind.max, IntKind.signed, IntKind.bits] using b2
  exact ⟨A, c, l, h1, h2, h3, h4, h5, h7⟩
end
end Go.Proofs.YtippdjaakcgeoaaGreat
