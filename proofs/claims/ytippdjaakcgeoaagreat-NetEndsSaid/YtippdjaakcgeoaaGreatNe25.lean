/- Lemmas of the walks: BgD, RaC, NvA. (Laid together by shake.py.) -/
import Derived.Test.YtippdjaakcgeoaaGreatNe10
import Derived.Test.YtippdjaakcgeoaaGreatNe14
import Derived.Test.YtippdjaakcgeoaaGreatNe20
import Derived.Test.YtippdjaakcgeoaaGreatNe21
import Derived.Test.YtippdjaakcgeoaaGreatNe24
set_option linter.unusedVariables false
set_option linter.unusedSimpArgs false
namespace Go.Proofs.YtippdjaakcgeoaaGreat
open Go Go.RowKit
set_option linter.unusedVariables false
set_option linter.unusedSimpArgs false
def ApLRel (w : World) (g : Nat) (LL : List (Ls LetM)) (i : Value) (wr : World) : Prop := ∃ k : Nat, k ≤ LL.length ∧ i = .int .i64 k ∧ BagSt w wr g (lvs ((LL.take k).flatMap fun s => s.l.flatMap letInts)) (lvs ((LL.take k).flatMap fun s => s.l.flatMap letByts)) (lvs ((LL.take k).flatMap fun s => s.l.map LetM.ents)) (lvs (LL.take k))
theorem flat_two {α β : Type} (g : Ls α → List β) (l : List (Ls α)) (k : Nat) (h : k < l.length) : ((l.take k).flatMap g).length + (g l[k]).length ≤ (l.flatMap g).length := flat_pre g l k h
set_option maxRecDepth 100000 in
set_option maxHeartbeats 2000000 in
theorem apartLetters_any (w : World) (F0 F : Nat → Prop) (B : Option Addr) (c : Nat) (LL : List (Ls LetM)) (hs : Sl w F0 B (lvs LL)) (hL : Held w F 50 20 letsC LL) (hH : LetsHd w F (LL.flatMap (·.l))) (hF : ∀ k, F k → k < w.heap.size)
    (n1 : LL.length ≤ 1000) (n2 : (LL.flatMap fun s => s.l.flatMap letInts).length ≤ 999000000) (n3 : (LL.flatMap fun s => s.l.flatMap letByts).length ≤ 999000000) (n4 : (LL.flatMap fun s => s.l.map LetM.ents).length ≤ 999000000) (hz : ∀ x ∈ LL.flatMap (·.l), LetSz x) (n : Nat) (hn : n = LL.length) :
    Calls Tryz.prog 16 #[.slice B n c] w fun e w' => e = .returned (.bool true) ∧ Fr F w w' := by
  have HZ := Lib.hid hz
  have HH := Lib.hid hH
  have HL := Lib.hid hL
  have HN := Lib.hid hn
  clear hz hH hL hn
  go_enter Tryz.func16, Tryz.ntmps16
  go_upto_region 2 with (fail)
  obtain ⟨g, hg⟩ : ∃ g, g = w.heap.size := ⟨_, rfl⟩
  obtain ⟨W0, hW0⟩ : ∃ W, W = w.alloc (.cells (bag4 (.slice none 0 0) (.slice none 0 0) (.slice none 0 0) (.slice none 0 0)) 115) := ⟨_, rfl⟩
  have st0 : BagSt w W0 g [] [] [] [] := by rw [hg, hW0]; exact BagSt.new
  have e0 : w.alloc (.cells (#[.slice none 0 0, .slice none 0 0, .slice none 0 0, .slice none 0 0, .slice none 0 0, .slice none 0 0, .slice none 0 0, .slice none 0 0, .slice none 0 0, .slice none 0 0, .slice none 0 0, .slice none 0 0, .slice none 0 0, .slice none 0 0, .slice none 0 0, .slice none 0 0, .slice none 0 0, .slice none 0 0, .slice none 0 0, .slice none 0 0, .slice none 0 0, .slice none 0 0]) 115) = W0 := hW0.symm
  have HG := Lib.hid hg
  have E0 := Lib.hid e0
  clear hg hW0 e0
  rw [← HG.out]
  try rw [E0.out]
  go_wp2_with fail
  go_loopw [4] (fun i wr => ApLRel w g LL i wr) (fun i _ => n - (intOf i).toNat)
  case atStart => exact ⟨0, Nat.zero_le _, rfl, by simpa [lvs] using st0⟩
  case round =>
    clear st0
    obtain ⟨k, hk, rfl, st⟩ := hrel
    by_cases hlt : k < n
    · have hlk : k < LL.length := by rw [← HN.out]; exact hlt
      have hi0 : (k : Int) < (n : Int) := by omega
      have hi1 : decide ((k : Int) < (n : Int)) = true := decide_eq_true hi0
      have hi2 : decide (k < n) = true := decide_eq_true hlt
      obtain ⟨b, o, hA, _, hc⟩ := Sl.get (f := Ls.v) (hs.fr st.new_ (fun _ _ h => h)) hlk
      have hmem : ∀ x ∈ (LL[k]).l, x ∈ LL.flatMap (·.l) := fun x hx => List.mem_flatMap.2 ⟨_, List.getElem_mem hlk, hx⟩
      have hnext : ∀ w', BgTo w wr g ((lvs ((LL.take k).flatMap fun s => s.l.flatMap letInts)) ++ lvs ((LL[k]).l.flatMap letInts)) ((lvs ((LL.take k).flatMap fun s => s.l.flatMap letByts)) ++ lvs ((LL[k]).l.flatMap letByts)) ((lvs ((LL.take k).flatMap fun s => s.l.map LetM.ents)) ++ lvs ((LL[k]).l.map LetM.ents)) (lvs (LL.take k) ++ [.slice (LL[k]).a (LL[k]).l.length (LL[k]).c]) w' → ApLRel w g LL (.int .i64 ((k : Int) + 1)) w' := fun w' h => by
        refine ⟨k + 1, by omega, by go_num, ?_⟩
        have h1 := h.1
        rw [lvs_flat_succ _ _ _ hlk, lvs_flat_succ _ _ _ hlk, lvs_flat_succ _ _ _ hlk]
        have e : lvs (LL.take (k + 1)) = lvs (LL.take k) ++ [(LL[k]).v] := by rw [List.take_succ_eq_append_getElem hlk, lvs_append]; rfl
        rw [e]
        exact h1
      have hl1 := flat_two (fun s : Ls LetM => s.l.flatMap letInts) LL k hlk
      have hl2 := flat_two (fun s : Ls LetM => s.l.flatMap letByts) LL k hlk
      have hl3 := flat_two (fun s : Ls LetM => s.l.map LetM.ents) LL k hlk
      simp only [List.length_map] at hl3
      have hput := putLetters_bag w wr g _ _ _ _ (LL[k]).a (LL[k]).c (LL[k]).l F ((HL.out.each _ (List.getElem_mem hlk)).own.sl.mono fun j hj _ => (HL.out.each _ (List.getElem_mem hlk)).base j hj) (fun x hx => HH.out.each x (hmem x hx)) st (by rw [lvs_len]; omega) (by rw [lvs_len]; omega) (by rw [lvs_len]; omega) (by rw [lvs_len, List.length_take]; omega)
      obtain ⟨s, hse⟩ : ∃ s, LL[k] = s := ⟨_, rfl⟩
      rw [hse] at hc hput hnext
      obtain ⟨sa, sc, sl⟩ := s
      simp only at hc hput hnext
      obtain ⟨sn, hsn⟩ : ∃ n, sl.length = n := ⟨_, rfl⟩
      simp only [Ls.v] at hc
      rw [hsn] at hc hput hnext
      have HNX := Lib.hid hnext
      have HP := Lib.hid hput
      clear hnext hput hse hsn hmem hl1 hl2 hl3 st
      subst hA
      go_wp2_with fail
      refine HP.out.mono ?_
      rintro e w5 ⟨rfl, b5⟩
      have H5 := Lib.hid (HNX.out w5 b5)
      clear b5
      go_wp2_with fail
      refine ⟨H5.out, ?_⟩
      simp [intOf]
      omega
    · have hkn : k = LL.length := by have := HN.out; omega
      rw [hkn, List.take_length] at st
      have e1 : (LL.flatMap fun s => s.l.flatMap letInts) = (LL.flatMap (·.l)).flatMap letInts := by rw [List.flatMap_assoc]
      have e2 : (LL.flatMap fun s => s.l.flatMap letByts) = (LL.flatMap (·.l)).flatMap letByts := by rw [List.flatMap_assoc]
      have e3 : (LL.flatMap fun s => s.l.map LetM.ents) = (LL.flatMap (·.l)).map LetM.ents := by rw [List.map_flatMap]
      rw [e1, e2, e3] at st
      rw [e1] at n2
      rw [e2] at n3
      rw [e3] at n4
      have hap := bagApart4 w wr g F _ _ _ _ st HH.out.ints HH.out.byts HH.out.ents HL.out hF (by omega) (by omega) (by omega) (by omega) (fun s hs => by
          obtain ⟨x, hx, hs⟩ := List.mem_flatMap.1 hs
          have hzx := HZ.out x hx
          rcases List.mem_append.1 hs with hs | hs
          · obtain ⟨e, he, hs⟩ := List.mem_flatMap.1 hs
            have hze := (hzx.each e he).cfg
            simp only [entInts, cfgInts, List.mem_cons, List.not_mem_nil, or_false] at hs
            have := hze.v
            have := hze.o
            have := hze.l
            have := hze.w
            rcases hs with rfl | rfl | rfl | rfl <;> omega
          · have hze := hzx.cfg
            simp only [cfgInts, List.mem_cons, List.not_mem_nil, or_false] at hs
            have := hze.v
            have := hze.o
            have := hze.l
            have := hze.w
            rcases hs with rfl | rfl | rfl | rfl <;> omega) (fun s hs => by
          obtain ⟨x, hx, hs⟩ := List.mem_flatMap.1 hs
          have hzx := HZ.out x hx
          rcases List.mem_append.1 hs with hs | hs
          · obtain ⟨e, he, rfl⟩ := List.mem_map.1 hs
            have := (hzx.each e he).cmd
            omega
          · rw [List.mem_singleton.1 hs]
            have := hzx.bytes
            omega) (fun s hs => by
          obtain ⟨x, hx, rfl⟩ := List.mem_map.1 hs
          have := (HZ.out x hx).ents
          omega) (fun s hs => by
          have h1 := flat_two (fun s : Ls LetM => s.l.map LetM.ents) LL
          obtain ⟨i, hi, rfl⟩ := List.mem_iff_getElem.1 hs
          have h2 := h1 i hi
          simp only [List.length_map] at h2
          rw [e3] at h2
          simp only [List.length_map] at h2 n4
          omega)
      have HAP := Lib.hid hap
      clear hap st hkn e1 e2 e3
      go_wp2_with fail
      refine HAP.out.mono ?_
      rintro e w5 ⟨rfl, f5⟩
      go_wp2_with fail
      go_ret
      exact ⟨rfl, f5⟩
end Go.Proofs.YtippdjaakcgeoaaGreat

namespace Go.Proofs.YtippdjaakcgeoaaGreat
open Go Go.RowKit
set_option linter.unusedVariables false
set_option linter.unusedSimpArgs false

theorem Aw.stepS {w w1 w2 : World} {col col' : Nat → Nat} {D : Nat → Prop} (h : Aw w w1 col) (e : ExtS D w1 w2 col col') (hd : ¬ D 0) : Aw w w2 col' :=
  ⟨e.nw_of h.nw (fun k hk e' => hd (by rw [← h.z k hk]; exact e')), fun k hk => (e.ext k (Nat.lt_of_lt_of_le hk h.nw.size)).trans (h.z k hk), e.cln h.cln⟩
theorem deedT_leN (ds : List DeedN) (k : Nat) : deedT (ds.take k) ≤ deedT ds := by
  have h := List.take_append_drop k ds
  unfold deedT
  conv => rhs; rw [← h, List.map_append, List.sum_append]
  omega
theorem lets_fewN {l : List LetM} (hn : l.length ≤ 80) (hy : ∀ y ∈ l, y.ents.l.length ≤ 30) : (l.flatMap letInts).length ≤ 999000000 ∧ (l.flatMap letByts).length ≤ 999000000 ∧ (l.map LetM.ents).length ≤ 999000000 := by
  have key : ∀ l : List LetM, (∀ y ∈ l, y.ents.l.length ≤ 30) → (l.flatMap letInts).length ≤ l.length * 200 ∧ (l.flatMap letByts).length ≤ l.length * 200 := by
    intro l
    induction l with
    | nil => intro _; exact ⟨Nat.le_refl _, Nat.le_refl _⟩
    | cons y l ih =>
      intro hy
      obtain ⟨h1, h2⟩ := ih (fun z hz => hy z (List.mem_cons_of_mem _ hz))
      have h3 := hy y List.mem_cons_self
      have h4 : (letInts y).length = y.ents.l.length * 4 + 4 := by
        have key2 : ∀ es : List EntM, (es.flatMap entInts).length = es.length * 4 := by
          intro es
          induction es with
          | nil => rfl
          | cons e es ih2 => rw [List.flatMap_cons, List.length_append, ih2, List.length_cons]; show 4 + _ = _; omega
        unfold letInts
        rw [List.length_append, key2]
        rfl
      have h5 : (letByts y).length = y.ents.l.length + 1 := by unfold letByts; rw [List.length_append, List.length_map]; rfl
      rw [List.flatMap_cons, List.flatMap_cons, List.length_append, List.length_append, List.length_cons, h4, h5]
      omega
  obtain ⟨h1, h2⟩ := key l hy
  exact ⟨by omega, by omega, by rw [List.length_map]; omega⟩
/-- What waits on a link, twice, lies apart. -/
theorem apart_two {w w1 w2 w3 : World} {A2 A4 : Option Addr} {c2 c4 : Nat} {l2 l4 : List LetM} (h2 : Own w1 50 20 A2 l2.length c2 (letsC l2)) (d2 : LetsHd w1 (fun k => Since w k ∧ ¬ inA A2 k) l2) (b2 : ∀ k, inA A2 k → w.heap.size ≤ k) (q1 : Nw w w1)
    (h4 : Own w2 50 20 A4 l4.length c4 (letsC l4)) (d4 : LetsHd w2 (fun k => Since w1 k ∧ ¬ inA A4 k) l4) (b4 : ∀ k, inA A4 k → w1.heap.size ≤ k) (q2 : Nw w1 w2)
    (z2 : ∀ y ∈ l2, LetSz y) (z4 : ∀ y ∈ l4, LetSz y) (o2 : ∀ y ∈ l2, letOk y.x = true) (o4 : ∀ y ∈ l4, letOk y.x = true) (n2 : l2.length ≤ 40) (n4 : l4.length ≤ 40)
    (hw3 : w3 = w2.alloc (.cells #[.slice A2 l2.length c2, .slice A4 l4.length c4] 28)) :
    Calls Tryz.prog 16 #[.slice (some ⟨w2.heap.size, 0, none⟩) 2 2] w3 fun e w' => e = .returned (.bool true) ∧ Nw w w' := by
  have q3 : Nw w2 w3 := by rw [hw3]; exact (Fr.refl (fun _ => False) _).alloc _
  have s1 := q1.size
  have s2 := q2.size
  have hsz : w2.heap.size < w3.heap.size := by
    rw [hw3]
    show _ < (w2.heap.push _).size
    rw [Array.size_push]
    omega
  have a2 : LsHd w3 (fun k => w.heap.size ≤ k ∧ k < w1.heap.size) 50 20 letsC ⟨A2, c2, l2⟩ := ⟨(h2.fr q2 (fun _ _ h => h)).fr q3 (fun _ _ h => h), fun k hk => ⟨b2 k hk, h2.lt k hk⟩⟩
  have a4 : LsHd w3 (fun k => w1.heap.size ≤ k ∧ k < w2.heap.size) 50 20 letsC ⟨A4, c4, l4⟩ := ⟨h4.fr q3 (fun _ _ h => h), fun k hk => ⟨b4 k hk, h4.lt k hk⟩⟩
  have e2 : LetsHd w3 (fun k => w.heap.size ≤ k ∧ k < w1.heap.size) l2 := ((d2.mono (G := fun k => w.heap.size ≤ k ∧ k < w1.heap.size) fun k hk hl => ⟨hk.1, hl⟩).nw q2).nw q3
  have e4 : LetsHd w3 (fun k => w1.heap.size ≤ k ∧ k < w2.heap.size) l4 := (d4.mono (G := fun k => w1.heap.size ≤ k ∧ k < w2.heap.size) fun k hk hl => ⟨hk.1, hl⟩).nw q3
  have hL : Held w3 (fun k => w.heap.size ≤ k ∧ k < w2.heap.size) 50 20 letsC [⟨A2, c2, l2⟩, ⟨A4, c4, l4⟩] := (Held.one a2).append (Held.one a4) (fun k h1 h2 => by omega) (fun k hk _ => by omega) (fun k hk _ => by omega)
  have e : ([⟨A2, c2, l2⟩, ⟨A4, c4, l4⟩] : List (Ls LetM)).flatMap (·.l) = l2 ++ l4 := by simp
  have hH : LetsHd w3 (fun k => w.heap.size ≤ k ∧ k < w2.heap.size) (([⟨A2, c2, l2⟩, ⟨A4, c4, l4⟩] : List (Ls LetM)).flatMap (·.l)) := by
    rw [e]
    exact e2.append e4 (fun k h1 h2 => by omega) (fun k hk _ => by omega) (fun k hk _ => by omega)
  have hok : ∀ y ∈ l2 ++ l4, y.ents.l.length ≤ 30 := fun y hy => by
    have h9 : letOk y.x = true := (List.mem_append.1 hy).elim (o2 y) (o4 y)
    unfold letOk at h9
    simp only [Bool.and_eq_true, decide_eq_true_eq] at h9
    have h8 := h9.2.2.2.1.1
    rw [List.length_map] at h8
    exact h8
  obtain ⟨m1, m2, m3⟩ := lets_fewN (l := l2 ++ l4) (by rw [List.length_append]; omega) hok
  refine (apartLetters_any w3 (· = w2.heap.size) (fun k => w.heap.size ≤ k ∧ k < w2.heap.size) (some ⟨w2.heap.size, 0, none⟩) 2 [⟨A2, c2, l2⟩, ⟨A4, c4, l4⟩] ?_ hL hH (fun k hk => by omega) (by simp) ?_ ?_ ?_ (fun x hx => ?_) 2 rfl).mono fun e w' hh => ⟨hh.1, ((q1.tr q2).tr q3).new hh.2 (fun k hk => hk.1)⟩
  · have := sl_new w2 28 [.slice A2 l2.length c2, .slice A4 l4.length c4] _ rfl
    rw [hw3]
    exact this
  · have e : ([⟨A2, c2, l2⟩, ⟨A4, c4, l4⟩] : List (Ls LetM)).flatMap (fun s => s.l.flatMap letInts) = (l2 ++ l4).flatMap letInts := by simp
    rw [e]; exact m1
  · have e : ([⟨A2, c2, l2⟩, ⟨A4, c4, l4⟩] : List (Ls LetM)).flatMap (fun s => s.l.flatMap letByts) = (l2 ++ l4).flatMap letByts := by simp
    rw [e]; exact m2
  · have e : ([⟨A2, c2, l2⟩, ⟨A4, c4, l4⟩] : List (Ls LetM)).flatMap (fun s => s.l.map LetM.ents) = (l2 ++ l4).map LetM.ents := by simp
    rw [e]; exact m3
  · rw [e] at hx
    rcases List.mem_append.1 hx with hx | hx
    · exact z2 x hx
    · exact z4 x hx
theorem docNew (w : World) (col : Nat → Nat) (c : Nat) (hc : c ≠ 0) : ∃ col', Ext w (w.alloc (.cells #[.slice none 0 0] 30)) col col' c ∧ DocC (w.alloc (.cells #[.slice none 0 0] 30)) col' c w.heap.size 0 [] := by
  have q : Nw w (w.alloc (.cells #[.slice none 0 0] 30)) := (Fr.refl (fun _ => False) w).alloc _
  have hsz : w.heap.size < (w.alloc (.cells #[.slice none 0 0] 30)).heap.size := by
    show _ < (w.heap.push _).size
    rw [Array.size_push]
    omega
  have hD : IsDoc (w.alloc (.cells #[.slice none 0 0] 30)) (fun k => k = w.heap.size) (fun _ => False) ⟨w.heap.size, lsZ⟩ :=
    ⟨Blk.new _ _ _, Own.nil _ _ _, fun k hk => (inA_none k hk).elim, (by intro x hx; cases hx), (by intro x hx; cases hx), rfl, fun _ _ h => h, (by rintro k rfl; exact hsz), fun _ h => h.elim⟩
  obtain ⟨col', h1, h2, _⟩ := doc_step (col := col) hc hD (Nw.on q) (by rintro k rfl; exact .inr (Nat.le_refl _)) (fun _ h => h.elim)
  exact ⟨col', h1, ⟨_, h2, rfl, rfl, Nat.le_refl _⟩⟩
def nrR (W : World) (gn gm : Nat) (ds : List DeedN) (v10 v11 i : Value) (wr : World) : Prop :=
  ∃ k col gc ge, k ≤ ds.length + 1 ∧ i = .int .i64 (k : Nat) ∧ v10 = .pointer (some ⟨gc, 0, none⟩) ∧ v11 = .pointer (some ⟨ge, 0, none⟩) ∧ Aw W wr col ∧ Duo wr col 1 2 gn gm (k + deedT (ds.take k)) ∧ Duo wr col 3 4 gc ge (k + deedT (ds.take k))
def nrQ (W : World) (gn gm gc ge M : Nat) (ds : List DeedN) (i : Value) (wr : World) : Prop :=
  ∃ k col, k ≤ ds.length ∧ i = .int .i64 (k : Nat) ∧ Aw W wr col ∧ Duo wr col 1 2 gn gm M ∧ Duo wr col 3 4 gc ge (M + k + deedT (ds.take k))
set_option maxRecDepth 100000 in
set_option maxHeartbeats 16000000 in
/-- In any world, the deeds in blocks F. -/
theorem runs25_any (W : World) (F : Nat → Prop) (A : Option Addr) (c : Nat) (ds : List DeedN) (h : Sl W F A (deedsN ds)) (he : ∀ x ∈ ds, DeedNIn W F x) (hl : ds.length ≤ 1125899906842624) (fork : Int) (hfk : -9223372036854775808 ≤ fork ∧ fork ≤ 9223372036854775807)
    (B : Option Addr) (c2 : Nat) (es : List DeedN) (h2 : Sl W F B (deedsN es)) (he2 : ∀ x ∈ es, DeedNIn W F x) (hl2 : es.length ≤ 1125899906842624) (hF : ∀ k, F k → k < W.heap.size) :
    Calls Tryz.prog 3 #[.slice A ds.length c, .int .i64 fork, .slice B es.length c2] W fun e w' => e = .returned (.bool true) ∧ Nw W w' := by
  have hl1 := light_any W F A c ds h he hl
  have hli := fun w0 (q : Nw W w0) => light_any w0 F B c2 es (h2.fr q (fun _ _ h => h)) (fun x hx => (he2 x hx).nw q) hl2
  have HE := Lib.hid he
  have HE2 := Lib.hid he2
  have HL1 := Lib.hid hl1
  have HLI := Lib.hid hli
  obtain ⟨n1, hn1⟩ : ∃ n1, n1 = ds.length := ⟨_, rfl⟩
  obtain ⟨n2, hn2⟩ : ∃ n2, n2 = es.length := ⟨_, rfl⟩
  clear he he2 hl1 hli
  go_enter Tryz.func3, Tryz.ntmps3
  go_upto_region 3 with (first | (go_at_call 9; refine (awake_any _).mono ?_; rintro e w9 ⟨rfl, q9⟩) | (go_at_call 8; refine (HLI.out w1 q1).mono ?_; rintro e w2 ⟨b2, rfl, hf2, q2⟩; cases b2) | (go_at_call 8; refine HL1.out.mono ?_; rintro e w1 ⟨b1, rfl, hf1, q1⟩; cases b1))
  · go_ret
    exact ⟨rfl, q1.tr q9⟩
  · go_ret
    exact ⟨rfl, (q1.tr q2).tr q9⟩
  have few1 := hf1 trivial
  have few2 := hf2 trivial
  have hfl : ds.length + deedT ds ≤ 400 := few1.1
  have hfl2 : es.length + deedT es ≤ 400 := few2.1
  have FW1 := Lib.hid few1.2
  have FW2 := Lib.hid few2.2
  have a2 : Aw W w2 (fun _ => 0) := ⟨q1.tr q2, fun _ _ => rfl, fun _ _ => rfl⟩
  have hnw := nNew w2 (fun _ => 0) 1 (by decide)
  clear hf1 hf2 few1 few2 q1 q2 HL1 HLI
  go_upto_region 4 with (go_at_call 10; refine hnw.mono ?_; rintro e w3 ⟨gn, col3, rfl, x3, n3, q3⟩)
  have a3 := a2.step x3 (by decide)
  obtain ⟨col4, x4, d4⟩ := docNew w3 col3 2 (by decide)
  have n4 := n3.ext x4 (by decide) (by decide) (by decide)
  have a4 := a3.step x4 (by decide)
  obtain ⟨w4, hw4⟩ : ∃ w4, w4 = w3.alloc (.cells #[.slice none 0 0] 30) := ⟨_, rfl⟩
  obtain ⟨gm, hgm⟩ : ∃ gm, gm = w3.heap.size := ⟨_, rfl⟩
  rw [← hw4, ← hgm] at d4
  rw [← hw4] at n4 a4
  rw [← hw4, ← hgm]
  clear hw4 hgm x4 x3 n3 q3 a2 a3 hnw
  have hcp := nCopy (by decide) n4 (by omega) 3 (by decide)
  have d4' := d4
  go_upto_region 5 with (go_at_call 11; refine (pick_any _ fork _ (by omega) (by omega) hfk).mono ?_; rintro e w5 ⟨⟨kk, hkk, rfl⟩, rfl⟩)
  go_upto_region 6 with (first | (go_at_call 13; refine (vCopy (by decide) (d4.ext x5 (by decide) (by decide) (by decide)) (by omega) 4 (by decide)).mono ?_; rintro e w6 ⟨ge, col6, rfl, x6, d6, _⟩) | (go_at_call 12; refine hcp.mono ?_; rintro e w5 ⟨gc, col5, rfl, x5, n5, _⟩))
  have a6 := (a4.step x5 (by decide)).step x6 (by decide)
  have U1 : Duo w6 col6 1 2 gn gm 0 := ⟨fun _ => [], [], (n4.ext x5 (by decide) (by decide) (by decide)).ext x6 (by decide) (by decide) (by decide), (d4.ext x5 (by decide) (by decide) (by decide)).ext x6 (by decide) (by decide) (by decide), fun n => rfl⟩
  have U2 : Duo w6 col6 3 4 gc ge 0 := ⟨fun _ => [], [], n5.ext x6 (by decide) (by decide) (by decide), d6, fun n => rfl⟩
  clear a4 n4 d4 d4' hcp x5 x6 n5 d6
  go_wp2_with fail
  go_loopw [10, 11, 12] (fun v10 v11 i wr => nrR W gn gm ds v10 v11 i wr) (fun _ _ i _ => ds.length + 1 - (intOf i).toNat)
  case atStart => exact ⟨0, col6, gc, ge, Nat.zero_le _, rfl, rfl, rfl, a6, U1.more (Nat.zero_le _), U2.more (Nat.zero_le _)⟩
  case round =>
    clear a6 U1 U2
    obtain ⟨k, col, gc2, ge2, hk, rfl, rfl, rfl, aw, U1, U2⟩ := hrel
    obtain ⟨w0, hw0⟩ : ∃ w0, w0 = wr := ⟨_, rfl⟩
    rw [← hw0] at aw U1 U2 ⊢
    clear hw0
    have hTk := deedT_leN ds k
    by_cases hlt : k ≤ ds.length
    · have hi0 : (k : Int) ≤ (ds.length : Int) := by omega
      obtain ⟨N0, hN0⟩ : ∃ N0, N0 = k + deedT (ds.take k) := ⟨_, rfl⟩
      rw [← hN0] at U1 U2
      have hN4 : N0 ≤ 801 := by omega
      go_upto_if 43 with (fail)
      go_cut [10, 11] (fun v10 v11 wx => ∃ col gc ge, v10 = .pointer (some ⟨gc, 0, none⟩) ∧ v11 = .pointer (some ⟨ge, 0, none⟩) ∧ Aw W wx col ∧ Duo wx col 1 2 gn gm N0 ∧ Duo wx col 3 4 gc ge N0)
      case first =>
        by_cases hke : k = kk
        · subst hke
          obtain ⟨p, L, u1, u2, u3⟩ := U1
          have hcp := nCopy (by decide) u1 (by omega) 3 (by decide)
          go_wp2_with (first | (go_at_call 13; refine (vCopy (by decide) (u2.ext x5 (by decide) (by decide) (by decide)) (by omega) 4 (by decide)).mono ?_; rintro e w6 ⟨ge, col6, rfl, x6, d6, _⟩) | (go_at_call 12; refine hcp.mono ?_; rintro e w5 ⟨gc, col5, rfl, x5, n5, _⟩))
          go_meet
          exact ⟨col6, gc, ge, rfl, rfl, (aw.step x5 (by decide)).step x6 (by decide), ⟨p, L, (u1.ext x5 (by decide) (by decide) (by decide)).ext x6 (by decide) (by decide) (by decide), (u2.ext x5 (by decide) (by decide) (by decide)).ext x6 (by decide) (by decide) (by decide), u3⟩, ⟨p, L, n5.ext x6 (by decide) (by decide) (by decide), d6, u3⟩⟩
        · have hie : ¬ (k : Int) = (kk : Int) := by omega
          have hbe : ((k : Int) == (kk : Int)) = false := by simp [hie]
          go_wp2_with fail
          go_meet
          exact ⟨col, gc2, ge2, rfl, rfl, aw, U1, U2⟩
      case rest =>
        obtain ⟨wx, hwx⟩ : ∃ wx, wx = wc := ⟨_, rfl⟩
        rw [← hwx] at hcut ⊢
        clear hwx aw U1 U2
        obtain ⟨col1, gc1, ge1, rfl, rfl, aw, U1, U2⟩ := hcut
        by_cases hlt2 : k < ds.length
        · have hj0 : (k : Int) < (ds.length : Int) := by omega
          obtain ⟨b, o, rfl, _, hbW, hc0⟩ := h.deedN hlt2
          have din := HE.out _ (List.getElem_mem hlt2)
          have dfew := FW1.out _ (List.getElem_mem hlt2)
          have dlen := deedT_take ds k hlt2
          obtain ⟨d, hd⟩ : ∃ d, ds[k] = d := ⟨_, rfl⟩
          rw [hd] at hc0 din dfew dlen
          have hT1 := deedT_leN ds (k + 1)
          have hc : ∀ j u, (deedNL d)[j]? = some u → wx.cell? ⟨b, o + k * 4 + j, none⟩ = some u := fun j u hu => (aw.nw.cell (p := ⟨b, o + k * 4 + j, none⟩) hbW (fun h => h)).trans (hc0 j u hu)
          have hF0 : ∀ j, F j → j < wx.heap.size → CB wx col1 0 j := fun j hj hl => ⟨aw.z j (hF j hj), hl⟩
          have hact := act_any wx col1 1 2 gn gm N0 (by decide) (by decide) (by decide) (by decide) (by decide) (by decide) (by decide) (by omega) U1 aw.cln d din.kind din.way ((din.lets.ls.sl.fr aw.nw (fun _ _ h => h)).mono hF0) (fun x hx => ((din.lets.each x hx).nw aw.nw).mono hF0) (fun x hx => (dfew x hx).sz (by omega)) (by omega)
          have HACT := Lib.hid hact
          have HN0 := Lib.hid hN0
          have HDL := Lib.hid dlen
          clear hd hact hc0 din dfew dlen hN0
          go_wp2_with (first | (refine wl_cells_want (by kernel_rfl) 35 _ rfl b (o + k * 4) rfl _ _ hc Tryz.underlying35 rfl (by kernel_rfl) ?_) | (go_at_call 14; refine HACT.out.mono ?_; rintro e w7 ⟨rfl, col7, x7, U7⟩))
          go_roundw
          case rel =>
            have h9 := HN0.out
            have h10 := HDL.out
            exact ⟨k + 1, col7, gc1, ge1, by omega, by go_num, rfl, rfl, aw.stepS x7 (by decide), U7.more (by omega), (U2.exts x7 (by decide) (by decide) (by decide) (by decide) (by decide)).more (by omega)⟩
          case measure => simp [intOf]; omega
        · have hj0 : ¬ (k : Int) < (ds.length : Int) := by omega
          have hjb : decide ((k : Int) < (ds.length : Int)) = false := decide_eq_false hj0
          have hke : deedT (ds.take k) = deedT (ds.take (k + 1)) := by rw [List.take_of_length_le (by omega), List.take_of_length_le (by omega)]
          have HN0 := Lib.hid hN0
          have HKE := Lib.hid hke
          clear hN0 hke
          go_wp2_with fail
          go_roundw
          case rel =>
            have h9 := HN0.out
            have h10 := HKE.out
            exact ⟨k + 1, col1, gc1, ge1, by omega, by go_num, rfl, rfl, aw, U1.more (by omega), U2.more (by omega)⟩
          case measure => simp [intOf]; omega
    · obtain rfl : k = ds.length + 1 := by omega
      obtain ⟨M, hM⟩ : ∃ M, M = ds.length + 1 + deedT (ds.take (ds.length + 1)) := ⟨_, rfl⟩
      rw [← hM] at U1 U2
      have hM4 : M ≤ 801 := by omega
      have hM9 := Lib.hid hM
      clear hM
      have hsm := same25_any w0 col 1 2 gn gm M (by decide) (by decide) (by omega) U1
      go_upto_region 16 with (go_at_call 15; refine hsm.mono ?_; rintro e w1 ⟨rfl, q1⟩)
      have a1 := aw.tr q1
      have V1 := U1.nw q1 (by decide) (by decide)
      have V2 := U2.nw q1 (by decide) (by decide)
      clear hsm aw U1 U2
      go_wp2_with fail
      go_loopw [13] (fun i wr => nrQ W gn gm gc2 ge2 M es i wr) (fun i _ => es.length - (intOf i).toNat)
      case atStart => exact ⟨0, col, Nat.zero_le _, rfl, a1, V1, V2.more (by omega)⟩
      case round =>
        clear a1 V1 V2
        obtain ⟨k, col1, hk, rfl, aw, U1, U2⟩ := hrel
        have hTk := deedT_leN es k
        by_cases hlt2 : k < es.length
        · have hj0 : (k : Int) < (es.length : Int) := by omega
          obtain ⟨b, o, rfl, _, hbW, hc0⟩ := h2.deedN hlt2
          have din := HE2.out _ (List.getElem_mem hlt2)
          have dfew := FW2.out _ (List.getElem_mem hlt2)
          have dlen := deedT_take es k hlt2
          obtain ⟨d, hd⟩ : ∃ d, es[k] = d := ⟨_, rfl⟩
          rw [hd] at hc0 din dfew dlen
          have hT1 := deedT_leN es (k + 1)
          have hc : ∀ j u, (deedNL d)[j]? = some u → wr.cell? ⟨b, o + k * 4 + j, none⟩ = some u := fun j u hu => (aw.nw.cell (p := ⟨b, o + k * 4 + j, none⟩) hbW (fun h => h)).trans (hc0 j u hu)
          have hF0 : ∀ j, F j → j < wr.heap.size → CB wr col1 0 j := fun j hj hl => ⟨aw.z j (hF j hj), hl⟩
          have hact := act_any wr col1 3 4 gc2 ge2 (M + k + deedT (es.take k)) (by decide) (by decide) (by decide) (by decide) (by decide) (by decide) (by decide) (by omega) U2 aw.cln d din.kind din.way ((din.lets.ls.sl.fr aw.nw (fun _ _ h => h)).mono hF0) (fun x hx => ((din.lets.each x hx).nw aw.nw).mono hF0) (fun x hx => (dfew x hx).sz (by omega)) (by omega)
          have HACT := Lib.hid hact
          have HDL := Lib.hid dlen
          clear hd hact hc0 din dfew dlen
          go_wp2_with (first | (refine wl_load_cells rfl 35 _ rfl b (o + k * 4) rfl _ _ hc Tryz.underlying35 rfl (by kernel_rfl) ?_) | (go_at_call 14; refine HACT.out.mono ?_; rintro e w7 ⟨rfl, col7, x7, U7⟩))
          go_roundw
          case rel =>
            have h10 := HDL.out
            exact ⟨k + 1, col7, by omega, by go_num, aw.stepS x7 (by decide), U1.exts x7 (by decide) (by decide) (by decide) (by decide) (by decide), U7.more (by omega)⟩
          case measure => simp [intOf]; omega
        · obtain rfl : es.length = k := by omega
          obtain ⟨w0, hw0⟩ : ∃ w0, w0 = wr := ⟨_, rfl⟩
          rw [← hw0] at aw U1 U2 ⊢
          clear hw0
          have hcd := fun w1 (q : Nw w0 w1) => same25_any w1 col1 3 4 gc2 ge2 _ (by decide) (by decide) (by omega) (U2.nw q (by decide) (by decide))
          have hnm := fun w1 (q : Nw w0 w1) => same25_any w1 col1 1 2 gn gm _ (by decide) (by decide) (by omega) (U1.nw q (by decide) (by decide))
          have hwt : ∀ w1, Nw w0 w1 → Calls Tryz.prog 17 #[.pointer (some ⟨gn, 0, none⟩), I64 1, I64 2] w1 fun e w' => ∃ A cap n l, e = .returned (.slice A n cap) ∧ n = List.length l ∧ Own w' 50 20 A l.length cap (letsC l) ∧ LetsHd w' (fun k => Since w1 k ∧ ¬ inA A k) l ∧ (∀ k, inA A k → w1.heap.size ≤ k) ∧ Nw w1 w' ∧ (∀ y ∈ l, LetSz y) ∧ (∀ y ∈ l, letOk y.x = true) ∧ l.length ≤ 40 := fun w1 q => by
            obtain ⟨p, L, u1, _, _⟩ := U1
            have hok := u1.ok (1, 2)
            refine (nWaiting (by decide) (u1.nw q (by decide)) 1 2 way12).mono fun e w' hh => ?_
            obtain ⟨A, cap, ys, h1, h2, h3, h4, h5, h6, h7⟩ := hh
            refine ⟨A, cap, _, ys, h1, rfl, h3, h4, h7, h6, h5, fun y hy => hok.1 _ (by rw [← h2]; exact List.mem_map.2 ⟨y, hy, rfl⟩), ?_⟩
            have := hok.2
            rw [← h2, List.length_map] at this
            exact this
          have HCD := Lib.hid hcd
          have HNM := Lib.hid hnm
          have HWT := Lib.hid hwt
          clear hcd hnm hwt
          go_wp2_with (first | (go_at_call 15; refine (HNM.out w6 Q6).mono ?_; rintro e w7 ⟨rfl, q7⟩; have Q7 := Q6.tr q7) | (go_at_call 15; refine (HNM.out w1 Q1).mono ?_; rintro e w2 ⟨rfl, q2⟩; have Q2 := Q1.tr q2) | (go_at_call 15; refine (HCD.out w0 (Fr.refl _ _)).mono ?_; rintro e w1 ⟨rfl, Q1⟩) | (go_at_call 17; refine (HWT.out w3 Q3).mono ?_; rintro e w4 ⟨A4, c4, n4, l4, rfl, hn4, o4, d4, b4, q4, z4, k4, m4⟩; have Q4 := Q3.tr q4; have HL4 := Lib.hid hn4; clear hn4) | (go_at_call 17; refine (HWT.out w2 Q2).mono ?_; rintro e w3 ⟨A3, c3, n3, l3, rfl, hn3, o3, d3, b3, q3, z3, k3, m3⟩; have Q3 := Q2.tr q3; have HL3 := Lib.hid hn3; clear hn3) | (go_at_call 16; rw [HL3.out, HL4.out]; refine (apart_two o3 d3 b3 q3 o4 d4 b4 q4 z3 z4 k3 k4 m3 m4 rfl).mono ?_; rintro e w6 ⟨rfl, q6⟩; have Q6 := Q2.tr q6) | (go_at_call 9; refine (awake_any w7).mono ?_; rintro e w8 ⟨rfl, q8⟩; have Q8 := Q7.tr q8))
          go_ret
          exact ⟨rfl, aw.nw.tr Q8⟩
end Go.Proofs.YtippdjaakcgeoaaGreat

namespace Go.Proofs.YtippdjaakcgeoaaGreat
open Go Go.RowKit
set_option linter.unusedVariables false
set_option linter.unusedSimpArgs false

/-- No net: nil, or one without links. -/
def NoNet (w : World) (v : Value) : Prop := v = .pointer none ∨ ∃ g, v = .pointer (some ⟨g, 0, none⟩) ∧ Blk w g 58 #[.map none]
theorem NoNet.nw {w w' : World} {v : Value} (h : NoNet w v) (q : Nw w w') : NoNet w' v := h.imp id fun ⟨g, h1, h2⟩ => ⟨g, h1, h2.fr q (fun h => h)⟩
theorem zKnown (w : World) (v : Value) (h : NoNet w v) : Calls Tryz.prog 49 #[v] w fun e w' => e = .returned (.bool false) ∧ w = w' := by
  rcases h with rfl | ⟨g, rfl, hb⟩
  · exact netKnown_nil w
  · exact netKnown_void w g hb
set_option maxRecDepth 100000 in
set_option maxHeartbeats 4000000 in
theorem zWaits (w : World) (v : Value) (h : NoNet w v) (a b : Int) : Calls Tryz.prog 62 #[v, .agg #[I64 a, I64 b]] w fun e w' => e = .returned (.slice none 0 0) ∧ Nw w w' := by
  obtain ⟨W, hW⟩ : ∃ W, W = w.alloc (.cells #[I64 a, I64 b] 90) := ⟨_, rfl⟩
  have q0 : Nw w W := by rw [hW]; exact (Fr.refl _ w).alloc _
  have hk := zKnown W v (h.nw q0)
  have HW := Lib.hid hW
  clear hW
  go_enter Tryz.func62, Tryz.ntmps62
  go_upto_region 1 with (fail)
  rw [← HW.out]
  go_wp2_with (go_at_call 49; refine hk.mono ?_; rintro e w' ⟨rfl, rfl⟩)
  go_ret
  exact ⟨rfl, q0⟩
set_option maxRecDepth 100000 in
set_option maxHeartbeats 4000000 in
theorem zCopy (w : World) (v : Value) (h : NoNet w v) : Calls Tryz.prog 12 #[v] w fun e w' => e = .returned (.pointer none) ∧ Nw w w' := by
  have hk := zKnown w v h
  go_enter Tryz.func12, Tryz.ntmps12
  go_wp2_with (go_at_call 49; refine hk.mono ?_; rintro e w' ⟨rfl, rfl⟩)
  go_ret
  exact ⟨rfl, Fr.refl _ _⟩
set_option maxRecDepth 100000 in
set_option maxHeartbeats 4000000 in
theorem zMany (w : World) (v : Value) (h : NoNet w v) : Calls Tryz.prog 22 #[v] w fun e w' => e = .returned (I64 0) ∧ Nw w w' := by
  have hk := zKnown w v h
  go_enter Tryz.func22, Tryz.ntmps22
  go_wp2_with (go_at_call 49; refine hk.mono ?_; rintro e w' ⟨rfl, rfl⟩)
  go_ret
  exact ⟨rfl, Fr.refl _ _⟩
set_option maxRecDepth 100000 in
set_option maxHeartbeats 4000000 in
theorem zWaiting (w : World) (v : Value) (h : NoNet w v) (a b : Int) : Calls Tryz.prog 17 #[v, I64 a, I64 b] w fun e w' => ∃ A c, e = .returned (.slice A 0 c) ∧ Nw w w' := by
  have hw := zWaits w v h a b
  have hc : ∀ w1, Nw w w1 → Calls Tryz.prog 51 #[.slice none 0 0] w1 fun e w' => ∃ A c, e = .returned (.slice A 0 c) ∧ Nw w1 w' := fun w1 q => (copied_any w1 (fun _ => True) none 0 [] (Sl.nil _ _ _) (by intro x hx; cases hx) (by intro x hx; cases hx) (by simp)).mono fun e w' hh => by
    obtain ⟨A, c, ys, h1, _, _, _, h3, _⟩ := hh
    exact ⟨A, c, h1, h3⟩
  have HC := Lib.hid hc
  clear hc
  go_enter Tryz.func17, Tryz.ntmps17
  go_wp2_with (first | (go_at_call 62; refine hw.mono ?_; rintro e w1 ⟨rfl, q1⟩) | (go_at_call 51; refine (HC.out w1 q1).mono ?_; rintro e w2 ⟨A, c, rfl, q2⟩))
  go_ret
  exact ⟨A, c, rfl, q1.tr q2⟩
set_option maxRecDepth 100000 in
set_option maxHeartbeats 4000000 in
theorem zTwice (w : World) (v : Value) (h : NoNet w v) (a b : Int) : Calls Tryz.prog 25 #[v, I64 a, I64 b] w fun e w' => e = .returned (.bool false) ∧ Nw w w' := by
  have hw := zWaits w v h a b
  go_enter Tryz.func25, Tryz.ntmps25
  go_wp2_with (go_at_call 62; refine hw.mono ?_; rintro e w1 ⟨rfl, q1⟩)
  go_ret
  exact ⟨rfl, q1⟩
set_option maxRecDepth 100000 in
set_option maxHeartbeats 4000000 in
theorem zForward (w : World) (v : Value) (h : NoNet w v) (a b : Int) : Calls Tryz.prog 26 #[v, I64 a, I64 b] w fun e w' => e = .returned (.bool false) ∧ Nw w w' := by
  have hw := zWaits w v h a b
  go_enter Tryz.func26, Tryz.ntmps26
  go_wp2_with (go_at_call 62; refine hw.mono ?_; rintro e w1 ⟨rfl, q1⟩)
  go_ret
  exact ⟨rfl, q1⟩
set_option maxRecDepth 100000 in
set_option maxHeartbeats 4000000 in
theorem zDeliver (w : World) (v : Value) (h : NoNet w v) (a b : Int) : Calls Tryz.prog 21 #[v, I64 a, I64 b] w fun e w' => e = .returned (.tuple #[.agg (letA letMZ), .bool false]) ∧ Nw w w' := by
  obtain ⟨D, hD⟩ : ∃ D, D = w.heap.size := ⟨_, rfl⟩
  obtain ⟨W0, hW0⟩ : ∃ W, W = w.alloc (.cells #[U8V 0, I64 0, I64 0, I64 0, I64 0, I64 0, I64 0, I64 0, .bool false, .slice none 0 0, I64 0, I64 0, .slice none 0 0, .slice none 0 0, .slice none 0 0, .slice none 0 0, I64 0, I64 0, I64 0, .slice none 0 0] 50) := ⟨_, rfl⟩
  have p0 : Nw w W0 := by rw [hW0]; exact (Fr.refl (fun _ => False) _).alloc _
  have y0 : Blk W0 D 50 #[U8V 0, I64 0, I64 0, I64 0, I64 0, I64 0, I64 0, I64 0, .bool false, .slice none 0 0, I64 0, I64 0, .slice none 0 0, .slice none 0 0, .slice none 0 0, .slice none 0 0, I64 0, I64 0, I64 0, .slice none 0 0] := by rw [hW0, hD]; exact Blk.new _ _ _
  have hN := h.nw p0
  have HD := Lib.hid hD
  have HW0 := Lib.hid hW0
  clear hD hW0
  have hw := zWaits W0 v hN a b
  go_enter Tryz.func21, Tryz.ntmps21
  go_upto_region 1 with (fail)
  rw [← HD.out, ← HW0.out]
  go_upto_region 3 with (go_at_call 62; refine hw.mono ?_; rintro e w1 ⟨rfl, q1⟩)
  have y1 := y0.fr q1 (fun h => h)
  have th := Blk.there (l := [U8V 0, I64 0, I64 0, I64 0, I64 0, I64 0, I64 0, I64 0, .bool false, .slice none 0 0, I64 0, I64 0, .slice none 0 0, .slice none 0 0, .slice none 0 0, .slice none 0 0, I64 0, I64 0, I64 0, .slice none 0 0]) y1 0 20 (by show 0 + 20 ≤ 20; omega)
  have one := letA_one letMZ
  obtain ⟨W1, hW1⟩ : ∃ W, W = w1.setCells D 0 [U8V 0, I64 0, I64 0, I64 0, I64 0, I64 0, I64 0, I64 0, .bool false, .slice none 0 0, I64 0, I64 0, .slice none 0 0, .slice none 0 0, .slice none 0 0, .slice none 0 0, I64 0, I64 0, I64 0, .slice none 0 0] := ⟨_, rfl⟩
  have y2 : Blk W1 D 50 #[U8V 0, I64 0, I64 0, I64 0, I64 0, I64 0, I64 0, I64 0, .bool false, .slice none 0 0, I64 0, I64 0, .slice none 0 0, .slice none 0 0, .slice none 0 0, .slice none 0 0, I64 0, I64 0, I64 0, .slice none 0 0] := by rw [hW1]; exact Blk.setCells (l := [U8V 0, I64 0, I64 0, I64 0, I64 0, I64 0, I64 0, I64 0, .bool false, .slice none 0 0, I64 0, I64 0, .slice none 0 0, .slice none 0 0, .slice none 0 0, .slice none 0 0, I64 0, I64 0, I64 0, .slice none 0 0]) y1 0 [U8V 0, I64 0, I64 0, I64 0, I64 0, I64 0, I64 0, I64 0, .bool false, .slice none 0 0, I64 0, I64 0, .slice none 0 0, .slice none 0 0, .slice none 0 0, .slice none 0 0, I64 0, I64 0, I64 0, .slice none 0 0]
  have m1 : Fr (· = D) w1 W1 := by rw [hW1]; exact (Fr.refl (· = D) _).setCells _ _
  have Q1 : Nw w W1 := (p0.tr q1).new m1 (fun b hb => by have := HD.out; omega)
  have HW1 := Lib.hid hW1
  clear hW1 m1
  go_wp2_with (refine wpList_store_mid rfl 50 _ _ rfl D 0 #[U8V 0, I64 0, I64 0, I64 0, I64 0, I64 0, I64 0, I64 0, .bool false, .slice none 0 0, I64 0, I64 0, .slice none 0 0, .slice none 0 0, .slice none 0 0, .slice none 0 0, I64 0, I64 0, I64 0, .slice none 0 0] rfl rfl th (by kernel_rfl) one ?_; rw [← HW1.out])
  refine bodyPost_ret (v := .tuple #[.agg #[U8V 0, I64 0, I64 0, I64 0, I64 0, I64 0, I64 0, I64 0, .bool false, .slice none 0 0, I64 0, I64 0, .slice none 0 0, .slice none 0 0, .slice none 0 0, .slice none 0 0, I64 0, I64 0, I64 0, .slice none 0 0], .bool false]) ?_ rfl ?_
  · exact results_cell_tmp_row rfl _ _ D 50 _ (0, 0) _ _ rfl rfl y2 Tryz.underlying50 rfl (by kernel_rfl)
  exact ⟨rfl, Q1⟩
set_option maxRecDepth 100000 in
set_option maxHeartbeats 4000000 in
theorem zLose (w : World) (v : Value) (h : NoNet w v) (a b : Int) : Calls Tryz.prog 24 #[v, I64 a, I64 b] w fun e w' => e = .returned (.bool false) ∧ Nw w w' := by
  have hd : Calls Tryz.prog 21 #[v, I64 a, I64 b] w fun e w' => ∃ x : LetM, e = .returned (.tuple #[.agg (letA x), .bool false]) ∧ Nw w w' := (zDeliver w v h a b).mono fun e w' h => ⟨letMZ, h.1, h.2⟩
  go_enter Tryz.func24, Tryz.ntmps24
  go_wp2_with (first | (go_at_call 21; refine hd.mono ?_; rintro e w1 ⟨x, rfl, p1⟩; obtain ⟨D, hD⟩ : ∃ D, D = w1.heap.size := ⟨_, rfl⟩; obtain ⟨V0, hV0⟩ : ∃ V, V = w1.alloc (.cells #[U8V 0, I64 0, I64 0, I64 0, I64 0, I64 0, I64 0, I64 0, .bool false, .slice none 0 0, I64 0, I64 0, .slice none 0 0, .slice none 0 0, .slice none 0 0, .slice none 0 0, I64 0, I64 0, I64 0, .slice none 0 0] 50) := ⟨_, rfl⟩; have q0 : Nw w1 V0 := (by rw [hV0]; exact (Fr.refl (fun _ => False) _).alloc _); have y0 : Blk V0 D 50 #[U8V 0, I64 0, I64 0, I64 0, I64 0, I64 0, I64 0, I64 0, .bool false, .slice none 0 0, I64 0, I64 0, .slice none 0 0, .slice none 0 0, .slice none 0 0, .slice none 0 0, I64 0, I64 0, I64 0, .slice none 0 0] := (by rw [hV0, hD]; exact Blk.new _ _ _); have th := Blk.there (l := [U8V 0, I64 0, I64 0, I64 0, I64 0, I64 0, I64 0, I64 0, .bool false, .slice none 0 0, I64 0, I64 0, .slice none 0 0, .slice none 0 0, .slice none 0 0, .slice none 0 0, I64 0, I64 0, I64 0, .slice none 0 0]) y0 0 20 (by show 0 + 20 ≤ 20; omega); have one := letA_one x; obtain ⟨V1, hV1⟩ : ∃ V, V = V0.setCells D 0 [U8V x.kind, I64 x.group, I64 x.src, I64 x.dst, I64 x.term, I64 x.index, I64 x.logt, I64 x.commit, .bool x.ok, .slice x.ents.a x.ents.l.length x.ents.c, I64 x.base.index, I64 x.base.term, .slice x.base.cfg.v.a x.base.cfg.v.l.length x.base.cfg.v.c, .slice x.base.cfg.o.a x.base.cfg.o.l.length x.base.cfg.o.c, .slice x.base.cfg.l.a x.base.cfg.l.l.length x.base.cfg.l.c, .slice x.base.cfg.w.a x.base.cfg.w.l.length x.base.cfg.w.c, I64 x.size, I64 x.at_, I64 x.tag, .slice x.bytes.a x.bytes.l.length x.bytes.c] := ⟨_, rfl⟩; have m1 : Fr (· = D) V0 V1 := (by rw [hV1]; exact (Fr.refl (· = D) _).setCells _ _); have q1 : Nw w1 V1 := q0.new m1 (fun b hb => by omega); have HD := Lib.hid hD; have HV0 := Lib.hid hV0; have HV1 := Lib.hid hV1; clear hD hV0 hV1 m1 q0 y0) | (rw [← HV0.out, ← HD.out]; refine wpList_store_mid rfl 50 _ _ rfl D 0 #[U8V x.kind, I64 x.group, I64 x.src, I64 x.dst, I64 x.term, I64 x.index, I64 x.logt, I64 x.commit, .bool x.ok, .slice x.ents.a x.ents.l.length x.ents.c, I64 x.base.index, I64 x.base.term, .slice x.base.cfg.v.a x.base.cfg.v.l.length x.base.cfg.v.c, .slice x.base.cfg.o.a x.base.cfg.o.l.length x.base.cfg.o.c, .slice x.base.cfg.l.a x.base.cfg.l.l.length x.base.cfg.l.c, .slice x.base.cfg.w.a x.base.cfg.w.l.length x.base.cfg.w.c, I64 x.size, I64 x.at_, I64 x.tag, .slice x.bytes.a x.bytes.l.length x.bytes.c] rfl rfl th (by kernel_rfl) one ?_; rw [← HV1.out]))
  go_ret
  exact ⟨rfl, p1.tr q1⟩
set_option maxRecDepth 100000 in
set_option maxHeartbeats 4000000 in
theorem zTake (w : World) (v : Value) (h : NoNet w v) (b : Int) : Calls Tryz.prog 23 #[v, I64 b] w fun e w' => e = .returned (.slice none 0 0) ∧ Nw w w' := by
  have hw : ∀ w1, Nw w w1 → ∀ a, _ := fun w1 q a => zWaits w1 v (h.nw q) a b
  have HWT := Lib.hid hw
  clear hw
  go_enter Tryz.func23, Tryz.ntmps23
  go_wp2_with fail
  go_loopw [5, 6] (fun v5 i wr => ∃ k : Nat, k ≤ 5 ∧ i = .int .i64 ((k : Int) + 1) ∧ v5 = .slice none 0 0 ∧ Nw w wr) (fun _ i _ => 6 - (intOf i).toNat)
  case atStart => exact ⟨0, Nat.zero_le _, rfl, rfl, Fr.refl _ _⟩
  case round =>
    obtain ⟨k, hk, rfl, rfl, hq⟩ := hrel
    by_cases hlt : k < 5
    · have hi0 : (k : Int) + 1 ≤ 5 := by omega
      go_wp2_with (go_at_call 62; refine (HWT.out wr hq _).mono ?_; rintro e w1 ⟨rfl, q1⟩)
      go_roundw
      case rel => exact ⟨k + 1, by omega, by go_num, rfl, hq.tr q1⟩
      case measure => simp [intOf]; omega
    · obtain rfl : k = 5 := by omega
      go_wp2_with fail
      go_ret
      exact ⟨rfl, hq⟩
def NwD (W1 : World) (L : Nat → Bool) (B : BkT Nat) (w : World) : Prop := Nw W1 w
set_option maxRecDepth 100000 in
set_option maxHeartbeats 8000000 in
theorem zSend (w : World) (v : Value) (h : NoNet w v) (A : Option Addr) (c : Nat) (x : LetM) (hsl : Sl w (fun _ => True) A (letsC [x])) :
    Calls Tryz.prog 19 #[v, .slice A 1 c] w fun e w' => e = .returned (I64 0) ∧ Nw w w' := by
  go_enter Tryz.func19, Tryz.ntmps19
  go_wp2_with fail
  go_loopw [5, 11] (fun v5 i wr => ∃ k : Nat, k ≤ 1 ∧ i = .int .i64 (k : Nat) ∧ v5 = I64 0 ∧ Nw w wr) (fun _ i _ => 1 - (intOf i).toNat)
  case atStart => exact ⟨0, Nat.zero_le _, rfl, rfl, Fr.refl _ _⟩
  case round =>
    obtain ⟨k, hk, rfl, rfl, hq⟩ := hrel
    by_cases hlt : k < 1
    · obtain rfl : k = 0 := by omega
      obtain ⟨b, o, rfl, _, _, hc0⟩ := (hsl.fr hq (fun _ _ h => h)).let_ (k := 0) (by simp)
      have hc : ∀ j u, (letL x)[j]? = some u → wr.cell? ⟨b, o + j, none⟩ = some u := fun j u hu => by have := hc0 j u hu; simpa using this
      obtain ⟨G, hG⟩ : ∃ G, G = wr.heap.size := ⟨_, rfl⟩
      obtain ⟨V0, hV0⟩ : ∃ V, V = wr.alloc (.cells #[U8V 0, I64 0, I64 0, I64 0, I64 0, I64 0, I64 0, I64 0, .bool false, .slice none 0 0, I64 0, I64 0, .slice none 0 0, .slice none 0 0, .slice none 0 0, .slice none 0 0, I64 0, I64 0, I64 0, .slice none 0 0] 50) := ⟨_, rfl⟩
      have qv0 : Nw wr V0 := by rw [hV0]; exact (Fr.refl (fun _ => False) wr).alloc _
      have g0 : Blk V0 G 50 #[U8V 0, I64 0, I64 0, I64 0, I64 0, I64 0, I64 0, I64 0, .bool false, .slice none 0 0, I64 0, I64 0, .slice none 0 0, .slice none 0 0, .slice none 0 0, .slice none 0 0, I64 0, I64 0, I64 0, .slice none 0 0] := by rw [hV0, hG]; exact Blk.new _ _ _
      obtain ⟨V1, hV1⟩ : ∃ V, V = V0.setCells G 0 [U8V x.kind, I64 x.group, I64 x.src, I64 x.dst, I64 x.term, I64 x.index, I64 x.logt, I64 x.commit, .bool x.ok, .slice x.ents.a x.ents.l.length x.ents.c, I64 x.base.index, I64 x.base.term, .slice x.base.cfg.v.a x.base.cfg.v.l.length x.base.cfg.v.c, .slice x.base.cfg.o.a x.base.cfg.o.l.length x.base.cfg.o.c, .slice x.base.cfg.l.a x.base.cfg.l.l.length x.base.cfg.l.c, .slice x.base.cfg.w.a x.base.cfg.w.l.length x.base.cfg.w.c, I64 x.size, I64 x.at_, I64 x.tag, .slice x.bytes.a x.bytes.l.length x.bytes.c] := ⟨_, rfl⟩
      have g1 : Blk V1 G 50 #[U8V x.kind, I64 x.group, I64 x.src, I64 x.dst, I64 x.term, I64 x.index, I64 x.logt, I64 x.commit, .bool x.ok, .slice x.ents.a x.ents.l.length x.ents.c, I64 x.base.index, I64 x.base.term, .slice x.base.cfg.v.a x.base.cfg.v.l.length x.base.cfg.v.c, .slice x.base.cfg.o.a x.base.cfg.o.l.length x.base.cfg.o.c, .slice x.base.cfg.l.a x.base.cfg.l.l.length x.base.cfg.l.c, .slice x.base.cfg.w.a x.base.cfg.w.l.length x.base.cfg.w.c, I64 x.size, I64 x.at_, I64 x.tag, .slice x.bytes.a x.bytes.l.length x.bytes.c] := by rw [hV1]; exact Blk.setCells (l := [U8V 0, I64 0, I64 0, I64 0, I64 0, I64 0, I64 0, I64 0, .bool false, .slice none 0 0, I64 0, I64 0, .slice none 0 0, .slice none 0 0, .slice none 0 0, .slice none 0 0, I64 0, I64 0, I64 0, .slice none 0 0]) g0 0 [U8V x.kind, I64 x.group, I64 x.src, I64 x.dst, I64 x.term, I64 x.index, I64 x.logt, I64 x.commit, .bool x.ok, .slice x.ents.a x.ents.l.length x.ents.c, I64 x.base.index, I64 x.base.term, .slice x.base.cfg.v.a x.base.cfg.v.l.length x.base.cfg.v.c, .slice x.base.cfg.o.a x.base.cfg.o.l.length x.base.cfg.o.c, .slice x.base.cfg.l.a x.base.cfg.l.l.length x.base.cfg.l.c, .slice x.base.cfg.w.a x.base.cfg.w.l.length x.base.cfg.w.c, I64 x.size, I64 x.at_, I64 x.tag, .slice x.bytes.a x.bytes.l.length x.bytes.c]
      have m1 : Fr (· = G) V0 V1 := by rw [hV1]; exact (Fr.refl (· = G) _).setCells _ _
      have qv1 : Nw wr V1 := qv0.new m1 (fun b hb => by omega)
      have hth := Blk.there (l := [U8V 0, I64 0, I64 0, I64 0, I64 0, I64 0, I64 0, I64 0, .bool false, .slice none 0 0, I64 0, I64 0, .slice none 0 0, .slice none 0 0, .slice none 0 0, .slice none 0 0, I64 0, I64 0, I64 0, .slice none 0 0]) g0 0 20 (by show 0 + 20 ≤ 20; omega)
      have hone := letA_one x
      have HG := Lib.hid hG
      have HV0 := Lib.hid hV0
      have HV1 := Lib.hid hV1
      clear hG hV0 hV1 m1 g0 qv0 hc0
      go_upto_region 5 with (first | (refine wl_load_cells rfl 50 _ rfl b o rfl _ _ hc Tryz.underlying50 rfl (by kernel_rfl) ?_) | (rw [← HG.out, ← HV0.out]; refine wpList_store_mid rfl 50 _ _ rfl G 0 #[U8V x.kind, I64 x.group, I64 x.src, I64 x.dst, I64 x.term, I64 x.index, I64 x.logt, I64 x.commit, .bool x.ok, .slice x.ents.a x.ents.l.length x.ents.c, I64 x.base.index, I64 x.base.term, .slice x.base.cfg.v.a x.base.cfg.v.l.length x.base.cfg.v.c, .slice x.base.cfg.o.a x.base.cfg.o.l.length x.base.cfg.o.c, .slice x.base.cfg.l.a x.base.cfg.l.l.length x.base.cfg.l.c, .slice x.base.cfg.w.a x.base.cfg.w.l.length x.base.cfg.w.c, I64 x.size, I64 x.at_, I64 x.tag, .slice x.bytes.a x.bytes.l.length x.bytes.c] rfl rfl hth (by kernel_rfl) hone ?_; rw [← HV1.out]))
      have c2 : V1.cell? ⟨G, 2, none⟩ = some (I64 x.src) := by simpa using g1.cell 2
      have c3 : V1.cell? ⟨G, 3, none⟩ = some (I64 x.dst) := by simpa using g1.cell 3
      obtain ⟨W2, hW2⟩ : ∃ W, W = V1.alloc (.cells #[I64 x.src, I64 x.dst] 90) := ⟨_, rfl⟩
      have q2 : Nw V1 W2 := by rw [hW2]; exact (Fr.refl (fun _ => False) _).alloc _
      have hz : ∀ w9, Nw W2 w9 → _ := fun w9 q9 => zKnown w9 v (h.nw (((hq.tr qv1).tr q2).tr q9))
      have HZ := Lib.hid hz
      have HW2 := Lib.hid hW2
      clear hW2 hc hz
      go_upto_region 6 with (fail)
      rw [← HW2.out]
      refine wp_region_effT (NwD W2) (fun _ => 0) (by kernel_rfl) (by kernel_rfl) ((Fr.refl (fun _ => False) W2).drew) ?_
      apply wpEffT_cons
      focus
        intro B L w9 hL hD hC
        refine .inl ⟨by rfl, ?_⟩
        unfold effAt
        go_simp
        exact ⟨rfl, hC⟩
      simp only [Act.put, List.setIfInBounds_toArray, List.set_cons_zero, List.set_cons_succ]
      apply wpEffT_cons
      focus
        intro B L w9 hL hD hC
        have q9 : Nw W2 w9 := hC
        refine .inl ⟨by rfl, ?_⟩
        unfold effAt
        go_simp
        refine (HZ.out w9 q9).mono ?_
        rintro e w8 ⟨rfl, rfl⟩
        exact ⟨rfl, hC⟩
      simp only [Act.put, List.setIfInBounds_toArray, List.set_cons_zero, List.set_cons_succ]
      apply wpEffT_cons
      focus
        intro B L w9 hL hD hC
        refine .inl ⟨by rfl, ?_⟩
        unfold effAt
        go_simp
        exact ⟨rfl, hC⟩
      simp only [Act.put, List.setIfInBounds_toArray, List.set_cons_zero, List.set_cons_succ]
      apply wpEffT_cons
      focus
        intro B L wz hL hD hC
        exact .inr ⟨by rfl, rfl, hC⟩
      simp only [Act.put, List.setIfInBounds_toArray, List.set_cons_zero, List.set_cons_succ]
      apply wpEffT_cons
      focus
        intro B L wz hL hD hC
        exact .inr ⟨by rfl, rfl, hC⟩
      simp only [Act.put, List.setIfInBounds_toArray, List.set_cons_zero, List.set_cons_succ]
      apply wpEffT_cons
      focus
        intro B L wz hL hD hC
        exact .inr ⟨by rfl, rfl, hC⟩
      simp only [Act.put, List.setIfInBounds_toArray, List.set_cons_zero, List.set_cons_succ]
      apply wpEffT_cons
      focus
        intro B L w9 hL hD hC
        refine .inl ⟨by rfl, ?_⟩
        unfold effAt
        go_simp
        exact ⟨rfl, hC⟩
      simp only [Act.put, List.setIfInBounds_toArray, List.set_cons_zero, List.set_cons_succ]
      apply wpEffT_cons
      focus
        intro B L w9 hL hD hC
        refine .inl ⟨by rfl, ?_⟩
        unfold effAt
        go_simp
        exact ⟨rfl, hC⟩
      simp only [Act.put, List.setIfInBounds_toArray, List.set_cons_zero, List.set_cons_succ]
      apply wpEffT_cons
      focus
        intro B L wz hL hD hC
        exact .inr ⟨by rfl, rfl, hC⟩
      simp only [Act.put, List.setIfInBounds_toArray, List.set_cons_zero, List.set_cons_succ]
      apply wpEffT_cons
      focus
        intro B L wz hL hD hC
        exact .inr ⟨by rfl, rfl, hC⟩
      simp only [Act.put, List.setIfInBounds_toArray, List.set_cons_zero, List.set_cons_succ]
      apply wpEffT_cons
      focus
        intro B L wz hL hD hC
        exact .inr ⟨by rfl, rfl, hC⟩
      simp only [Act.put, List.setIfInBounds_toArray, List.set_cons_zero, List.set_cons_succ]
      apply wpEffT_cons
      focus
        intro B L wz hL hD hC
        exact .inr ⟨by rfl, rfl, hC⟩
      simp only [Act.put, List.setIfInBounds_toArray, List.set_cons_zero, List.set_cons_succ]
      apply wpEffT_cons
      focus
        intro B L wz hL hD hC
        exact .inr ⟨by rfl, rfl, hC⟩
      simp only [Act.put, List.setIfInBounds_toArray, List.set_cons_zero, List.set_cons_succ]
      apply wpEffT_cons
      focus
        intro B L wz hL hD hC
        exact .inr ⟨by rfl, rfl, hC⟩
      simp only [Act.put, List.setIfInBounds_toArray, List.set_cons_zero, List.set_cons_succ]
      apply wpEffT_cons
      focus
        intro B L wz hL hD hC
        exact .inr ⟨by rfl, rfl, hC⟩
      simp only [Act.put, List.setIfInBounds_toArray, List.set_cons_zero, List.set_cons_succ]
      apply wpEffT_cons
      focus
        intro B L wz hL hD hC
        exact .inr ⟨by rfl, rfl, hC⟩
      simp only [Act.put, List.setIfInBounds_toArray, List.set_cons_zero, List.set_cons_succ]
      apply wpEffT_cons
      focus
        intro B L wz hL hD hC
        exact .inr ⟨by rfl, rfl, hC⟩
      simp only [Act.put, List.setIfInBounds_toArray, List.set_cons_zero, List.set_cons_succ]
      apply wpEffT_cons
      focus
        intro B L w9 hL hD hC
        refine .inl ⟨by rfl, ?_⟩
        unfold effAt
        go_simp
        exact ⟨rfl, hC⟩
      simp only [Act.put, List.setIfInBounds_toArray, List.set_cons_zero, List.set_cons_succ]
      refine wpEffT_nil fun B wz hC => ?_
      have q6 : Nw W2 wz := hC
      clear hC
      go_wp2_with fail
      go_roundw
      case rel => exact ⟨1, Nat.le_refl _, by go_num, rfl, ((hq.tr qv1).tr q2).tr q6⟩
      case measure => simp [intOf]
    · obtain rfl : k = 1 := by omega
      go_wp2_with fail
      go_ret
      exact ⟨rfl, hq⟩
end Go.Proofs.YtippdjaakcgeoaaGreat
