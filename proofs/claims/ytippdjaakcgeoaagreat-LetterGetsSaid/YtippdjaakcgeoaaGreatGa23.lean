/- Lemmas of the walks: LcP, LcA, Open, Frm. (Laid together by shake.py.) -/
import Derived.Deep.Slices
import Derived.SizedLaws
import Derived.ChangeSlices
import Derived.SliceStrings
import Derived.OpenShut
import Derived.ShutString
import Derived.ChangeOld
import Derived.Test.YtippdjaakcgeoaaGreatGa01
import Derived.Test.YtippdjaakcgeoaaGreatGa05
import Derived.Test.YtippdjaakcgeoaaGreatGa06
import Derived.Test.YtippdjaakcgeoaaGreatGa10
import Derived.Test.YtippdjaakcgeoaaGreatGa20
import Derived.Test.YtippdjaakcgeoaaGreatGa22
set_option linter.unusedVariables false
set_option linter.unusedSimpArgs false
namespace Go.Proofs.YtippdjaakcgeoaaGreat
open Go Go.RowKit
set_option linter.unusedVariables false
set_option linter.unusedSimpArgs false
def getEr (r : Option (List LetF)) : Int := if r.isSome then 0 else 4
theorem GetLTo.one {w w' : World} {r : Option (List LetF)} {e : Ending} (h : GetLTo w r e w') : ∃ s : Ls LetM, e = .returned (.tuple #[.slice s.a s.l.length s.c, .int .i64 (getEr r)]) ∧ s.l.map LetM.x = r.getD [] ∧ LsOwn w w' 50 20 letsC s ∧ LetsHd w' (fun j => w.heap.size ≤ j) s.l ∧ (∀ y ∈ s.l, LetSz y) ∧ Nw w w' := by
  obtain ⟨hq, h⟩ := h
  cases r with
  | none => exact ⟨lsZ, h, rfl, ⟨Own.nil _ _ _, fun k hk => (inA_none k hk).elim⟩, LetsHd.nil _ _, fun _ h => (by cases h), hq⟩
  | some l =>
    obtain ⟨s, h1, h2, h3, h4, h5⟩ := h
    exact ⟨s, h1, h2, h3, h4, h5, hq⟩
theorem GetRTo.one {w w' : World} {r : Option (List LetF)} {e : Ending} (h : GetRTo w r e w') : ∃ s : Ls LetM, e = .returned (.tuple #[.slice s.a s.l.length s.c, .int .i64 (getEr r)]) ∧ s.l.map LetM.x = r.getD [] ∧ LsOwn w w' 50 20 letsC s ∧ (∀ y ∈ s.l, LetIn w' (fun j => w.heap.size ≤ j) y) ∧ Nw w w' := by
  obtain ⟨hq, h⟩ := h
  cases r with
  | none => exact ⟨lsZ, h, rfl, ⟨Own.nil _ _ _, fun k hk => (inA_none k hk).elim⟩, fun _ h => (by cases h), hq⟩
  | some l =>
    obtain ⟨s, h1, h2, h3, h4, h5⟩ := h
    exact ⟨s, h1, h2, h3, h4, hq⟩
theorem flatMap_le {α β : Type} (g : α → List β) (l : List α) (n : Nat) (h : ∀ x ∈ l, (g x).length ≤ n) : (l.flatMap g).length ≤ l.length * n := by
  induction l with
  | nil => simp
  | cons a l ih =>
    rw [List.flatMap_cons, List.length_append, List.length_cons, Nat.succ_mul]
    have h1 := h a List.mem_cons_self
    have h2 := ih (fun x hx => h x (List.mem_cons_of_mem _ hx))
    omega
theorem letsB_long (l : List LetF) : l.length ≤ (letsB l).length := by
  have h1 : ∀ l : List LetF, l.length ≤ ((l.map letB).flatten).length := by
    intro l
    induction l with
    | nil => simp
    | cons x l ih =>
      rw [List.map_cons, List.flatten_cons, List.length_append, List.length_cons]
      have h2 : 1 ≤ (letB x).length := by
        unfold letB
        rw [List.length_append]
        have h3 := encAll_len (headNs x)
        have h4 : (headNs x).length = 8 := rfl
        omega
      omega
  unfold letsB
  rw [List.length_append]
  have := h1 l
  omega
/-- What is read of few bytes is little. -/
theorem get_few {b : List UInt8} {r : Option (List LetF)} (hr : letsGet headP b = r) (hb : b.length ≤ 3000) {l : List LetM} (hl : l.map LetM.x = r.getD []) : l.length ≤ 3000 ∧ ∀ y ∈ l, y.ents.l.length ≤ 30 := by
  cases r with
  | none =>
    have : l = [] := List.map_eq_nil_iff.1 hl
    subst this
    exact ⟨by simp, fun _ h => by cases h⟩
  | some m =>
    obtain ⟨h1, h2, _⟩ := letsGet_inv headP_ok hr
    have hl' : l.map LetM.x = m := hl
    have h3 := letsB_long m
    rw [h2] at h3
    have h4 : l.length = m.length := by rw [← hl', List.length_map]
    refine ⟨by omega, fun y hy => ?_⟩
    have h5 := (letsOk_iff m).1 h1 y.x (by rw [← hl']; exact List.mem_map.2 ⟨y, hy, rfl⟩)
    have h6 := ((letOk_iff _).1 h5)
    have h7 : y.x.ents.length ≤ 30 := by
      unfold letOk at h5
      simp only [Bool.and_eq_true, decide_eq_true_eq] at h5
      exact h5.2.2.2.1.1
    rwa [List.length_map] at h7
theorem lets_few {l : List LetM} (h : l.length ≤ 6000 ∧ ∀ y ∈ l, y.ents.l.length ≤ 3000) : (l.flatMap letInts).length ≤ 100000000 ∧ (l.flatMap letByts).length ≤ 100000000 ∧ (l.map LetM.ents).length ≤ 100000000 := by
  refine ⟨Nat.le_trans (flatMap_le _ _ 12004 fun x hx => ?_) (by omega), Nat.le_trans (flatMap_le _ _ 3001 fun x hx => ?_) (by omega), by rw [List.length_map]; omega⟩
  · rw [letInts_len]; have := h.2 x hx; omega
  · rw [letByts_len]; have := h.2 x hx; omega
end Go.Proofs.YtippdjaakcgeoaaGreat

namespace Go.Proofs.YtippdjaakcgeoaaGreat
open Go Go.RowKit
set_option linter.unusedVariables false
set_option linter.unusedSimpArgs false
set_option maxRecDepth 100000 in
set_option maxHeartbeats 4000000 in
theorem lgets_walk (W : World) (A : Option Addr) (c : Nat) (b : List UInt8) (hb : Sl W (· < W.heap.size) A (b.map B8)) (hc : b.length ≤ c) (hm : c ≤ maxLen) :
    Calls Tryz.prog 6 #[.slice A b.length c] W fun e w' => e = .returned (.bool true) ∧ Nw W w' := by
  by_cases hgt : 3000 < b.length
  · have hi0 : (3000 : Int) < (b.length : Int) := by omega
    have hi1 : decide ((3000 : Int) < (b.length : Int)) = true := decide_eq_true hi0
    have hi2 : decide (3000 < b.length) = true := decide_eq_true hgt
    go_enter Tryz.func6, Tryz.ntmps6
    go_wp2_with fail
    refine (awake_any _).mono ?_
    rintro e w1 ⟨rfl, q1⟩
    go_wp2_with fail
    go_ret
    exact ⟨rfl, q1⟩
  · have hi1 : decide ((3000 : Int) < (b.length : Int)) = false := decide_eq_false (by omega)
    have hi2 : decide (3000 < b.length) = false := decide_eq_false (by omega)
    have hb3 : b.length ≤ 3000 := by omega
    have c1 := lent_by W _ A c b hb (by omega)
    have cG : ∀ (w : World) (F : Nat → Prop) (A' : Option Addr) (c' : Nat), Sl w F A' (b.map B8) → Calls Tryz.prog 43 #[.slice A' b.length c'] w fun e w' => GetLTo w (letsGet headP b) e w' := fun w F A' c' h => by
      have := lget_any w F A' c' b h (by omega)
      rwa [getP_eq] at this
    have cR : ∀ (w : World), Nw W w → Calls Tryz.prog 44 #[.slice A b.length c] w fun e w' => GetRTo w (letsGet headP b) e w' := fun w q => by
      have := rrget_any w _ A c b (hb.fr q (fun _ _ h => h)) (by omega) hc hm
      rwa [← letsGet_eq] at this
    obtain ⟨r, hr⟩ : ∃ r, letsGet headP b = r := ⟨_, rfl⟩
    rw [hr] at cG cR
    have few : ∀ l : List LetM, l.map LetM.x = r.getD [] → l.length ≤ 3000 ∧ ∀ y ∈ l, y.ents.l.length ≤ 30 := fun l hl => get_few hr hb3 hl
    obtain ⟨er, her⟩ : ∃ er, getEr r = er := ⟨_, rfl⟩
    have CG := Lib.hid cG
    have CR := Lib.hid cR
    have FEW := Lib.hid few
    have HER := Lib.hid her
    obtain ⟨n, hn⟩ : ∃ n, b.length = n := ⟨_, rfl⟩
    have HN := Lib.hid hn
    have hbn : n ≤ 3000 := by omega
    simp only [hn] at c1 hi1 hi2 ⊢
    clear hr her cG cR few hn hgt hb3 hc
    go_enter Tryz.func6, Tryz.ntmps6
    go_wp2_with fail
    refine c1.mono ?_
    rintro e w1 ⟨A1, k1, rfl, lb, q1⟩
    have lb1 : LsLent w1 (fun k => k < w1.heap.size) 5 1 bytesC behind ⟨A1, k1, b⟩ := lb.mono fun k _ h => h
    have sb1 : Sl w1 (fun k => k < w1.heap.size) A1 (b.map B8) := (lb1.in_ bytesC_append).sl
    have g1 := CG.out w1 _ A1 k1 sb1
    rw [HN.out] at g1
    have G1 := Lib.hid g1
    clear g1 c1 lb
    go_wp2_with fail
    refine G1.out.mono ?_
    intro e w2 h2
    obtain ⟨⟨A2, c2, l2⟩, rfl, e2, o2, d2, z2, q2⟩ := h2.one
    rw [HER.out]
    have g2 := CR.out w2 (q1.tr q2)
    rw [HN.out] at g2
    have G2 := Lib.hid g2
    have E2 := Lib.hid e2
    have Z2 := Lib.hid z2
    clear g2 e2 z2 h2
    go_wp2_with fail
    refine G2.out.mono ?_
    intro e w3 h3
    obtain ⟨⟨A3, c3, l3⟩, rfl, e3, o3, d3, q3⟩ := h3.one
    rw [HER.out]
    have g3 := CG.out w3 _ A1 k1 (sb1.fr (q2.tr q3) (fun _ _ h => h))
    rw [HN.out] at g3
    have G3 := Lib.hid g3
    have E3 := Lib.hid e3
    have D3 := Lib.hid d3
    clear g3 e3 d3 h3
    go_wp2_with fail
    refine G3.out.mono ?_
    intro e w4 h4
    obtain ⟨⟨A4, c4, l4⟩, rfl, e4, o4, d4, z4, q4⟩ := h4.one
    rw [HER.out]
    have E4 := Lib.hid e4
    have Z4 := Lib.hid z4
    clear e4 z4 h4
    simp only at E2 E3 E4 Z2 Z4 d2 d4
    have o2' := o2.nw (q3.tr q4)
    have d2' := (d2.mono (G := fun k => w1.heap.size ≤ k ∧ k < w2.heap.size) fun k hk hl => ⟨hk, hl⟩).nw (q3.tr q4)
    have hsame := same_lets w4 (fun _ => True) (fun _ => True) A2 A3 c2 c3 l2 l3 (o2'.own.sl.mono fun _ _ _ => trivial) ((o3.nw q4).own.sl.mono fun _ _ _ => trivial) (fun y hy => (d2'.each y hy).mono fun _ _ _ => trivial) (fun y hy => ((D3.out y hy).nw q4).mono fun _ _ _ => trivial) Z2.out (by have := (FEW.out l2 E2.out).1; omega)
    rw [E2.out, E3.out] at hsame
    simp only [decide_true] at hsame
    have HS := Lib.hid hsame
    have few2 := FEW.out l2 E2.out
    have few4 := FEW.out l4 E4.out
    have F2 := Lib.hid few2
    have F4 := Lib.hid few4
    have D2 := Lib.hid d2'
    have D4 := Lib.hid d4
    have Q4 : Nw w1 w4 := (q2.tr q3).tr q4
    have hQ3 : w2.heap.size ≤ w3.heap.size := q3.size
    have hQ2 : w1.heap.size ≤ w2.heap.size := q2.size
    have hQ4 : w3.heap.size ≤ w4.heap.size := q4.size
    clear hsame few2 few4 d2' d2 d4
    obtain ⟨n2, hn2⟩ : ∃ n, l2.length = n := ⟨_, rfl⟩
    obtain ⟨n3, hn3⟩ : ∃ n, l3.length = n := ⟨_, rfl⟩
    obtain ⟨n4, hn4⟩ : ∃ n, l4.length = n := ⟨_, rfl⟩
    have HN2 := Lib.hid hn2
    have HN4 := Lib.hid hn4
    simp only [hn2, hn3] at HS
    simp only [hn2, hn3, hn4]
    clear hn2 hn3 hn4
    go_wp2_with fail
    refine HS.out.mono ?_
    rintro e w5 ⟨rfl, q5⟩
    have Q5 := Q4.tr q5
    have k5 := kept_by w5 _ _ ⟨A1, k1, b⟩ (lb1.nw Q5) A c b (hb.fr (q1.tr Q5) (fun _ _ h => h)) rfl (by show b.length ≤ _; have := HN.out; omega)
    rw [HN.out] at k5
    simp only [Ls.v, HN.out] at k5
    have K5 := Lib.hid k5
    clear k5
    go_wp2_with fail
    refine K5.out.mono ?_
    rintro e w6 ⟨rfl, q6⟩
    have Q6 := Q5.tr q6
    have q46 : Nw w4 w6 := q5.tr q6
    have hap : ∀ w7, w7 = w6.alloc (.cells #[.slice A2 n2 c2, .slice A4 n4 c4] 28) → Calls Tryz.prog 16 #[.slice (some ⟨w6.heap.size, 0, none⟩) 2 2] w7 fun e w' => e = .returned (.bool true) ∧ Fr (fun k => w1.heap.size ≤ k ∧ k < w6.heap.size) w7 w' := fun w7 hw7 => by
      have q7 : Nw w6 w7 := by rw [hw7]; exact (Fr.refl (fun _ => False) _).alloc _
      have hsz7 : w6.heap.size < w7.heap.size := by rw [hw7]; simp
      have hs46 := q46.size
      have a2 : LsHd w7 (fun k => w1.heap.size ≤ k ∧ k < w2.heap.size) 50 20 letsC ⟨A2, c2, l2⟩ := ⟨((o2'.nw q46).nw q7).own, fun k hk => ⟨o2.base k hk, o2.own.lt k hk⟩⟩
      have a4 : LsHd w7 (fun k => w3.heap.size ≤ k ∧ k < w6.heap.size) 50 20 letsC ⟨A4, c4, l4⟩ := ⟨((o4.nw q46).nw q7).own, fun k hk => ⟨o4.base k hk, by have := o4.own.lt k hk; omega⟩⟩
      have b2 : LetsHd w7 (fun k => w1.heap.size ≤ k ∧ k < w2.heap.size) l2 := (D2.out.nw q46).nw q7
      have b4 : LetsHd w7 (fun k => w3.heap.size ≤ k ∧ k < w6.heap.size) l4 := ((D4.out.mono (G := fun k => w3.heap.size ≤ k ∧ k < w6.heap.size) fun k hk hl => ⟨hk, by omega⟩).nw q46).nw q7
      have hL : Held w7 (fun k => w1.heap.size ≤ k ∧ k < w6.heap.size) 50 20 letsC [⟨A2, c2, l2⟩, ⟨A4, c4, l4⟩] := (Held.one a2).append (Held.one a4) (fun k h1 h2 => by omega) (fun k hk _ => by omega) (fun k hk _ => by omega)
      have hH : LetsHd w7 (fun k => w1.heap.size ≤ k ∧ k < w6.heap.size) (([⟨A2, c2, l2⟩, ⟨A4, c4, l4⟩] : List (Ls LetM)).flatMap (·.l)) := by
        have e : ([⟨A2, c2, l2⟩, ⟨A4, c4, l4⟩] : List (Ls LetM)).flatMap (·.l) = l2 ++ l4 := by simp
        rw [e]
        exact b2.append b4 (fun k h1 h2 => by omega) (fun k hk _ => by omega) (fun k hk _ => by omega)
      have hfew : (l2 ++ l4).length ≤ 6000 ∧ ∀ y ∈ l2 ++ l4, y.ents.l.length ≤ 3000 := by
        have h2 := F2.out
        have h4 := F4.out
        refine ⟨by rw [List.length_append]; omega, fun y hy => ?_⟩
        rcases List.mem_append.1 hy with hy | hy
        · have := h2.2 y hy; omega
        · have := h4.2 y hy; omega
      obtain ⟨m1, m2, m3⟩ := lets_few hfew
      refine apartLetters_any w7 (· = w6.heap.size) (fun k => w1.heap.size ≤ k ∧ k < w6.heap.size) (some ⟨w6.heap.size, 0, none⟩) 2 [⟨A2, c2, l2⟩, ⟨A4, c4, l4⟩] ?_ hL hH (fun k hk => by omega) (by simp) ?_ ?_ ?_ (fun x hx => ?_) 2 rfl
      · have := sl_new w6 28 [.slice A2 n2 c2, .slice A4 n4 c4] _ rfl
        rw [hw7]
        simpa [lvs, Ls.v, HN2.out, HN4.out] using this
      · have e : ([⟨A2, c2, l2⟩, ⟨A4, c4, l4⟩] : List (Ls LetM)).flatMap (fun s => s.l.flatMap letInts) = (l2 ++ l4).flatMap letInts := by simp
        rw [e]; omega
      · have e : ([⟨A2, c2, l2⟩, ⟨A4, c4, l4⟩] : List (Ls LetM)).flatMap (fun s => s.l.flatMap letByts) = (l2 ++ l4).flatMap letByts := by simp
        rw [e]; omega
      · have e : ([⟨A2, c2, l2⟩, ⟨A4, c4, l4⟩] : List (Ls LetM)).flatMap (fun s => s.l.map LetM.ents) = (l2 ++ l4).map LetM.ents := by simp
        rw [e]; omega
      · have e : ([⟨A2, c2, l2⟩, ⟨A4, c4, l4⟩] : List (Ls LetM)).flatMap (·.l) = l2 ++ l4 := by simp
        rw [e] at hx
        rcases List.mem_append.1 hx with hx | hx
        · exact Z2.out x hx
        · exact Z4.out x hx
    have HAP := Lib.hid hap
    clear hap o2' o2 o3 o4
    go_wp2_with fail
    refine (HAP.out _ rfl).mono ?_
    rintro e w8 ⟨rfl, f8⟩
    have f68 : Fr (fun k => w1.heap.size ≤ k ∧ k < w6.heap.size) w6 w8 := (Nw.on ((Fr.refl (fun _ => False) w6).alloc _)).tr f8
    have lb8 := (lb1.nw Q6).fr f68 (fun k h1 h2 => by omega)
    have sb8 := ((hb.fr q1 (fun _ _ h => h)).fr Q6 (fun _ _ h => h)).fr f68 (fun k h1 h2 => by have := q1.size; omega)
    have k8 := kept_by w8 _ _ ⟨A1, k1, b⟩ lb8 A c b sb8 rfl (by show b.length ≤ _; have := HN.out; omega)
    simp only [Ls.v, HN.out] at k8
    have K8 := Lib.hid k8
    clear k8
    go_wp2_with fail
    refine K8.out.mono ?_
    rintro e w9 ⟨rfl, q9⟩
    go_wp2_with fail
    refine (awake_any _).mono ?_
    rintro e w10 ⟨rfl, q10⟩
    go_wp2_with fail
    go_ret
    refine ⟨rfl, (((q1.tr Q6).new f68 (fun k hk => Nat.le_trans q1.size hk.1)).tr q9).tr q10⟩
end Go.Proofs.YtippdjaakcgeoaaGreat

namespace Go.Proofs.YtippdjaakcgeoaaGreat
open Go Go.RowKit

theorem spot_none {w : World} {a : Addr} {v : Value} (h : w.cell? a = some v) : a.spot = none ∧ a.block < w.heap.size := by
  refine ⟨?_, World.block_lt_of_cell? w a h⟩
  unfold World.cell? at h
  split at h
  · split at h
    · cases h
    · rename_i h2; simpa using h2
  · cases h

/-- A slice of integers that came in, as 'open_ints' gives it. -/
def RowIn (k : IntKind) (w : World) (a : Option Addr) (len cap : Nat) (zs : List Int) : Prop :=
  (a = none ∧ len = 0 ∧ cap = 0 ∧ zs = []) ∨
  ∃ x, a = some x ∧ len ≤ cap ∧ cap ≤ maxLen ∧ zs.length = cap ∧ (∀ i, i < zs.length → w.cell? (x.add i) = some (.int k (zs.getD i 0))) ∧ ∀ n ∈ zs, (Lit.int k n).wf = true

theorem RowIn.sl {k : IntKind} {w : World} {a : Option Addr} {len cap : Nat} {zs : List Int} (h : RowIn k w a len cap zs) : (zs.take len).length = len ∧ len ≤ cap ∧ cap ≤ maxLen ∧ Sl w (· < w.heap.size) a ((zs.take len).map (Value.int k)) := by
  rcases h with ⟨rfl, rfl, rfl, rfl⟩ | ⟨x, rfl, hl, hm, hz, hc, _⟩
  · exact ⟨rfl, Nat.le_refl _, by decide, .inl rfl⟩
  · refine ⟨by rw [List.length_take]; omega, hl, hm, ?_⟩
    by_cases he : zs = []
    · subst he; exact .inl (by simp)
    · have hpos : 0 < zs.length := by cases zs with | nil => exact (he rfl).elim | cons _ _ => simp
      have h0 := hc 0 hpos
      rw [show x.add 0 = x from rfl] at h0
      obtain ⟨hs, hb⟩ := spot_none h0
      obtain ⟨b, o, s⟩ := x
      simp only at hs hb
      subst hs
      refine .inr ⟨b, o, rfl, hb, hb, fun j u hu => ?_⟩
      have hj : j < (zs.take len).length := by
        rcases Nat.lt_or_ge j ((zs.take len).map (Value.int k)).length with h | h
        · simpa using h
        · rw [List.getElem?_eq_none h] at hu; cases hu
      rw [List.length_take] at hj
      have h1 := hc j (by omega)
      rw [Addr.add_lit] at h1
      rw [h1, ← hu]
      simp only [List.getElem?_map, List.getElem?_take]
      rw [if_pos (by omega)]
      simp [List.getD, show j < zs.length by omega]

theorem u8_of_wf {n : Int} (h : (Lit.int .u8 n).wf = true) : 0 ≤ n ∧ n ≤ 255 := by
  simpa [Lit.wf, IntKind.min, IntKind.max, IntKind.signed, IntKind.bits] using h
/-- Bytes that came in. -/
theorem RowIn.u8 {w : World} {a : Option Addr} {len cap : Nat} {zs : List Int} (h : RowIn .u8 w a len cap zs) : ∃ bs : List UInt8, bs.length = len ∧ len ≤ cap ∧ cap ≤ maxLen ∧ Sl w (· < w.heap.size) a (bs.map B8) := by
  obtain ⟨h1, h2, h3, h4⟩ := h.sl
  refine ⟨(zs.take len).map fun n => UInt8.ofNat n.toNat, by simpa using h1, h2, h3, ?_⟩
  have e : ((zs.take len).map fun n => UInt8.ofNat n.toNat).map B8 = (zs.take len).map (Value.int .u8) := by
    rw [List.map_map]
    refine List.map_congr_left fun n hn => ?_
    have hw : (Lit.int .u8 n).wf = true := by
      rcases h with ⟨_, _, _, rfl⟩ | ⟨_, _, _, _, _, _, hw⟩
      · simp at hn
      · exact hw n (List.mem_of_mem_take hn)
    have := u8_of_wf hw
    show Value.int .u8 ((UInt8.ofNat n.toNat).toNat : Int) = _
    rw [UInt8.toNat_ofNat']
    congr 1
    omega
  rw [e]
  exact h4
end Go.Proofs.YtippdjaakcgeoaaGreat

namespace Go.Proofs.YtippdjaakcgeoaaGreat
open Go Go.RowKit Go.ChangeShapes Go.WideShapes Go.Deep

section
variable {H : Type} {enc : TypeId × Value → H} {P : Program} {w : World} {held : Bool} {base : Nat}

/-- All that it weighs is within the reach. -/
def Lighter (P : Program) (t : TypeId) (d : DataW H) : Prop := ∀ m ∈ d.weights P t, m ≤ reachBytes

theorem weightsAll_mem {e : TypeId} : ∀ {l : List (DataW H)} {d : DataW H}, d ∈ l → ∀ m ∈ d.weights P e, m ∈ DataW.weightsAll P e l
  | d0 :: l, d, h, m, hm => by
    simp only [DataW.weightsAll, List.mem_append]
    rcases List.mem_cons.1 h with rfl | h
    · exact .inl hm
    · exact .inr (weightsAll_mem h m hm)
theorem Lighter.of_each {ts : List TypeId} {ds : List (DataW H)} (h : (DataW.weightsEach P ts ds).all (· ≤ reachBytes) = true) {j : Nat} {t : TypeId} {d : DataW H} (ht : ts[j]? = some t) (hd : ds[j]? = some d) : Lighter P t d := fun m hm => by
  have := List.all_eq_true.1 h _ (DataW.weights_mem_each ht hd m hm)
  simpa using this

/-- A slice that came in, its elements one cell each. -/
theorem in_list {α : Type} [Inhabited α] (f : α → Value) (Q : α → Prop) {t e : TypeId} {fuel : Nat} {cs : List Value} {x : DataW H × List MemPlace} (ht : P.underlying t = some (.slice e)) (hc : P.cellsOf e = 1)
    (h : DataW.trod enc P w base (fun _ => true) held fuel t cs = some x) (hw : Lighter P t x.1)
    (each : ∀ n v d pl, DataW.trod enc P w base (fun _ => true) held n e [v] = some (d, pl) → Lighter P e d → ∃ x, v = f x ∧ Q x) :
    ∃ (A : Option Addr) (c : Nat) (l : List α), cs = [.slice A l.length c] ∧ l.length ≤ c ∧ c ≤ maxLen ∧ c * P.bytesOf e ≤ reachBytes ∧ Sl w (· < w.heap.size) A (l.map f) ∧ ∀ x ∈ l, Q x := by
  rcases open_slice1 ht hc h with ⟨rfl, rfl⟩ | ⟨a, len, cap, m, n, V, D, Pl, rfl, _, hl, hm, hmm, rfl, hx⟩
  · exact ⟨none, 0, [], rfl, Nat.le_refl _, by decide, by simp [reachBytes], .inl rfl, by simp⟩
  · simp only [if_true] at hmm
    subst hmm
    have hsz : m * P.bytesOf e ≤ reachBytes := by
      have := hw ((len + (m - len)) * P.bytesOf e) (by simp [DataW.weights, ht])
      rwa [show len + (m - len) = m by omega] at this
    have hel : ∀ i, i < len → ∃ x, V i = f x ∧ Q x := fun i hi => by
      refine each n (V i) (D i) (Pl i) (hx i (by omega)).2 fun k hk => hw k ?_
      simp only [DataW.weights, ht, List.mem_cons, List.mem_append]
      exact .inr (.inl (weightsAll_mem (List.mem_map.2 ⟨i, List.mem_range.2 hi, rfl⟩) k hk))
    obtain ⟨X, hX⟩ := choose_lt (α := α) (p := fun i x => V i = f x ∧ Q x) hel
    refine ⟨some a, m, (List.range len).map X, by simp, by simpa using hl, hm, hsz, ?_, fun x hxm => ?_⟩
    · by_cases hz : len = 0
      · subst hz; exact .inl rfl
      · have h0 := (hx 0 (by omega)).1
        rw [show a.add 0 = a from rfl] at h0
        obtain ⟨hs, hb⟩ := spot_none h0
        obtain ⟨b, o, s⟩ := a
        simp only at hs hb
        subst hs
        refine .inr ⟨b, o, rfl, hb, hb, fun j u hu => ?_⟩
        have hj : j < len := by
          rcases Nat.lt_or_ge j len with h | h
          · exact h
          · rw [List.getElem?_eq_none (by simpa using h)] at hu; cases hu
        have h1 := (hx j (by omega)).1
        rw [Addr.add_lit] at h1
        rw [h1, ← hu]
        simp [hj, (hX j hj).1]
    · obtain ⟨i, hi, rfl⟩ := List.mem_map.1 hxm
      exact (hX i (List.mem_range.1 hi)).2

theorem in_ints {t e : TypeId} {k : IntKind} {fuel : Nat} {cs : List Value} {x : DataW H × List MemPlace} (ht : P.underlying t = some (.slice e)) (he : P.underlying e = some (.int k)) (hc : P.cellsOf e = 1)
    (h : DataW.trod enc P w base (fun _ => true) held fuel t cs = some x) (hw : Lighter P t x.1) :
    ∃ (A : Option Addr) (c : Nat) (l : List Int), cs = [.slice A l.length c] ∧ l.length ≤ c ∧ c ≤ maxLen ∧ c * P.bytesOf e ≤ reachBytes ∧ Sl w (· < w.heap.size) A (l.map (Value.int k)) ∧ ∀ x ∈ l, (Lit.int k x).wf = true :=
  in_list (Value.int k) _ ht hc h hw fun n v d pl hd _ => by
    obtain ⟨z, hz, _, hwf⟩ := DataW.trod_int he hd
    simp at hz
    exact ⟨z, hz, hwf⟩
theorem u8_list (l : List Int) (h : ∀ x ∈ l, (Lit.int .u8 x).wf = true) : ∃ bs : List UInt8, bs.length = l.length ∧ bs.map B8 = l.map (Value.int .u8) := by
  refine ⟨l.map fun n => UInt8.ofNat n.toNat, by simp, ?_⟩
  rw [List.map_map]
  refine List.map_congr_left fun n hn => ?_
  have := u8_of_wf (h n hn)
  show Value.int .u8 ((UInt8.ofNat n.toNat).toNat : Int) = _
  rw [UInt8.toNat_ofNat']
  congr 1
  omega
theorem in_bytes {t e : TypeId} {fuel : Nat} {cs : List Value} {x : DataW H × List MemPlace} (ht : P.underlying t = some (.slice e)) (he : P.underlying e = some (.int .u8)) (hc : P.cellsOf e = 1)
    (h : DataW.trod enc P w base (fun _ => true) held fuel t cs = some x) (hw : Lighter P t x.1) :
    ∃ (A : Option Addr) (c : Nat) (l : List UInt8), cs = [.slice A l.length c] ∧ l.length ≤ c ∧ c ≤ maxLen ∧ c * P.bytesOf e ≤ reachBytes ∧ Sl w (· < w.heap.size) A (l.map B8) := by
  obtain ⟨A, c, l, h1, h2, h3, h4, h5, h6⟩ := in_ints ht he hc h hw
  obtain ⟨bs, hl, hb⟩ := u8_list l h6
  exact ⟨A, c, bs, by rw [hl]; exact h1, by rw [hl]; exact h2, h3, h4, by rw [hb]; exact h5⟩
end
end Go.Proofs.YtippdjaakcgeoaaGreat
