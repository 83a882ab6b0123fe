/- Lemmas of the walks: LcA, LeAw, LeFw, LeCw. (Laid together by shake.py.) -/
import Derived.Test.YtippdjaakcgeoaaGreatEa27
import Derived.Test.YtippdjaakcgeoaaGreatEa32
set_option linter.unusedVariables false
set_option linter.unusedSimpArgs false
set_option maxRecDepth 100000
set_option maxHeartbeats 16000000
namespace Go.Proofs.YtippdjaakcgeoaaGreat
open Go Go.RowKit
theorem zjr (W : World) (A : Option Addr) (c : Nat) (b : List UInt8) (hb : Sl W (· < W.heap.size) A (b.map B8)) (hc : b.length ≤ c) (hm : c ≤ maxLen) :
  Calls Tryz.prog 6 #[.slice A b.length c] W fun e w' => e = .returned (.bool true) ∧ Nw W w' := by
 by_cases hgt : 3000 < b.length
 ·have hi0 : (3000 : Int) < (b.length : Int) := by omega
  have hi1 : decide ((3000 : Int) < (b.length : Int)) = true := decide_eq_true hi0
  have hi2 : decide (3000 < b.length) = true := decide_eq_true hgt
  go_enter Tryz.func6, Tryz.ntmps6
  go_wp2_with fail
  refine (zdp _).mono ?_
  rintro e w1 ⟨rfl, q1⟩
  go_wp2_with fail
  go_ret
  exact ⟨rfl, q1⟩
 ·have hi1 : decide ((3000 : Int) < (b.length : Int)) = false := decide_eq_false (by omega)
  have hi2 : decide (3000 < b.length) = false := decide_eq_false (by omega)
  have hb3 : b.length ≤ 3000 := by omega
  have c1 := zgN W _ A c b hb (by omega)
  have cG : ∀ (w : World) (F : Nat → Prop) (A' : Option Addr) (c' : Nat), Sl w F A' (b.map B8) → Calls Tryz.prog 43 #[.slice A' b.length c'] w fun e w' => zgH w (zbJ zaS b) e w' := fun w F A' c' h => by
   have := zlW w F A' c' b h (by omega)
   rwa [zmf] at this
  have cR : ∀ (w : World), Nw W w → Calls Tryz.prog 44 #[.slice A b.length c] w fun e w' => zgb w (zbJ zaS b) e w' := fun w q => by
   have := zl7 w _ A c b (hb.fr q (fun _ _ h => h)) (by omega) hc hm
   rwa [← zjY] at this
  obtain ⟨r, hr⟩ : ∃ r, zbJ zaS b = r := ⟨_, rfl⟩
  rw [hr] at cG cR
  have few : ∀ l : List LetM, l.map LetM.x = r.getD [] → l.length ≤ 3000 ∧ ∀ y ∈ l, y.ents.l.length ≤ 30 := fun l hl => zma hr hb3 hl
  obtain ⟨er, her⟩ : ∃ er, zjI r = er := ⟨_, rfl⟩
  have CG := Lib.hid cG
  have CR := Lib.hid cR
  have FEW := Lib.hid few
  have HER := Lib.hid her
  obtain ⟨n, hn⟩ : ∃ n, b.length = n := ⟨_, rfl⟩
  have HN := Lib.hid hn
  have hbn : n ≤ 3000 := by omega
  simp only [hn] at c1 hi1 hi2 ⊢
  clear hr her cG cR few hn hgt hb3 hc
  go_enter Tryz.func6, Tryz.ntmps6
  go_wp2_with fail
  refine c1.mono ?_
  rintro e w1 ⟨A1, k1, rfl, lb, q1⟩
  have lb1 : zbl w1 (fun k => k < w1.heap.size) 5 1 zaw behind ⟨A1, k1, b⟩ := lb.mono fun k _ h => h
  have sb1 : Sl w1 (fun k => k < w1.heap.size) A1 (b.map B8) := (lb1.in_ zdX).sl
  have g1 := CG.out w1 _ A1 k1 sb1
  rw [HN.out] at g1
  have G1 := Lib.hid g1
  clear g1 c1 lb
  go_wp2_with fail
  refine G1.out.mono ?_
  intro e w2 h2
  obtain ⟨⟨A2, c2, l2⟩, rfl, e2, o2, d2, z2, q2⟩ := h2.one
  rw [HER.out]
  have g2 := CR.out w2 (q1.tr q2)
  rw [HN.out] at g2
  have G2 := Lib.hid g2
  have E2 := Lib.hid e2
  have Z2 := Lib.hid z2
  clear g2 e2 z2 h2
  go_wp2_with fail
  refine G2.out.mono ?_
  intro e w3 h3
  obtain ⟨⟨A3, c3, l3⟩, rfl, e3, o3, d3, q3⟩ := h3.one
  rw [HER.out]
  have g3 := CG.out w3 _ A1 k1 (sb1.fr (q2.tr q3) (fun _ _ h => h))
  rw [HN.out] at g3
  have G3 := Lib.hid g3
  have E3 := Lib.hid e3
  have D3 := Lib.hid d3
  clear g3 e3 d3 h3
  go_wp2_with fail
  refine G3.out.mono ?_
  intro e w4 h4
  obtain ⟨⟨A4, c4, l4⟩, rfl, e4, o4, d4, z4, q4⟩ := h4.one
  rw [HER.out]
  have E4 := Lib.hid e4
  have Z4 := Lib.hid z4
  clear e4 z4 h4
  simp only at E2 E3 E4 Z2 Z4 d2 d4
  have o2' := o2.nw (q3.tr q4)
  have d2' := (d2.mono (G := fun k => w1.heap.size ≤ k ∧ k < w2.heap.size) fun k hk hl => ⟨hk, hl⟩).nw (q3.tr q4)
  have hsame := zkO w4 (fun _ => True) (fun _ => True) A2 A3 c2 c3 l2 l3 (o2'.own.sl.mono fun _ _ _ => trivial) ((o3.nw q4).own.sl.mono fun _ _ _ => trivial) (fun y hy => (d2'.each y hy).mono fun _ _ _ => trivial) (fun y hy => ((D3.out y hy).nw q4).mono fun _ _ _ => trivial) Z2.out (by have := (FEW.out l2 E2.out).1; omega)
  rw [E2.out, E3.out] at hsame
  simp only [decide_true] at hsame
  have HS := Lib.hid hsame
  have few2 := FEW.out l2 E2.out
  have few4 := FEW.out l4 E4.out
  have F2 := Lib.hid few2
  have F4 := Lib.hid few4
  have D2 := Lib.hid d2'
  have D4 := Lib.hid d4
  have Q4 : Nw w1 w4 := (q2.tr q3).tr q4
  have hQ3 : w2.heap.size ≤ w3.heap.size := q3.size
  have hQ2 : w1.heap.size ≤ w2.heap.size := q2.size
  have hQ4 : w3.heap.size ≤ w4.heap.size := q4.size
  clear hsame few2 few4 d2' d2 d4
  obtain ⟨n2, hn2⟩ : ∃ n, l2.length = n := ⟨_, rfl⟩
  obtain ⟨n3, hn3⟩ : ∃ n, l3.length = n := ⟨_, rfl⟩
  obtain ⟨n4, hn4⟩ : ∃ n, l4.length = n := ⟨_, rfl⟩
  have HN2 := Lib.hid hn2
  have HN4 := Lib.hid hn4
  simp only [hn2, hn3] at HS
  simp only [hn2, hn3, hn4]
  clear hn2 hn3 hn4
  go_wp2_with fail
  refine HS.out.mono ?_
  rintro e w5 ⟨rfl, q5⟩
  have Q5 := Q4.tr q5
  have k5 := zfA w5 _ _ ⟨A1, k1, b⟩ (lb1.nw Q5) A c b (hb.fr (q1.tr Q5) (fun _ _ h => h)) rfl (by show b.length ≤ _; have := HN.out; omega)
  rw [HN.out] at k5
  simp only [Ls.v, HN.out] at k5
  have K5 := Lib.hid k5
  clear k5
  go_wp2_with fail
  refine K5.out.mono ?_
  rintro e w6 ⟨rfl, q6⟩
  have Q6 := Q5.tr q6
  have q46 : Nw w4 w6 := q5.tr q6
  have hap : ∀ w7, w7 = w6.alloc (.cells #[.slice A2 n2 c2, .slice A4 n4 c4] 28) → Calls Tryz.prog 16 #[.slice (some ⟨w6.heap.size, 0, none⟩) 2 2] w7 fun e w' => e = .returned (.bool true) ∧ Fr (fun k => w1.heap.size ≤ k ∧ k < w6.heap.size) w7 w' := fun w7 hw7 => by
   have q7 : Nw w6 w7 := by rw [hw7]; exact (Fr.refl (fun _ => False) _).alloc _
   have hsz7 : w6.heap.size < w7.heap.size := by rw [hw7]; simp
   have hs46 := q46.size
   have a2 : LsHd w7 (fun k => w1.heap.size ≤ k ∧ k < w2.heap.size) 50 20 zai ⟨A2, c2, l2⟩ := ⟨((o2'.nw q46).nw q7).own, fun k hk => ⟨o2.base k hk, o2.own.lt k hk⟩⟩
   have a4 : LsHd w7 (fun k => w3.heap.size ≤ k ∧ k < w6.heap.size) 50 20 zai ⟨A4, c4, l4⟩ := ⟨((o4.nw q46).nw q7).own, fun k hk => ⟨o4.base k hk, by have := o4.own.lt k hk; omega⟩⟩
   have b2 : zas w7 (fun k => w1.heap.size ≤ k ∧ k < w2.heap.size) l2 := (D2.out.nw q46).nw q7
   have b4 : zas w7 (fun k => w3.heap.size ≤ k ∧ k < w6.heap.size) l4 := ((D4.out.mono (G := fun k => w3.heap.size ≤ k ∧ k < w6.heap.size) fun k hk hl => ⟨hk, by omega⟩).nw q46).nw q7
   have hL : Held w7 (fun k => w1.heap.size ≤ k ∧ k < w6.heap.size) 50 20 zai [⟨A2, c2, l2⟩, ⟨A4, c4, l4⟩] := (Held.one a2).append (Held.one a4) (fun k h1 h2 => by omega) (fun k hk _ => by omega) (fun k hk _ => by omega)
   have hH : zas w7 (fun k => w1.heap.size ≤ k ∧ k < w6.heap.size) (([⟨A2, c2, l2⟩, ⟨A4, c4, l4⟩] : List (Ls LetM)).flatMap (·.l)) := by
    have e : ([⟨A2, c2, l2⟩, ⟨A4, c4, l4⟩] : List (Ls LetM)).flatMap (·.l) = l2 ++ l4 := by simp
    rw [e]
    exact b2.append b4 (fun k h1 h2 => by omega) (fun k hk _ => by omega) (fun k hk _ => by omega)
   have hfew : (l2 ++ l4).length ≤ 6000 ∧ ∀ y ∈ l2 ++ l4, y.ents.l.length ≤ 3000 := by
    have h2 := F2.out
    have h4 := F4.out
    refine ⟨by rw [List.length_append]; omega, fun y hy => ?_⟩
    rcases List.mem_append.1 hy with hy | hy
    ·have := h2.2 y hy; omega
    ·have := h4.2 y hy; omega
   obtain ⟨m1, m2, m3⟩ := ziE hfew
   refine ze7 w7 (· = w6.heap.size) (fun k => w1.heap.size ≤ k ∧ k < w6.heap.size) (some ⟨w6.heap.size, 0, none⟩) 2 [⟨A2, c2, l2⟩, ⟨A4, c4, l4⟩] ?_ hL hH (fun k hk => by omega) (by simp) ?_ ?_ ?_ (fun x hx => ?_) 2 rfl
   ·have := zaI w6 28 [.slice A2 n2 c2, .slice A4 n4 c4] _ rfl
    rw [hw7]
    simpa [lvs, Ls.v, HN2.out, HN4.out] using this
   ·have e : ([⟨A2, c2, l2⟩, ⟨A4, c4, l4⟩] : List (Ls LetM)).flatMap (fun s => s.l.flatMap zaz) = (l2 ++ l4).flatMap zaz := by simp
    rw [e]; omega
   ·have e : ([⟨A2, c2, l2⟩, ⟨A4, c4, l4⟩] : List (Ls LetM)).flatMap (fun s => s.l.flatMap zaB) = (l2 ++ l4).flatMap zaB := by simp
    rw [e]; omega
   ·have e : ([⟨A2, c2, l2⟩, ⟨A4, c4, l4⟩] : List (Ls LetM)).flatMap (fun s => s.l.map LetM.ents) = (l2 ++ l4).map LetM.ents := by simp
    rw [e]; omega
   ·have e : ([⟨A2, c2, l2⟩, ⟨A4, c4, l4⟩] : List (Ls LetM)).flatMap (·.l) = l2 ++ l4 := by simp
    rw [e] at hx
    rcases List.mem_append.1 hx with hx | hx
    ·exact Z2.out x hx
    ·exact Z4.out x hx
  have HAP := Lib.hid hap
  clear hap o2' o2 o3 o4
  go_wp2_with fail
  refine (HAP.out _ rfl).mono ?_
  rintro e w8 ⟨rfl, f8⟩
  have f68 : Fr (fun k => w1.heap.size ≤ k ∧ k < w6.heap.size) w6 w8 := (Nw.on ((Fr.refl (fun _ => False) w6).alloc _)).tr f8
  have lb8 := (lb1.nw Q6).fr f68 (fun k h1 h2 => by omega)
  have sb8 := ((hb.fr q1 (fun _ _ h => h)).fr Q6 (fun _ _ h => h)).fr f68 (fun k h1 h2 => by have := q1.size; omega)
  have k8 := zfA w8 _ _ ⟨A1, k1, b⟩ lb8 A c b sb8 rfl (by show b.length ≤ _; have := HN.out; omega)
  simp only [Ls.v, HN.out] at k8
  have K8 := Lib.hid k8
  clear k8
  go_wp2_with fail
  refine K8.out.mono ?_
  rintro e w9 ⟨rfl, q9⟩
  go_wp2_with fail
  refine (zdp _).mono ?_
  rintro e w10 ⟨rfl, q10⟩
  go_wp2_with fail
  go_ret
  refine ⟨rfl, (((q1.tr Q6).new f68 (fun k hk => Nat.le_trans q1.size hk.1)).tr q9).tr q10⟩
open Go Go.RowKit
def zfD : List Nat := [1, 2, 3, 4, 5, 6, 7, 16, 17, 18, 10, 11]
def zfB : List Int := [-9223372036854775808, -1, 0, 1, 4, 5, 6, 8, 9, 255, 256, 1073741824, 1073741825, 4611686018427387903, 4611686018427387904]
theorem zlu (v : Int) : ∀ (k : Nat) (hk : k < 12), ∃ x : LetM, letA x = (letA zag).setIfInBounds (zfD.getD k 0) (I64 v) ∧ (∀ w F, za3 w F x) ∧ zd1 x
 | 0, _ => ⟨{ zag with group := v }, rfl, fun w F => ⟨(za3.vote w F).kind, (za3.vote w F).ents, (za3.vote w F).each, (za3.vote w F).cfg, (za3.vote w F).bytes⟩, ⟨za8.vote.bd.ents, za8.vote.bd.each, za8.vote.bd.cfg, za8.vote.bd.bytes⟩⟩
 | 1, _ => ⟨{ zag with src := v }, rfl, fun w F => ⟨(za3.vote w F).kind, (za3.vote w F).ents, (za3.vote w F).each, (za3.vote w F).cfg, (za3.vote w F).bytes⟩, ⟨za8.vote.bd.ents, za8.vote.bd.each, za8.vote.bd.cfg, za8.vote.bd.bytes⟩⟩
 | 2, _ => ⟨{ zag with dst := v }, rfl, fun w F => ⟨(za3.vote w F).kind, (za3.vote w F).ents, (za3.vote w F).each, (za3.vote w F).cfg, (za3.vote w F).bytes⟩, ⟨za8.vote.bd.ents, za8.vote.bd.each, za8.vote.bd.cfg, za8.vote.bd.bytes⟩⟩
 | 3, _ => ⟨{ zag with term := v }, rfl, fun w F => ⟨(za3.vote w F).kind, (za3.vote w F).ents, (za3.vote w F).each, (za3.vote w F).cfg, (za3.vote w F).bytes⟩, ⟨za8.vote.bd.ents, za8.vote.bd.each, za8.vote.bd.cfg, za8.vote.bd.bytes⟩⟩
 | 4, _ => ⟨{ zag with index := v }, rfl, fun w F => ⟨(za3.vote w F).kind, (za3.vote w F).ents, (za3.vote w F).each, (za3.vote w F).cfg, (za3.vote w F).bytes⟩, ⟨za8.vote.bd.ents, za8.vote.bd.each, za8.vote.bd.cfg, za8.vote.bd.bytes⟩⟩
 | 5, _ => ⟨{ zag with logt := v }, rfl, fun w F => ⟨(za3.vote w F).kind, (za3.vote w F).ents, (za3.vote w F).each, (za3.vote w F).cfg, (za3.vote w F).bytes⟩, ⟨za8.vote.bd.ents, za8.vote.bd.each, za8.vote.bd.cfg, za8.vote.bd.bytes⟩⟩
 | 6, _ => ⟨{ zag with commit := v }, rfl, fun w F => ⟨(za3.vote w F).kind, (za3.vote w F).ents, (za3.vote w F).each, (za3.vote w F).cfg, (za3.vote w F).bytes⟩, ⟨za8.vote.bd.ents, za8.vote.bd.each, za8.vote.bd.cfg, za8.vote.bd.bytes⟩⟩
 | 7, _ => ⟨{ zag with size := v }, rfl, fun w F => ⟨(za3.vote w F).kind, (za3.vote w F).ents, (za3.vote w F).each, (za3.vote w F).cfg, (za3.vote w F).bytes⟩, ⟨za8.vote.bd.ents, za8.vote.bd.each, za8.vote.bd.cfg, za8.vote.bd.bytes⟩⟩
 | 8, _ => ⟨{ zag with at_ := v }, rfl, fun w F => ⟨(za3.vote w F).kind, (za3.vote w F).ents, (za3.vote w F).each, (za3.vote w F).cfg, (za3.vote w F).bytes⟩, ⟨za8.vote.bd.ents, za8.vote.bd.each, za8.vote.bd.cfg, za8.vote.bd.bytes⟩⟩
 | 9, _ => ⟨{ zag with tag := v }, rfl, fun w F => ⟨(za3.vote w F).kind, (za3.vote w F).ents, (za3.vote w F).each, (za3.vote w F).cfg, (za3.vote w F).bytes⟩, ⟨za8.vote.bd.ents, za8.vote.bd.each, za8.vote.bd.cfg, za8.vote.bd.bytes⟩⟩
 | 10, _ => ⟨{ zag with base := { zcP with index := v } }, rfl, fun w F => ⟨(za3.vote w F).kind, (za3.vote w F).ents, (za3.vote w F).each, (za3.vote w F).cfg, (za3.vote w F).bytes⟩, ⟨za8.vote.bd.ents, za8.vote.bd.each, za8.vote.bd.cfg, za8.vote.bd.bytes⟩⟩
 | 11, _ => ⟨{ zag with base := { zcP with term := v } }, rfl, fun w F => ⟨(za3.vote w F).kind, (za3.vote w F).ents, (za3.vote w F).each, (za3.vote w F).cfg, (za3.vote w F).bytes⟩, ⟨za8.vote.bd.ents, za8.vote.bd.each, za8.vote.bd.cfg, za8.vote.bd.bytes⟩⟩
theorem zmB (G : Nat) : ∀ (k : Nat) (hk : k < 12), (#[.pointer (some ⟨G, 1, none⟩), .pointer (some ⟨G, 2, none⟩), .pointer (some ⟨G, 3, none⟩), .pointer (some ⟨G, 4, none⟩), .pointer (some ⟨G, 5, none⟩), .pointer (some ⟨G, 6, none⟩), .pointer (some ⟨G, 7, none⟩), .pointer (some ⟨G, 16, none⟩), .pointer (some ⟨G, 17, none⟩), .pointer (some ⟨G, 18, none⟩), .pointer (some ⟨G, 10, none⟩), .pointer (some ⟨G, 11, none⟩)] : Array Value)[k]? = some (.pointer (some ⟨G, zfD.getD k 0, none⟩))
 | 0, _ => rfl
 | 1, _ => rfl
 | 2, _ => rfl
 | 3, _ => rfl
 | 4, _ => rfl
 | 5, _ => rfl
 | 6, _ => rfl
 | 7, _ => rfl
 | 8, _ => rfl
 | 9, _ => rfl
 | 10, _ => rfl
 | 11, _ => rfl
theorem zmc (i : Nat) (hi : i < 15) : (#[.int .i64 (-9223372036854775808), .int .i64 (-1), .int .i64 (0), .int .i64 (1), .int .i64 (4), .int .i64 (5), .int .i64 (6), .int .i64 (8), .int .i64 (9), .int .i64 (255), .int .i64 (256), .int .i64 (1073741824), .int .i64 (1073741825), .int .i64 (4611686018427387903), .int .i64 (4611686018427387904)] : Array Value)[i]? = some (.int .i64 (zfB.getD i 0)) := by
 have h : i = 0 ∨ i = 1 ∨ i = 2 ∨ i = 3 ∨ i = 4 ∨ i = 5 ∨ i = 6 ∨ i = 7 ∨ i = 8 ∨ i = 9 ∨ i = 10 ∨ i = 11 ∨ i = 12 ∨ i = 13 ∨ i = 14 := by omega
 rcases h with rfl | rfl | rfl | rfl | rfl | rfl | rfl | rfl | rfl | rfl | rfl | rfl | rfl | rfl | rfl <;> rfl
theorem zfY (w : World) (g : Nat) (x : LetM) (hs : Sl w (· = g) (some ⟨g, 0, none⟩) (zai [zag, x])) (hx : za3 w (fun _ => True) x) (bx : zd1 x) (hin : za3 w (· < w.heap.size) x) :
  Calls Tryz.prog 5 #[.slice (some ⟨g, 0, none⟩) 2 2, .agg (letA x), .agg (letA zag)] w fun e w' => e = .returned (.bool true) ∧ Nw w w' := by
 have hs2 : Sl w (· < w.heap.size) (some ⟨g, 0, none⟩) (zai [zag, x]) := hs.mono fun b hb hl => hl
 refine zgx w (· < w.heap.size) (some ⟨g, 0, none⟩) 2 [zag, x] x zag hs2 (fun e he => ?_) (fun e he => ?_) (by simp) hin (za3.vote _ _) bx za8.vote.bd (fun _ h => h)
 ·simp only [List.mem_cons, List.not_mem_nil, or_false] at he
  rcases he with rfl | rfl
  ·exact za3.vote _ _
  ·exact hin
 ·simp only [List.mem_cons, List.not_mem_nil, or_false] at he
  rcases he with rfl | rfl
  ·exact za8.vote.bd
  ·exact bx
theorem zlN (w : World) (g : Nat) (x : LetM) (hs : Sl w (· = g) (some ⟨g, 0, none⟩) (zai [x])) (bx : zd1 x) (hin : za3 w (· < w.heap.size) x) :
  Calls Tryz.prog 5 #[.slice (some ⟨g, 0, none⟩) 1 1, .agg (letA x), .agg (letA x)] w fun e w' => e = .returned (.bool true) ∧ Nw w w' := by
 have hs2 : Sl w (· < w.heap.size) (some ⟨g, 0, none⟩) (zai [x]) := hs.mono fun b hb hl => hl
 refine zgx w (· < w.heap.size) (some ⟨g, 0, none⟩) 1 [x] x x hs2 (fun e he => ?_) (fun e he => ?_) (by simp) hin hin bx bx (fun _ h => h)
 ·rw [List.mem_singleton.1 he]; exact hin
 ·rw [List.mem_singleton.1 he]; exact bx
abbrev BT := Nat × Ls UInt8
def BlC (md : Region.Mode) (ops : Array Oper) (k p : Nat) (W1 : World) (cs : List Value) (bs : List UInt8) (L : Nat → Bool) (B : BkT BT) (w : World) : Prop :=
 zdA md ops L ∧ Nw W1 w ∧ (L k = true → Sl w (· = (B k).1) (some ⟨(B k).1, 0, none⟩) cs) ∧ (L p = true → LsHd w (fun j => W1.heap.size ≤ j) 5 1 zaw (B p).2 ∧ (B p).2.l = bs)
theorem BlC.more {k p : Nat} {W1 w w' : World} {cs : List Value} {bs : List UInt8} {L : Nat → Bool} {B : BkT BT} (h : Nw W1 w ∧ (L k = true → Sl w (· = (B k).1) (some ⟨(B k).1, 0, none⟩) cs) ∧ (L p = true → LsHd w (fun j => W1.heap.size ≤ j) 5 1 zaw (B p).2 ∧ (B p).2.l = bs)) (q : Nw w w') :
  Nw W1 w' ∧ (L k = true → Sl w' (· = (B k).1) (some ⟨(B k).1, 0, none⟩) cs) ∧ (L p = true → LsHd w' (fun j => W1.heap.size ≤ j) 5 1 zaw (B p).2 ∧ (B p).2.l = bs) :=
 ⟨h.1.tr q, fun hk => (h.2.1 hk).fr q (fun _ _ h => h), fun hp => ⟨(h.2.2 hp).1.fr q (fun _ _ h => h), (h.2.2 hp).2⟩⟩
theorem zdq {P : Program} {id : Nat} {Q : Exit → Act → World → Prop} {a : Act} {w : World} {l : List Oper} (k p : Nat) (W1 : World) (cs : List Value) (bs : List UInt8) (hm : P.follows .mixedOrders = true) (hB : effB .any l.toArray = true) (h0 : Nw W1 w)
  (h : zcz .any P l.toArray (BlC .any l.toArray k p W1 cs bs) (fun B a' => ∀ w', BlC .any l.toArray k p W1 cs bs (fun j => decide (j < l.length)) B w' → Q .normal a' w') l 0 (fun _ => a)) : (Code.region id l.toArray true).wp P Q a w :=
 zdG (BlC .any l.toArray k p W1 cs bs) (fun _ => (0, lsZ)) hm hB ⟨fun _ _ _ h => (by cases h), h0.drew, fun h => (by cases h), fun h => (by cases h)⟩ h
theorem zdy {P : Program} {T : Type} {E : TypeId} {w : World} {o : Oper} {a : Act} {vf : T → Value} {K : T → World → Prop} (t : TypeId) (n : Nat) (ps : List (Nat × Operand)) (C : Nat) (vs : List (List Value)) (z : Value) (ho : o.op = .buildSlice t n ps.toArray) (ht : P.underlying t = some (.slice E)) (hinfo : (P.info? E).map (fun i => (i.zero, i.size)) = some (some z, C))
  (hn : vs.length = n) (hn0 : 0 < n) (hC : 0 < C) (hl : ∀ v ∈ vs, v.length = C) (hsz : n * C ≤ 16777216)
  (hp : (ps.map fun (i, x) => (i, a.eval x)) = (vs.zipIdx 0).map fun p => (p.2, Value.agg p.1.toArray))
  (h : ∃ b, .slice (some ⟨w.heap.size, 0, none⟩) n n = vf b ∧ K b (w.alloc (.cells vs.flatten.toArray E))) : zbP P o a vf K w := by
 subst hn
 unfold zbP execOp
 simp only [ho, List.map_toArray, hp]
 rw [Sem.run_bind, zfi w t E C vs z ht hinfo hn0 hC hl hsz]
 exact h
def e0M : EntM := ⟨1, 1, lsZ, zcS⟩
theorem zau.e0 (w : World) (F : Nat → Prop) : zau w F e0M := ⟨⟨by decide, by decide⟩, LsIn.nil w F zaw rfl, zaD.zero w F⟩
theorem zaW.e0 : zaW e0M := ⟨by decide, zaY.zero⟩
def zge (A : Option Addr) (c k : Nat) : LetM := { zag with ents := ⟨A, c, List.replicate k e0M⟩ }
theorem zlo {w : World} {F : Nat → Prop} {A : Option Addr} {c k : Nat} (hs : Sl w F A (zal (List.replicate k e0M))) (hc : k ≤ c ∧ c ≤ maxLen) : za3 w F (zge A c k) :=
 ⟨(za3.vote w F).kind, ⟨hs, by show (List.replicate k e0M).length ≤ c ∧ c ≤ maxLen; rw [List.length_replicate]; exact hc⟩, fun e he => by rw [List.eq_of_mem_replicate he]; exact zau.e0 _ _, (za3.vote w F).cfg, (za3.vote w F).bytes⟩
theorem zlQ {A : Option Addr} {c k : Nat} (hk : k ≤ 32) : zd1 (zge A c k) :=
 ⟨by show (List.replicate k e0M).length ≤ _; simp; omega, fun e he => by rw [List.eq_of_mem_replicate he]; exact zaW.e0.bd, za8.vote.bd.cfg, za8.vote.bd.bytes⟩
def zkw (W0 : World) (X : Nat) (v i : Value) (wr : World) : Prop := ∃ (k : Nat) (A : Option Addr) (c : Nat), k ≤ 32 ∧ i = .int .i64 k ∧ v = .slice A k c ∧ Own wr 87 7 A k c (zal (List.replicate k e0M)) ∧ (∀ j, inA A j → W0.heap.size ≤ j ∧ j ≠ X) ∧ Nw W0 wr ∧ Blk wr X 87 (entA e0M)
def StepNw (w : World) (i : Value) (wx : World) : Prop := ∃ j : Nat, j ≤ 86 ∧ i = .int .i64 ((3 * j : Nat) : Int) ∧ Nw w wx
def zb3 (R n : Nat) : LetM := { zag with bytes := ⟨some ⟨R, 0, none⟩, n, List.replicate n 0⟩ }
theorem zi0 {w : World} {F : Nat → Prop} {R n : Nat} (hs : Sl w F (some ⟨R, 0, none⟩) ((List.replicate n (0 : UInt8)).map B8)) (hn : n ≤ maxLen) : za3 w F (zb3 R n) :=
 ⟨(za3.vote w F).kind, (za3.vote w F).ents, (za3.vote w F).each, (za3.vote w F).cfg, ⟨hs, by show (List.replicate n (0 : UInt8)).length ≤ n ∧ n ≤ maxLen; rw [List.length_replicate]; exact ⟨Nat.le_refl _, hn⟩⟩⟩
theorem zlt {R n : Nat} (hn : n ≤ 1000000) : za8 (zb3 R n) := ⟨za8.vote.ents, za8.vote.each, za8.vote.cfg, by show (List.replicate n (0 : UInt8)).length ≤ _; rw [List.length_replicate]; exact hn⟩
theorem zlx {R n : Nat} : zbF ([zb3 R n].map LetM.x) = decide (n ≤ 131072) := by
 have h := zj4
 unfold zaE at h
 simp only [Bool.and_eq_true] at h
 obtain ⟨h1, h2, h3, h4, h5, h6⟩ := h
 have e : (zb3 R n).x.bytes.length = n := List.length_replicate
 show (zaE (zb3 R n).x && true) = _
 unfold zaE
 rw [e]
 have a1 : (zbd (zb3 R n).x.term && (zbd (zb3 R n).x.index && (zbd (zb3 R n).x.logt && (zbd (zb3 R n).x.commit && (zbd (zb3 R n).x.size && zbd (zb3 R n).x.at_))))) = true := by show (zbd 4 && (zbd 0 && (zbd 0 && (zbd 0 && (zbd 0 && zbd 0))))) = true; decide
 have a2 : decide (0 ≤ (zb3 R n).x.tag ∧ (zb3 R n).x.tag ≤ 4611686018427387903) = true := by show decide ((0:Int) ≤ 0 ∧ (0:Int) ≤ 4611686018427387903) = true; decide
 have a3 : (decide (1 ≤ (zb3 R n).x.kind ∧ (zb3 R n).x.kind ≤ 8) && (decide (0 ≤ (zb3 R n).x.group ∧ (zb3 R n).x.group ≤ 4) && (decide (1 ≤ (zb3 R n).x.src ∧ (zb3 R n).x.src ≤ 5) && decide (1 ≤ (zb3 R n).x.dst ∧ (zb3 R n).x.dst ≤ 5)))) = true := by show (decide ((1:Int) ≤ 2 ∧ (2:Int) ≤ 8) && (decide ((0:Int) ≤ 1 ∧ (1:Int) ≤ 4) && (decide ((1:Int) ≤ 2 ∧ (2:Int) ≤ 5) && decide ((1:Int) ≤ 3 ∧ (3:Int) ≤ 5)))) = true; decide
 have a4 : decide ((zb3 R n).x.ents.length ≤ 30) = true := by show decide (([] : List Ent).length ≤ 30) = true; decide
 have a5 : zbi (zb3 R n).x.base = true := by show zbi zcP.x = true; decide
 have a6 : (zb3 R n).x.ents.all zbm = true := rfl
 rw [a1, a2, a3, a4, a5, a6]
 simp
theorem zhr (w : World) (g R n : Nat) (hs : Sl w (· = g) (some ⟨g, 0, none⟩) (zai [zb3 R n])) (hin : za3 w (fun _ => True) (zb3 R n)) (hn : n ≤ 1000000) :
  Calls Tryz.prog 35 #[.slice (some ⟨g, 0, none⟩) 1 1] w fun e w' => e = .returned (.bool (decide (n ≤ 131072))) ∧ Nw w w' := by
 have h := zd3 w (fun _ => True) (some ⟨g, 0, none⟩) 1 [zb3 R n] (hs.mono fun _ _ _ => trivial) (fun e he => by rw [List.mem_singleton.1 he]; exact hin) (fun e he => by rw [List.mem_singleton.1 he]; exact zlt hn) (by simp)
 rwa [zlx] at h
def zM (D : Nat) : LetM :=
 ⟨3, 0, 1, 2, 3, 0, 0, 0, false, ⟨some ⟨D + 2, 0, none⟩, 3, [e0M, ⟨2, 2, ⟨some ⟨D, 0, none⟩, 1, [9]⟩, zcS⟩, ⟨2, 3, lsZ, { zcS with v := ⟨some ⟨D + 1, 0, none⟩, 2, [1, 2]⟩ }⟩]⟩, ⟨1, 0, { zcS with o := ⟨some ⟨D + 3, 0, none⟩, 1, [5]⟩ }⟩, 0, 0, 0, ⟨some ⟨D + 4, 0, none⟩, 2, [1, 2]⟩⟩
theorem zM_in {w : World} {F : Nat → Prop} {D : Nat} (h0 : Sl w F (some ⟨D, 0, none⟩) (zaw [9])) (h1 : Sl w F (some ⟨D + 1, 0, none⟩) (zac [1, 2])) (h2 : Sl w F (some ⟨D + 2, 0, none⟩) (zal (zM D).ents.l)) (h3 : Sl w F (some ⟨D + 3, 0, none⟩) (zac [5])) (h4 : Sl w F (some ⟨D + 4, 0, none⟩) (zaw [1, 2])) : za3 w F (zM D) := by
 refine ⟨⟨by show (0 : Int) ≤ 3; decide, by show (3 : Int) ≤ 255; decide⟩, ⟨h2, by show 3 ≤ 3 ∧ 3 ≤ maxLen; decide⟩, fun e he => ?_, ⟨LsIn.nil w F zac rfl, ⟨h3, by show 1 ≤ 1 ∧ 1 ≤ maxLen; decide⟩, LsIn.nil w F zac rfl, LsIn.nil w F zac rfl⟩, ⟨h4, by show 2 ≤ 2 ∧ 2 ≤ maxLen; decide⟩⟩
 simp only [zM, List.mem_cons, List.not_mem_nil, or_false] at he
 rcases he with rfl | rfl | rfl
 ·exact zau.e0 _ _
 ·exact ⟨⟨by show (0 : Int) ≤ 2; decide, by show (2 : Int) ≤ 255; decide⟩, ⟨h0, by show 1 ≤ 1 ∧ 1 ≤ maxLen; decide⟩, zaD.zero w F⟩
 ·exact ⟨⟨by show (0 : Int) ≤ 3; decide, by show (3 : Int) ≤ 255; decide⟩, LsIn.nil w F zaw rfl, ⟨⟨h1, by show 2 ≤ 2 ∧ 2 ≤ maxLen; decide⟩, LsIn.nil w F zac rfl, LsIn.nil w F zac rfl, LsIn.nil w F zac rfl⟩⟩
theorem zM_sz (D : Nat) : za8 (zM D) := by
 refine ⟨by show 3 ≤ 1000000; omega, fun e he => ?_, ⟨by show 0 ≤ 1000000; omega, by show 1 ≤ 1000000; omega, by show 0 ≤ 1000000; omega, by show 0 ≤ 1000000; omega⟩, by show 2 ≤ 1000000; omega⟩
 simp only [zM, List.mem_cons, List.not_mem_nil, or_false] at he
 rcases he with rfl | rfl | rfl
 ·exact zaW.e0
 ·exact ⟨by show 1 ≤ 1000000; omega, zaY.zero⟩
 ·exact ⟨by show 0 ≤ 1000000; omega, ⟨by show 2 ≤ 1000000; omega, by show 0 ≤ 1000000; omega, by show 0 ≤ 1000000; omega, by show 0 ≤ 1000000; omega⟩⟩
theorem zj7 (w w' : World) (g : Nat) (x : LetM) (hg : g = w.heap.size) (hw : w' = w.alloc (.cells (letA x) 50)) : Sl w' (· = g) (some ⟨g, 0, none⟩) (zai [x]) := by
 rw [hg, hw]
 exact zff w x
open Go Go.RowKit
def zcZ : List Bool → Code → Code
 | [], c => c
 | false :: p, .seq a _ => zcZ p a
 | true :: p, .seq _ b => zcZ p b
 | _ :: p, .block _ c => zcZ p c
 | _ :: p, .scope c => zcZ p c
 | _ :: p, .loop c => zcZ p c
 | false :: p, .cond _ a _ => zcZ p a
 | true :: p, .cond _ _ b => zcZ p b
 | _, c => c
noncomputable def zlh : Code := zcZ [true, true, true, true, true, true, true, true, true, true, true, true, false] (Tryz.f7.body.getD .skip)
noncomputable def zkR : Code := zcZ [true, true, true, true, true, true, true, true, true, true, true, true, true] (Tryz.f7.body.getD .skip)
theorem zlI (W wr : World) (D : Nat) (b7 : Blk wr (D + 5) 50 (letA (zM D))) (i7 : za3 wr (fun k => k ≠ D + 5) (zM D)) (hq : Nw W wr) {c0 c1 c2 c3 c4 c5 c6 c7 c8 c9 c10 c11 c13 c14 c15 c16 c17 c18 c19 c20 c21 c22 c23 c24 c25 c26 c27 c28 c29 c30 c31 c32 c33 c34 c35 c36 c37 c38 c39 c40 c41 c42 c43 c44 c45 c46 c47 c48 c49 c50 c51 c52 c53 c54 c55 c56 c57 c58 c59 c60 c61 c62 c63 c64 c65 c66 c67 c68 c69 c70 c71 c72 c73 c74 c75 c76 c77 c78 c79 c80 c81 c82 c83 c84 c85 c86 c87 c88 c89 c90 c91 c92 c93 c94 c95 c96 c97 c98 c99 c100 c101 c102 c103 c104 c105 c106 c107 c108 c109 c110 c111 c112 c113 c114 c115 c116 c117 c118 c119 c120 c121 c122 c123 c124 c125 c126 c127 c128 c129 c130 c131 c132 c133 c134 c135 c136 c137 c138 c139 c140 c141 c142 c143 c144 c145 c146 c147 c148 c149 c150 c151 c152 c153 c154 c155 c156 c157 c158 c159 c160 c161 c162 c163 c164 c165 c166 c167 c168 c169 c170 c171 c172 c173 c174 c175 c176 c177 c178 c179 c180 : Value} (Q : Exit → Act → World → Prop) (hQ : Q = (bodyPost Tryz.prog Tryz.f7 fun e w' => e = .returned (.bool true) ∧ Nw W w')) (K : Act → World → Prop) (hK : ∀ a w, Code.wp Tryz.prog zkR Q a w → K a w) :
  Code.wp Tryz.prog zlh (Exit.then K Q) ⟨#[c0, c1, c2, c3, c4, c5, c6, c7, c8, c9, c10, c11, Value.pointer (some ⟨D + 5, 0, none⟩), c13, c14, c15, c16, c17, c18, c19, c20, c21, c22, c23, c24, c25, c26, c27, c28, c29, c30, c31, c32, c33, c34, c35, c36, c37, c38, c39, c40, c41, c42, c43, c44, c45, c46, c47, c48, c49, c50, c51, c52, c53, c54, c55, c56, c57, c58, c59, c60, c61, c62, c63, c64, c65, c66, c67, c68, c69, c70, c71, c72, c73, c74, c75, c76, c77, c78, c79, c80, c81, c82, c83, c84, c85, c86, c87, c88, c89, c90, c91, c92, c93, c94, c95, c96, c97, c98, c99, c100, c101, c102, c103, c104, c105, c106, c107, c108, c109, c110, c111, c112, c113, c114, c115, c116, c117, c118, c119, c120, c121, c122, c123, c124, c125, c126, c127, c128, c129, c130, c131, c132, c133, c134, c135, c136, c137, c138, c139, c140, c141, c142, c143, c144, c145, c146, c147, c148, c149, c150, c151, c152, c153, c154, c155, c156, c157, c158, c159, c160, c161, c162, c163, c164, c165, c166, c167, c168, c169, c170, c171, c172, c173, c174, c175, c176, c177, c178, c179, c180], []⟩ wr := by
 conv => arg 2; whnf
 conv at hK => enter [a, w]; lhs; arg 2; whnf
 have HQ := Lib.hid hQ
 clear hQ
 obtain ⟨r, hr⟩ : ∃ r, zbU [zag.x, (zM D).x] = r := ⟨_, rfl⟩
 obtain ⟨er, her⟩ : ∃ er, zk0 r = er := ⟨_, rfl⟩
 obtain ⟨bs, hbs⟩ : ∃ bs, r.getD [] = bs := ⟨_, rfl⟩
 obtain ⟨nb, hnb⟩ : ∃ n, bs.length = n := ⟨_, rfl⟩
 have hbl : nb ≤ 13000000000 := by
  rw [← hnb, ← hbs, ← hr]
  exact zjc [zag, zM D] (by simp)
 have cput : ∀ w g, Nw wr w → Sl w (· = g) (some ⟨g, 0, none⟩) (zai [zag, zM D]) → Calls Tryz.prog 32 #[.slice (some ⟨g, 0, none⟩) 2 2] w fun e w' => ∃ s : Ls UInt8, e = .returned (.tuple #[.slice s.a nb s.c, .int .i64 er]) ∧ LsHd w' (fun k => w.heap.size ≤ k) 5 1 zaw s ∧ s.l = bs ∧ Nw w w' := fun w g q hs => by
  have h1 := zii w (fun _ => True) (some ⟨g, 0, none⟩) 2 [zag, zM D] (hs.mono fun _ _ _ => trivial) (fun e he => by
   simp only [List.mem_cons, List.not_mem_nil, or_false] at he
   rcases he with rfl | rfl
   ·exact za3.vote _ _
   ·exact (i7.nw q).mono fun _ _ _ => trivial) (fun e he => by
   simp only [List.mem_cons, List.not_mem_nil, or_false] at he
   rcases he with rfl | rfl
   ·exact za8.vote
   ·exact zM_sz D) (by simp)
  have e1 : [zag, zM D].map LetM.x = [zag.x, (zM D).x] := rfl
  rw [e1, hr] at h1
  refine h1.mono ?_
  intro e w' h2
  obtain ⟨s, h3, h4, h5, h6⟩ := h2.one
  rw [her] at h3
  have h7 : s.l.length = nb := by rw [h4, hbs, hnb]
  rw [h7] at h3
  exact ⟨s, h3, h5, h4.trans hbs, h6⟩
 have xb : ∀ w9, Nw wr w9 → ∀ p u, (letL (zM D))[p]? = some u → w9.cell? ⟨D + 5, 0 + p, none⟩ = some u := fun w9 q => Blk.cells_at (l := letL (zM D)) (b7.fr q (fun h => h)) 0
 have CPUT := Lib.hid cput
 have XB := Lib.hid xb
 have HNB := Lib.hid hnb
 have HBL := Lib.hid hbl
 clear cput xb hnb hbl hr her hbs
 go_upto_region 34 with (fail)
 refine zdq 2 3 wr (zai [zag, zM D]) bs (by kernel_rfl) (by kernel_rfl) (Fr.refl _ _) ?_
 apply zak
 focus
  intro B L wz hL hD hC
  have HC := Lib.hid hC
  refine .inl ⟨by rfl, ?_⟩
  unfold za2
  go_simp
  refine (zca wz).mono ?_
  rintro e w9 ⟨rfl, q9⟩
  refine ⟨rfl, HC.out.1.step (by kernel_rfl) hD, ?_⟩
  have h9 := BlC.more HC.out.2 q9
  simpa [onL] using h9
 simp only [Act.put, sA9, sB9, sC9]
 apply zak
 focus
  intro B L wz hL hD hC
  have hlx := XB.out wz hC.2.1
  refine .inl ⟨by rfl, ?_⟩
  exact zaC 50 _ rfl (D + 5) 0 rfl (letL (zM D)) _ hlx Tryz.underlying50 rfl (by kernel_rfl) ⟨hC.1.step (by kernel_rfl) hD, by simpa [onL] using hC.2⟩
 simp only [Act.put, sA9, sB9, sC9]
 refine zaU (fun b => .slice (some ⟨b.1, 0, none⟩) 2 2) ?_ ?_
 focus
  intro B L wz hL hD hC
  have n3 := hC.1.no (a := 3) (b := 2) (by kernel_rfl) hL
  obtain ⟨q8, s8⟩ := zea (w := wz) [zag, zM D] rfl rfl
  have h9 := BlC.more hC.2 q8
  refine .inl ⟨by rfl, ?_⟩
  refine zdy 28 2 _ 20 [letL zag, letL (zM D)] (.agg zL9A) rfl Tryz.underlying28 (by kernel_rfl) rfl (by decide) (by decide) (by simp) (by decide) rfl ⟨(wz.heap.size, lsZ), rfl, hC.1.step (by kernel_rfl) hD, ?_⟩
  refine ⟨h9.1, fun _ => ?_, fun h => ?_⟩
  ·simpa [updT] using s8
  ·simp [onL, n3] at h
 simp only [Act.put, sA9, sB9, sC9]
 refine zaU (fun b => .tuple #[.slice b.2.a nb b.2.c, .int .i64 er]) ?_ ?_
 focus
  intro B L wz hL hD hC
  have a2 := hD 2 (by kernel_rfl)
  have HC := Lib.hid hC
  have cp := CPUT.out wz (B 2).1 hC.2.1 (hC.2.2.1 a2)
  refine .inl ⟨by rfl, ?_⟩
  unfold zbP
  go_simp
  refine cp.mono ?_
  rintro e w9 ⟨s, rfl, hs, he, q9⟩
  refine ⟨(0, s), rfl, HC.out.1.step (by kernel_rfl) hD, ?_⟩
  have h9 := BlC.more HC.out.2 q9
  refine ⟨h9.1, fun h => ?_, fun _ => ?_⟩
  ·simpa [onL, updT] using h9.2.1 (by simpa [onL] using h)
  ·simpa [updT] using (⟨hs.mono (fun k hk _ => Nat.le_trans HC.out.2.1.size hk), he⟩ : LsHd w9 (fun j => wr.heap.size ≤ j) 5 1 zaw s ∧ s.l = bs)
 simp only [Act.put, sA9, sB9, sC9]
 refine zdC (fun B => .tuple #[.slice (B 3).2.a nb (B 3).2.c, .int .i64 er]) (fun B B' h => by simp only [h 3 (by kernel_rfl)]) ?_ ?_
 focus
  intro B L wz hL hD hC
  refine .inl ⟨by rfl, ?_⟩
  unfold za2
  go_simp
  exact ⟨rfl, hC.1.step (by kernel_rfl) hD, by simpa [onL] using hC.2⟩
 simp only [Act.put, sA9, sB9, sC9]
 refine zdC (fun B => .slice (B 3).2.a nb (B 3).2.c) (fun B B' h => by simp only [h 3 (by kernel_rfl)]) ?_ ?_
 focus
  intro B L wz hL hD hC
  refine .inl ⟨by rfl, ?_⟩
  unfold za2
  go_simp
  exact ⟨rfl, hC.1.step (by kernel_rfl) hD, by simpa [onL] using hC.2⟩
 simp only [Act.put, sA9, sB9, sC9]
 apply zak
 focus
  intro B L wz hL hD hC
  refine .inl ⟨by rfl, ?_⟩
  unfold za2
  go_simp
  exact ⟨rfl, hC.1.step (by kernel_rfl) hD, by simpa [onL] using hC.2⟩
 simp only [Act.put, sA9, sB9, sC9]
 refine zdC (fun B => .slice (B 3).2.a nb (B 3).2.c) (fun B B' h => by simp only [h 3 (by kernel_rfl)]) ?_ ?_
 focus
  intro B L wz hL hD hC
  refine .inl ⟨by rfl, ?_⟩
  unfold za2
  go_simp
  exact ⟨rfl, hC.1.step (by kernel_rfl) hD, by simpa [onL] using hC.2⟩
 simp only [Act.put, sA9, sB9, sC9]
 apply zak
 focus
  intro B L wz hL hD hC
  refine .inl ⟨by rfl, ?_⟩
  unfold za2
  go_simp
  exact ⟨rfl, hC.1.step (by kernel_rfl) hD, by simpa [onL] using hC.2⟩
 simp only [Act.put, sA9, sB9, sC9]
 refine zcH fun B w7 hC => ?_
 have q7' : Nw wr w7 := hC.2.1
 obtain ⟨hs, he⟩ := hC.2.2.2 (by simp)
 generalize (B 3).2 = s at hs he ⊢
 generalize (B 2).1 = n2
 clear hC XB CPUT
 obtain ⟨As, cs, sl⟩ := s
 have he2 : sl = bs := he
 subst he2
 have hcap : nb ≤ cs ∧ cs ≤ maxLen := by have h1 := hs.own.cap_le; have h2 := HNB.out; simp only at h1; omega
 have hnb := HBL.out
 have sb : Sl w7 (· < w7.heap.size) As (sl.map B8) := hs.own.sl.mono fun j _ hl => hl
 have Q7 : Nw W w7 := hq.tr q7'
 have gets : ∀ w (F : Nat → Prop) A c (b : List UInt8), Sl w F A (b.map B8) → b.length ≤ c → c ≤ maxLen → Calls Tryz.prog 6 #[.slice A b.length c] w fun e w' => e = .returned (.bool true) ∧ Nw w w' := fun w F A c b h1 h2 h3 => zjr w A c b (h1.mono fun j _ hl => hl) h2 h3
 have GETS := Lib.hid gets
 clear gets he hs b7 i7 hq q7'
 go_wp2_with fail
 go_loopw [15] (fun i wx => zbt w7 nb i wx) (fun i _ => nb - (intOf i).toNat)
 case atStart => exact ⟨0, Nat.zero_le _, rfl, Fr.refl _ _⟩
 case round =>
  obtain ⟨i, hi, rfl, hq1⟩ := hrel
  by_cases hlt : i < nb
  ·have hi0 : (i : Int) < (nb : Int) := by omega
   have hi1 : decide ((i : Int) < (nb : Int)) = true := decide_eq_true hi0
   have hi2 : decide (i < nb) = true := decide_eq_true hlt
   go_wp2_with fail
   go_loopw [16] (fun k wx => StepNw w7 k wx) (fun k _ => 300 - (intOf k).toNat)
   case atStart => exact ⟨0, by omega, rfl, hq1⟩
   case round =>
    obtain ⟨j, hj, rfl, hq2⟩ := hrel
    obtain ⟨z, hz⟩ : ∃ z : Nat, 3 * j = z := ⟨_, rfl⟩
    have HZ := Lib.hid hz
    rw [hz]
    have hz9 : z ≤ 258 := by omega
    clear hz
    by_cases hltz : z < 256
    ·have hk0 : (z : Int) < 256 := by omega
     have hk1 : decide ((z : Int) < 256) = true := decide_eq_true hk0
     have hk2 : decide (z < 256) = true := decide_eq_true hltz
     have sw := sb.fr hq2 (fun _ _ h => h)
     have swa := sw.alloc (.cells #[] 5)
     have hlb : (sl.map B8).length = nb * 1 := by rw [List.length_map, HNB.out, Nat.mul_one]
     have HLB := Lib.hid hlb
     clear hlb
     go_upto_region 42 with (at_builtin; refine zdm rfl _ _ _ rfl 1 (.int .u8 0) Tryz.underlying48 zaL rfl (by decide) rfl (Own.new wr 5 1 0 0 #[] (Nat.le_refl _) (by decide) rfl) rfl swa HLB.out (zar _) (by omega) (by unfold maxLen; omega) ?_; intro A' cap' w8 ho hf hin)
     simp only [Nat.zero_add, Nat.zero_mul, List.take_zero, List.nil_append] at ho ⊢
     have q8 : Nw wr w8 := ((Fr.refl (fun _ => False) wr).alloc _).trans hf fun k hk => .inr (by rw [(za9 _ _).1 hk]; exact Nat.le_refl _)
     have hbase : ∀ k, inA A' k → wr.heap.size ≤ k := fun k hk => by
      rcases hin k hk with h | h
      ·rw [(za9 _ _).1 h]; exact Nat.le_refl _
      ·rw [h]; simp
     obtain ⟨g, hg⟩ : ∃ g, A' = some ⟨g, 0, none⟩ := by
      rcases ho.2 with ⟨_, h, _⟩ | ⟨g, cur, h, _⟩
      ·omega
      ·exact ⟨g, h⟩
     subst hg
     obtain ⟨u, hcu⟩ : ∃ u, w8.cell? ⟨g, i, none⟩ = some u := ho.cellEx (by omega)
     have hfz := ho.frozenAt i
     have hcap8 := ho.cap_le
     have eb : B8 (UInt8.ofNat z) = .int .u8 (z : Int) := by
      show Value.int .u8 ((UInt8.ofNat z).toNat : Int) = _
      rw [UInt8.toNat_ofNat', Nat.mod_eq_of_lt (by omega)]
     obtain ⟨w9, hw9⟩ : ∃ w, w = w8.setCell ⟨g, i, none⟩ (.int .u8 (z : Int)) := ⟨_, rfl⟩
     have ho9 : Own w9 5 1 (some ⟨g, 0, none⟩) nb cap' ((sl.set i (UInt8.ofNat z)).map B8) := by
      have h := ho.store i (B8 (UInt8.ofNat z))
      rw [← List.map_set, eb, ← hw9] at h
      exact h
     have q9 : Nw wr w9 := by rw [hw9]; exact q8.setCell (p := ⟨g, i, none⟩) (.inr (hbase g ((za9 _ _).2 rfl))) _
     have hget := GETS.out w9 _ (some ⟨g, 0, none⟩) cap' (sl.set i (UInt8.ofNat z)) ho9.sl (by rw [List.length_set, HNB.out]; omega) hcap8.2
     rw [List.length_set, HNB.out] at hget
     have HGT := Lib.hid hget
     have HW9 := Lib.hid hw9
     clear hget hw9 eb ho ho9 hf hin sw swa q8 hbase
     go_upto_region 43 with (fail)
     rw [← HW9.out]
     go_wp2_with fail
     refine HGT.out.mono ?_
     rintro e w10 ⟨rfl, q10⟩
     clear HGT HW9
     go_wp2_with fail
     go_roundw
     case rel => exact ⟨j + 1, by have := HZ.out; omega, by have := HZ.out; have e : ((3 * (j + 1) : Nat) : Int) = (z : Int) + 3 := (by omega); rw [e], (hq2.tr q9).tr q10⟩
     case measure => simp [intOf]; omega
    ·have hk1 : decide ((z : Int) < 256) = false := decide_eq_false (by omega)
     have hk2 : decide (z < 256) = false := decide_eq_false hltz
     have hk0 : ¬ (z : Int) < 256 := by omega
     have s1 := zcN (P := Tryz.prog) 48 zc5 1 zcg As nb cs i (by omega)
     have sw := sb.fr hq2 (fun _ _ h => h)
     have hpre : Sl wr (· < w7.heap.size) As ((sl.take i).map B8) := by
      have h := sw.pre (k := i)
      rwa [← List.map_take] at h
     have hget := GETS.out wr _ As cs (sl.take i) hpre (by rw [List.length_take, HNB.out]; omega) hcap.2
     have hti : (sl.take i).length = i := by rw [List.length_take, HNB.out]; omega
     rw [hti] at hget
     have HGT := Lib.hid hget
     clear hget hti hpre
     go_wp2_with fail
     refine HGT.out.mono ?_
     rintro e w10 ⟨rfl, q10⟩
     clear HGT s1
     have sw10 := sw.fr q10 (fun _ _ h => h)
     have swa := sw10.alloc (.cells #[] 5)
     have hlb : (sl.map B8).length = nb * 1 := by rw [List.length_map, HNB.out, Nat.mul_one]
     have HLB := Lib.hid hlb
     obtain ⟨v, hv⟩ : ∃ v : UInt8, v = UInt8.ofNat i := ⟨_, rfl⟩
     have ev : B8 v = .int .u8 ((i : Int) % 256) := by
      rw [hv]
      show Value.int .u8 ((UInt8.ofNat i).toNat : Int) = _
      rw [UInt8.toNat_ofNat']
      congr 1
     have slv : ∀ w : World, Sl (w.alloc (.cells #[.int .u8 ((i : Int) % 256)] 5)) (· = w.heap.size) (some ⟨w.heap.size, 0, none⟩) ([v].map B8) := fun w => by
      have h := zaI w 5 [.int .u8 ((i : Int) % 256)] _ rfl
      rw [List.map_singleton, ev]
      exact h
     clear hlb hv
     go_wp2_with (first | (at_builtin; refine zfO (by kernel_rfl) _ _ _ rfl 1 (.int .u8 0) Tryz.underlying48 zaL rfl (by decide) rfl (ho8.alloc (.cells #[.int .u8 ((i : Int) % 256)] 5)) rfl (slv w8) rfl (zar [v]) (by omega) (by unfold maxLen; omega) ?_; intro A9 cap9 w9 hap9) | (at_builtin; refine zfO (by kernel_rfl) _ _ _ rfl 1 (.int .u8 0) Tryz.underlying48 zaL rfl (by decide) rfl (Own.new w10 5 1 0 0 #[] (Nat.le_refl _) (by decide) rfl) rfl swa HLB.out (zar _) (by omega) (by unfold maxLen; omega) ?_; intro A' cap' w8 hap; obtain ⟨ho8, q8, b8⟩ := hap.newOwn (w0 := w10) ((Fr.refl (fun _ => False) w10).alloc _) (fun k hk => by rw [(za9 _ _).1 hk]; exact Nat.le_refl _); simp only [Nat.zero_add, Nat.zero_mul, List.take_zero, List.nil_append] at ho8 ⊢))
     obtain ⟨ho9, q9, _⟩ := hap9.newOwn (w0 := w10) (q8.alloc _) b8
     rw [← List.map_append] at ho9
     have hget := GETS.out w9 _ A9 cap9 (sl ++ [v]) ho9.sl (by have := ho9.cap_le; rw [List.length_append, HNB.out]; exact this.1) ho9.cap_le.2
     have hlv : (sl ++ [v]).length = nb + 1 := by rw [List.length_append, HNB.out]; rfl
     rw [hlv] at hget
     have HGT := Lib.hid hget
     clear hget hlv ho9 ho8 hap hap9 swa sw10 sw b8 q8
     refine HGT.out.mono ?_
     rintro e w11 ⟨rfl, q11⟩
     clear HGT
     go_wp2_with fail
     go_roundw
     case rel => exact ⟨i + 1, by omega, by go_num, ((hq2.tr q10).tr q9).tr q11⟩
     case measure => simp [intOf]; omega
  ·obtain rfl : nb = i := by omega
   have hi1 : decide ((nb : Int) < (nb : Int)) = false := decide_eq_false (by omega)
   have g1 := GETS.out wr (fun _ => True) none 0 [] (Sl.nil _ _ _) (by simp) (by decide)
   have G1 := Lib.hid g1
   clear g1 sb
   go_wp2_with fail
   refine G1.out.mono ?_
   rintro e w10 ⟨rfl, q10⟩
   have g2 := GETS.out (w10.alloc (.cells #[.int .u8 0] 5)) _ (some ⟨w10.heap.size, 0, none⟩) 1 [0] (zaI w10 5 [.int .u8 0] _ rfl) (by simp) (by decide)
   have G2 := Lib.hid g2
   clear g2 G1
   go_wp2_with fail
   refine G2.out.mono ?_
   rintro e w11 ⟨rfl, q11⟩
   have g3 := GETS.out (w11.alloc (.cells #[.int .u8 255, .int .u8 255, .int .u8 255, .int .u8 255, .int .u8 3] 5)) _ (some ⟨w11.heap.size, 0, none⟩) 5 [255, 255, 255, 255, 3] (zaI w11 5 [.int .u8 255, .int .u8 255, .int .u8 255, .int .u8 255, .int .u8 3] _ rfl) (by simp) (by decide)
   have G3 := Lib.hid g3
   clear g3 G2
   go_wp2_with fail
   refine G3.out.mono ?_
   rintro e w12 ⟨rfl, q12⟩
   clear G3
   go_wp2_with fail
   refine (zdp _).mono ?_
   rintro e w13 ⟨rfl, q13⟩
   have QZ : Nw W w13 := ((((Q7.tr hq1).tr q10).tr ((Fr.refl (fun _ => False) w10).alloc _)).tr q11).tr ((((Fr.refl (fun _ => False) w11).alloc _).tr q12).tr q13)
   go_wp2_with fail
   try simp only [Exit.inBlock, Exit.then]
   rw [HQ.out]
   go_ret
   exact ⟨rfl, QZ⟩
open Go Go.RowKit
noncomputable def zkr : Code := zcZ [true, true, true, true, true, true, true, true, true, true, true, false] (Tryz.f7.body.getD .skip)
noncomputable def zli : Code := zcZ [true, true, true, true, true, true, true, true, true, true, true, true] (Tryz.f7.body.getD .skip)
theorem zlC (W wr : World) (X : Nat) (bX : Blk wr X 87 (entA e0M)) (hq : Nw W wr) {c0 c1 c2 c3 c4 c5 c7 c8 c9 c10 c11 c12 c13 c14 c15 c16 c17 c18 c19 c20 c21 c22 c23 c24 c25 c26 c27 c28 c29 c30 c31 c32 c33 c34 c35 c36 c37 c38 c39 c40 c41 c42 c43 c44 c45 c46 c47 c48 c49 c50 c51 c52 c53 c54 c55 c56 c57 c58 c59 c60 c61 c62 c63 c64 c65 c66 c67 c68 c69 c70 c71 c72 c73 c74 c75 c76 c77 c78 c79 c80 c81 c82 c83 c84 c85 c86 c87 c88 c89 c90 c91 c92 c93 c94 c95 c96 c97 c98 c99 c100 c101 c102 c103 c104 c105 c106 c107 c108 c109 c110 c111 c112 c113 c114 c115 c116 c117 c118 c119 c120 c121 c122 c123 c124 c125 c126 c127 c128 c129 c130 c131 c132 c133 c134 c135 c136 c137 c138 c139 c140 c141 c142 c143 c144 c145 c146 c147 c148 c149 c150 c151 c152 c153 c154 c155 c156 c157 c158 c159 c160 c161 c162 c163 c164 c165 c166 c167 c168 c169 c170 c171 c172 c173 c174 c175 c176 c177 c178 c179 c180 : Value} (Q : Exit → Act → World → Prop) (hQ : Q = (bodyPost Tryz.prog Tryz.f7 fun e w' => e = .returned (.bool true) ∧ Nw W w')) (K : Act → World → Prop) (hK : ∀ a w, Code.wp Tryz.prog zli Q a w → K a w) :
  Code.wp Tryz.prog zkr (Exit.then K Q) ⟨#[c0, c1, c2, c3, c4, c5, Value.pointer (some ⟨X, 0, none⟩), c7, c8, c9, c10, c11, c12, c13, c14, c15, c16, c17, c18, c19, c20, c21, c22, c23, c24, c25, c26, c27, c28, c29, c30, c31, c32, c33, c34, c35, c36, c37, c38, c39, c40, c41, c42, c43, c44, c45, c46, c47, c48, c49, c50, c51, c52, c53, c54, c55, c56, c57, c58, c59, c60, c61, c62, c63, c64, c65, c66, c67, c68, c69, c70, c71, c72, c73, c74, c75, c76, c77, c78, c79, c80, c81, c82, c83, c84, c85, c86, c87, c88, c89, c90, c91, c92, c93, c94, c95, c96, c97, c98, c99, c100, c101, c102, c103, c104, c105, c106, c107, c108, c109, c110, c111, c112, c113, c114, c115, c116, c117, c118, c119, c120, c121, c122, c123, c124, c125, c126, c127, c128, c129, c130, c131, c132, c133, c134, c135, c136, c137, c138, c139, c140, c141, c142, c143, c144, c145, c146, c147, c148, c149, c150, c151, c152, c153, c154, c155, c156, c157, c158, c159, c160, c161, c162, c163, c164, c165, c166, c167, c168, c169, c170, c171, c172, c173, c174, c175, c176, c177, c178, c179, c180], []⟩ wr := by
 conv => arg 2; whnf
 conv at hK => enter [a, w]; lhs; arg 2; whnf
 have HQ := Lib.hid hQ
 clear hQ
 have lX := Blk.cells_at (l := entL e0M) bX 0
 have cR : ∀ w (t : TypeId) (cs : Array Value), Nw w (w.alloc (.cells cs t)) := fun w t cs => (Fr.refl (fun _ => False) _).alloc _
 obtain ⟨D, hD⟩ : ∃ D, D = wr.heap.size := ⟨_, rfl⟩
 obtain ⟨U1, hU1⟩ : ∃ U, U = wr.alloc (.cells #[.int .u8 9] 5) := ⟨_, rfl⟩
 obtain ⟨U2, hU2⟩ : ∃ U, U = U1.alloc (.cells #[.int .i64 1, .int .i64 2] 3) := ⟨_, rfl⟩
 obtain ⟨U3, hU3⟩ : ∃ U, U = U2.alloc (.cells #[I64 e0M.term, U8V e0M.kind, e0M.cmd.v, e0M.cfg.v.v, e0M.cfg.o.v, e0M.cfg.l.v, e0M.cfg.w.v, .int .i64 2, .int .u8 2, .slice (some ⟨D, 0, none⟩) 1 1, .slice none 0 0, .slice none 0 0, .slice none 0 0, .slice none 0 0, .int .i64 2, .int .u8 3, .slice none 0 0, .slice (some ⟨D + 1, 0, none⟩) 2 2, .slice none 0 0, .slice none 0 0, .slice none 0 0] 87) := ⟨_, rfl⟩
 obtain ⟨U4, hU4⟩ : ∃ U, U = U3.alloc (.cells #[.int .i64 5] 3) := ⟨_, rfl⟩
 obtain ⟨U5, hU5⟩ : ∃ U, U = U4.alloc (.cells #[.int .u8 1, .int .u8 2] 5) := ⟨_, rfl⟩
 obtain ⟨U6, hU6⟩ : ∃ U, U = U5.alloc (.cells zL9A 50) := ⟨_, rfl⟩
 have z1 : U1.heap.size = D + 1 := by rw [hU1, hD]; simp
 have z2 : U2.heap.size = D + 2 := by rw [hU2]; simp [z1]
 have z3 : U3.heap.size = D + 3 := by rw [hU3]; simp [z2]
 have z4 : U4.heap.size = D + 4 := by rw [hU4]; simp [z3]
 have z5 : U5.heap.size = D + 5 := by rw [hU5]; simp [z4]
 have n1 : Nw wr U1 := by rw [hU1]; exact cR _ _ _
 have n2 : Nw U1 U2 := by rw [hU2]; exact cR _ _ _
 have n3 : Nw U2 U3 := by rw [hU3]; exact cR _ _ _
 have n4 : Nw U3 U4 := by rw [hU4]; exact cR _ _ _
 have n5 : Nw U4 U5 := by rw [hU5]; exact cR _ _ _
 have n6 : Nw U5 U6 := by rw [hU6]; exact cR _ _ _
 have s0 : Sl U1 (· = D) (some ⟨D, 0, none⟩) (zaw [9]) := by
  have h := zaI wr 5 [.int .u8 9] _ rfl
  rw [hU1, hD]; exact h
 have s1 : Sl U2 (· = D + 1) (some ⟨D + 1, 0, none⟩) (zac [1, 2]) := by
  have h := zaI U1 3 [.int .i64 1, .int .i64 2] _ rfl
  rw [z1] at h
  rw [hU2]; exact h
 have s2 : Sl U3 (· = D + 2) (some ⟨D + 2, 0, none⟩) (zal (zM D).ents.l) := by
  have h := zaI U2 87 (zal (zM D).ents.l) _ rfl
  rw [z2] at h
  rw [hU3]; exact h
 have s3 : Sl U4 (· = D + 3) (some ⟨D + 3, 0, none⟩) (zac [5]) := by
  have h := zaI U3 3 [.int .i64 5] _ rfl
  rw [z3] at h
  rw [hU4]; exact h
 have s4 : Sl U5 (· = D + 4) (some ⟨D + 4, 0, none⟩) (zaw [1, 2]) := by
  have h := zaI U4 5 [.int .u8 1, .int .u8 2] _ rfl
  rw [z4] at h
  rw [hU5]; exact h
 have b6 : Blk U6 (D + 5) 50 (letA zaP) := by rw [← z5, hU6]; exact Blk.new _ _ _
 obtain ⟨U7, hU7⟩ : ∃ U, U = U6.setCells (D + 5) 0 (letL (zM D)) := ⟨_, rfl⟩
 have m7 : Fr (· = D + 5) U6 U7 := by rw [hU7]; exact (Fr.refl (· = D + 5) _).setCells _ _
 have b7 : Blk U7 (D + 5) 50 (letA (zM D)) := by
  have h := Blk.setCells (l := letL zaP) b6 0 (letL (zM D))
  rw [← hU7] at h
  exact h
 have hth := Blk.there (l := letL zaP) b6 0 20 (by show 0 + 20 ≤ 20; omega)
 have i7 : za3 U7 (fun k => k ≠ D + 5) (zM D) := by
  refine zM_in ?_ ?_ ?_ ?_ ?_
  ·exact ((s0.fr ((((n2.tr n3).tr n4).tr n5).tr n6) (fun _ _ h => h)).fr m7 (fun k hk e => by omega)).mono fun k hk _ => by omega
  ·exact ((s1.fr (((n3.tr n4).tr n5).tr n6) (fun _ _ h => h)).fr m7 (fun k hk e => by omega)).mono fun k hk _ => by omega
  ·exact ((s2.fr ((n4.tr n5).tr n6) (fun _ _ h => h)).fr m7 (fun k hk e => by omega)).mono fun k hk _ => by omega
  ·exact ((s3.fr (n5.tr n6) (fun _ _ h => h)).fr m7 (fun k hk e => by omega)).mono fun k hk _ => by omega
  ·exact ((s4.fr n6 (fun _ _ h => h)).fr m7 (fun k hk e => by omega)).mono fun k hk _ => by omega
 have q7 : Nw W U7 := (hq.tr (((((n1.tr n2).tr n3).tr n4).tr n5).tr n6)).new m7 (fun k hk => by have := hq.size; omega)
 have H7 := Lib.hid hU7
 have HD := Lib.hid hD
 have H1 := Lib.hid hU1
 have H2 := Lib.hid hU2
 have H3 := Lib.hid hU3
 have H4 := Lib.hid hU4
 have H5 := Lib.hid hU5
 have H6 := Lib.hid hU6
 clear hD hU1 hU2 hU3 hU4 hU5 hU6 hU7 b6 m7 z1 z2 z3 z4 z5 n1 n2 n3 n4 n5 n6 s0 s1 s2 s3 s4 bX hq
 go_upto_region 34 with (first | (refine za5 rfl 87 _ rfl X 0 rfl (entL e0M) _ lX Tryz.underlying87 rfl (by kernel_rfl) ?_) | (rw [← HD.out, ← H1.out, ← H2.out, ← H3.out, ← H4.out, ← H5.out, ← H6.out]; refine wpList_store_mid rfl 50 _ _ rfl (D + 5) 0 (letA (zM D)) rfl rfl hth (by kernel_rfl) (zbc (zM D)) ?_; rw [← H7.out]))
 rename_i hK34
 exact zlI W U7 D b7 i7 q7 Q HQ.out _ hK34
end Go.Proofs.YtippdjaakcgeoaaGreat
