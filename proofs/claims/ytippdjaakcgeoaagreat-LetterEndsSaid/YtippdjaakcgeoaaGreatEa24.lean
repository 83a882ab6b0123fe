/- Lemmas of the walks: GdH, RrF. (Laid together by shake.py.) -/
import Derived.Laws.Pointers
import Derived.Test.YtippdjaakcgeoaaGreatEa21
import Derived.Test.YtippdjaakcgeoaaGreatEa22
import Derived.Test.YtippdjaakcgeoaaGreatEa23
set_option linter.unusedVariables false
set_option linter.unusedSimpArgs false
set_option maxRecDepth 100000
set_option maxHeartbeats 16000000
namespace Go.Proofs.YtippdjaakcgeoaaGreat
open Go Go.RowKit
section
variable {P : Program} {Q : Exit → Act → List Frame → World → Prop} {a : Act} {cs cs' : List Frame} {w : World} {id : Nat} {r d : Tmp} {o1 o2 : Oper}
theorem ziX (h1 : o1.op = .call { callee := .builtin .recover, args := #[], argTypes := #[] }) (g1 : o1.guard = none) (d1 : o1.dst = some r) (h2 : o2.op = .assign (.tmp r)) (g2 : o2.guard = none) (d2 : o2.dst = some d)
  {v : Value} (hrec : recoverD cs = some (v, cs')) (hev : (a.put (some r) v).eval (.tmp r) = v) (h : Q .normal ((a.put (some r) v).put (some d) v) cs' w) : (Code.region id #[o1, o2] false).wpS P Q a cs w := by
 apply wpS_region
 show wpOpsS P #[o1, o2] Q [0, 1] a cs w
 have e1 : (execOp a.eval o1).run P w = .ok .recover w := by
  unfold execOp
  simp [h1, resolve, invoke, builtin, Sem.run_bind, Sem.run_pure, go_sem]
 have e2 : (execOp (a.put (some r) v).eval o2).run P w = .ok (.value v) w := by
  generalize (a.put (some r) v).eval = ev at hev
  unfold execOp
  simp [h2, hev, Sem.run_pure, go_sem]
 simp only [wpOpsS, List.getElem?_toArray, List.getElem?_cons_zero, List.getElem?_cons_succ]
 have w1 : Region.wanted o1 (yielded #[o1, o2] a.tmps) = true := by simp [Region.wanted, g1]
 have w2 : ∀ t, Region.wanted o2 (yielded #[o1, o2] t) = true := fun t => by simp [Region.wanted, g2]
 rw [if_pos w1, e1]
 simp only [hrec, d1]
 rw [if_pos (w2 _), e2]
 simp only [Oper.upon, d2]
 exact h
theorem zg8 (h1 : o1.op = .call { callee := .builtin .recover, args := #[], argTypes := #[] }) (g1 : o1.guard = none) (d1 : o1.dst = some r) (h2 : o2.op = .assign (.tmp r)) (g2 : o2.guard = none) (d2 : o2.dst = some d)
  (hrec : recoverD cs = none) (hev : (a.put (some r) .nilIface).eval (.tmp r) = .nilIface) (h : Q .normal ((a.put (some r) .nilIface).put (some d) .nilIface) cs w) : (Code.region id #[o1, o2] false).wpS P Q a cs w := by
 apply wpS_region
 show wpOpsS P #[o1, o2] Q [0, 1] a cs w
 have e1 : (execOp a.eval o1).run P w = .ok .recover w := by
  unfold execOp
  simp [h1, resolve, invoke, builtin, Sem.run_bind, Sem.run_pure, go_sem]
 have e2 : (execOp (a.put (some r) .nilIface).eval o2).run P w = .ok (.value .nilIface) w := by
  generalize (a.put (some r) .nilIface).eval = ev at hev
  unfold execOp
  simp [h2, hev, Sem.run_pure, go_sem]
 simp only [wpOpsS, List.getElem?_toArray, List.getElem?_cons_zero, List.getElem?_cons_succ]
 have w1 : Region.wanted o1 (yielded #[o1, o2] a.tmps) = true := by simp [Region.wanted, g1]
 have w2 : ∀ t, Region.wanted o2 (yielded #[o1, o2] t) = true := fun t => by simp [Region.wanted, g2]
 rw [if_pos w1, e1]
 simp only [hrec, d1]
 rw [if_pos (w2 _), e2]
 simp only [Oper.upon, d2]
 exact h
end
theorem ziM (a b : Addr) (w : World) :
  CallsD Tryz.prog 94 #[.pointer (some a), .pointer (some b)] .returning w fun e u' w' => e = .returned (.tuple #[]) ∧ u' = .returning ∧ w' = w := by
 refine callsD_of_wpS Tryz.func94 rfl fun c₀ cs hu => ?_
 have ht : (#[.pointer (some a), .pointer (some b)] ++ Array.replicate (Tryz.f94.ntmps - (#[.pointer (some a), .pointer (some b)] : Array Value).size) undef : Array Value) = #[.pointer (some a), .pointer (some b), undef, undef, undef, undef, undef, undef, undef, undef, undef, undef, undef, undef, undef] := rfl
 rw [ht]
 apply wpS_seq
 refine zg8 rfl rfl rfl rfl rfl rfl (by simp [recoverD, hu]) (by rfl) ?_
 apply wpS_of_wp
 go_wp2_with fail
 refine ⟨rfl, .returning, ?_, _, results_none rfl _ _ _, rfl, rfl, rfl⟩
 cases c₀
 simp_all
theorem zdg (a b : Nat) (w : World) (e0 v0 : Value) (ha : Blk w a 67 #[e0]) (hb : Blk w b 28 #[v0]) (hab : a ≠ b) :
  CallsD Tryz.prog 94 #[.pointer (some ⟨a, 0, none⟩), .pointer (some ⟨b, 0, none⟩)] (.panicking [zeH]) w fun e u' w' =>
   e = .returned (.tuple #[]) ∧ u' = .panicking [{ zeH with recovered := true }] ∧ Fr (fun k => k = a ∨ k = b) w w' ∧ Blk w' a 67 #[.int .i64 4] ∧ Blk w' b 28 #[.slice none 0 0] := by
 refine callsD_of_wpS Tryz.func94 rfl fun c₀ cs hu => ?_
 have hta : ∀ w, (Instr.typeAssert (.iface 67 (.int .i64 4)) 20 67 true).run Tryz.prog w = .ok (.tuple #[.int .i64 4, .bool true]) w := fun w => by kernel_rfl
 have c1 : w.cell? ⟨a, 0, none⟩ = some e0 := by simpa using ha.cell 0
 have f1 := ha.frozen 0
 have c2 : w.cell? ⟨b, 0, none⟩ = some v0 := by simpa using hb.cell 0
 have f2 := hb.frozen 0
 have hba : b ≠ a := hab.symm
 have ht : (#[.pointer (some ⟨a, 0, none⟩), .pointer (some ⟨b, 0, none⟩)] ++ Array.replicate (Tryz.f94.ntmps - (#[.pointer (some ⟨a, 0, none⟩), .pointer (some ⟨b, 0, none⟩)] : Array Value).size) undef : Array Value) = #[.pointer (some ⟨a, 0, none⟩), .pointer (some ⟨b, 0, none⟩), undef, undef, undef, undef, undef, undef, undef, undef, undef, undef, undef, undef, undef] := rfl
 rw [ht]
 apply wpS_seq
 refine ziX (v := .iface 67 (.int .i64 4)) rfl rfl rfl rfl rfl rfl (by simp only [recoverD, hu]; rfl) (by rfl) ?_
 apply wpS_of_wp
 go_wp2_with fail
 refine ⟨rfl, .panicking [{ zeH with recovered := true }], rfl, _, results_none rfl _ _ _, rfl, rfl, ?_, ?_, ?_⟩
 ·exact (((Fr.refl (fun k => k = a ∨ k = b) w).setCell (p := ⟨a, 0, none⟩) (.inl (.inl rfl)) _)).setCell (p := ⟨b, 0, none⟩) (.inl (.inr rfl)) _
 ·exact (ha.set_ 0 _).far hab _
 ·exact (hb.far hab.symm _).set_ 0 _
section
variable {P : Program}
theorem zcI {fn : Func} {p q : Tmp} {ty tq el : TypeId} (h : fn.results = #[.cell p ty, .cell q tq]) (tmps : Array Value) (w : World) (g g2 : Nat) (t t2 : TypeId) (v : Value) (k : IntKind) (n : Int)
  (hp : tmps.getD p undef = .pointer (some ⟨g, 0, none⟩)) (hq : tmps.getD q undef = .pointer (some ⟨g2, 0, none⟩)) (h1 : Blk w g t #[v]) (h2 : Blk w g2 t2 #[.int k n])
  (hu : P.underlying ty = some (.slice el)) (hk : P.underlying tq = some (.int k)) :
  (results fn tmps).run P w = .ok (.tuple #[v, .int k n]) w := by
 have hp' : tmps[p]?.getD undef = .pointer (some ⟨g, 0, none⟩) := by simpa using hp
 have hq' : tmps[q]?.getD undef = .pointer (some ⟨g2, 0, none⟩) := by simpa using hq
 have hc : w.cell? ⟨g2, 0, none⟩ = some (.int k n) := by simpa using h2.cell 0
 have hc1 : w.cell? ⟨g, 0, none⟩ = some v := by simpa using h1.cell 0
 have hv : (loadVar tq ⟨g2, 0, none⟩).run P w = .ok (.int k n) w := by
  have hagg : (isAgg tq).run P w = .ok false w := by
   unfold isAgg
   rw [Sem.run_bind, run_underlying hk w]
   rfl
  simp [loadVar, Sem.run_bind, hagg, go_sem, hc]
 have hv1 : (loadVar ty ⟨g, 0, none⟩).run P w = .ok v w := by
  have hagg : (isAgg ty).run P w = .ok false w := by
   unfold isAgg
   rw [Sem.run_bind, run_underlying hu w]
   rfl
  simp [loadVar, Sem.run_bind, hagg, go_sem, hc1]
 simp [results, h, hp', hq', asAddr, hv, hv1]
end
def zgH (w : World) (r : Option (List LetF)) (e : Ending) (w' : World) : Prop := Nw w w' ∧ match r with
 | none => e = .returned (.tuple #[.slice none 0 0, .int .i64 4])
 | some l => ∃ s : Ls LetM, e = .returned (.tuple #[.slice s.a s.l.length s.c, .int .i64 0]) ∧ s.l.map LetM.x = l ∧ zao w w' 50 20 zai s ∧ zas w' (fun j => w.heap.size ≤ j) s.l ∧ ∀ y ∈ s.l, za8 y
def GlRel (w W : World) (F : Nat → Prop) (g O : Nat) (KK : World → Prop) (s0 : Rd) (n : Nat) (i : Value) (wr : World) : Prop :=
 ∃ (k : Nat) (cur : Ls LetM) (sk : Rd), k ≤ n ∧ i = .int .i64 k ∧ cur.l.length = k ∧ RSt true w wr F g O 28 KK sk #[.slice cur.a cur.l.length cur.c] ∧ zao W wr 50 20 zai cur ∧
  zas wr (fun j => W.heap.size ≤ j ∧ ¬ inA cur.a j) cur.l ∧ (∀ y ∈ cur.l, za8 y) ∧ zba k s0 = some (cur.l.map LetM.x, sk) ∧ W.heap.size ≤ wr.heap.size ∧ zav sk ≤ 1000000000000
theorem zmk {w3 wr wz w6 : World} {cur : Ls LetM} {y : LetM} {A6 : Option Addr} {c6 : Nat} (ho : zao w3 wz 50 20 zai cur) (hi : ∀ u ∈ cur.l, za3 wz (fun j => w3.heap.size ≤ j ∧ j < wr.heap.size ∧ ¬ inA cur.a j) u) (hy : za3 wz (fun j => wr.heap.size ≤ j) y)
  (hcur : ∀ j, inA cur.a j → j < wr.heap.size) (hwz : w3.heap.size ≤ wr.heap.size) (hle : wr.heap.size ≤ wz.heap.size) (hap : zaM wz 50 20 cur.a cur.l.length cur.c 1 (zai cur.l) (letL y) A6 c6 w6) :
  zao w3 w6 50 20 zai ⟨A6, c6, cur.l ++ [y]⟩ ∧ ∀ u ∈ cur.l ++ [y], za3 w6 (fun j => w3.heap.size ≤ j ∧ ¬ inA A6 j) u := by
 have hin : ∀ j, inA A6 j → inA cur.a j ∨ j = wz.heap.size := hap.inA_
 refine ⟨⟨?_, fun j hj => ?_⟩, fun u hu => ?_⟩
 ·show Own w6 50 20 A6 (cur.l ++ [y]).length c6 (zai (cur.l ++ [y]))
  rw [List.length_append, zcX, zdQ]
  exact hap.1
 ·rcases hin j hj with h | h
  ·exact ho.base j h
  ·omega
 ·rcases List.mem_append.1 hu with hu | hu
  ·refine ((hi u hu).fr hap.fr (fun j hj => hj.2.2)).mono (fun j hj _ => ⟨hj.1, fun hB => ?_⟩)
   rcases hin j hB with h | h
   ·exact hj.2.2 h
   ·have := hj.2.1
    omega
  ·rw [List.mem_singleton.1 hu]
   refine ((hy.mono (F' := fun j => wr.heap.size ≤ j ∧ j < wz.heap.size) (fun j hj hl => ⟨hj, hl⟩)).fr hap.fr (fun j hj e => by have := hcur j e; have := hj.1; omega)).mono (fun j hj _ => ⟨by have := hj.1; omega, fun hB => ?_⟩)
   rcases hin j hB with h | h
   ·have := hcur j h
    have := hj.1
    omega
   ·have := hj.2
    omega
theorem zlH {w3 wr wz w6 : World} {cur : Ls LetM} {y : LetM} {A6 : Option Addr} {c6 : Nat} (ho : zao w3 wz 50 20 zai cur) (hi : zas wz (fun j => w3.heap.size ≤ j ∧ j < wr.heap.size ∧ ¬ inA cur.a j) cur.l) (hy : zbg wz (fun j => wr.heap.size ≤ j) y)
  (hcur : ∀ j, inA cur.a j → j < wr.heap.size) (hwz : w3.heap.size ≤ wr.heap.size) (hle : wr.heap.size ≤ wz.heap.size) (hap : zaM wz 50 20 cur.a cur.l.length cur.c 1 (zai cur.l) (letL y) A6 c6 w6) :
  zao w3 w6 50 20 zai ⟨A6, c6, cur.l ++ [y]⟩ ∧ zas w6 (fun j => w3.heap.size ≤ j ∧ ¬ inA A6 j) (cur.l ++ [y]) := by
 have hin : ∀ j, inA A6 j → inA cur.a j ∨ j = wz.heap.size := hap.inA_
 refine ⟨⟨?_, fun j hj => ?_⟩, ?_⟩
 ·show Own w6 50 20 A6 (cur.l ++ [y]).length c6 (zai (cur.l ++ [y]))
  rw [List.length_append, zcX, zdQ]
  exact hap.1
 ·rcases hin j hj with h | h
  ·exact ho.base j h
  ·omega
 ·have i1 := hi.fr hap.fr (fun j hj => hj.2.2)
  have i2 := (hy.mono (G := fun j => wr.heap.size ≤ j ∧ j < wz.heap.size) (fun j hj hl => ⟨hj, hl⟩)).fr hap.fr (fun j hj e => by have := hcur j e; have := hj.1; omega)
  refine zas.append i1 i2 (fun j h1 h2 => by have := h1.2.1; have := h2.1; omega) (fun j hj _ => ⟨hj.1, fun hB => ?_⟩) (fun j hj _ => ⟨by have := hj.1; omega, fun hB => ?_⟩)
  ·rcases hin j hB with h | h
   ·exact hj.2.2 h
   ·have := hj.2.1
    omega
  ·rcases hin j hB with h | h
   ·have := hcur j h
    have := hj.1
    omega
   ·have := hj.2
    omega
theorem zkE (s : Rd) : zd2 s = 0 ∨ zd2 s = 4 := by
 match s with
 | none => exact .inr rfl
 | some [] => exact .inl rfl
 | some (_ :: _) => exact .inr rfl
theorem zfP {k n : Nat} {s : Rd} (h : zba k s = none) (hk : k ≤ n) : zba n s = none := by
 induction n with
 | zero =>
  obtain rfl : k = 0 := by omega
  exact h
 | succ n ih =>
  by_cases e : k = n + 1
  ·rw [← e]; exact h
  ·rw [zba, ih (by omega)]
theorem zmE (b : List UInt8) (n : Nat) (s0 : Rd) (h : za1 1073741824 (some b) = ((n : Int), s0)) : getP b = match zba n s0 with
 | none => none
 | some (l, r) => if zd2 r = 0 then some l else none := by
 unfold getP
 rw [h]
 rfl
theorem zlW (w : World) (F0 : Nat → Prop) (A : Option Addr) (c : Nat) (bs : List UInt8) (hs : Sl w F0 A (bs.map B8)) (hsz : bs.length ≤ 1000000000000) :
  Calls Tryz.prog 43 #[.slice A bs.length c] w fun e w' => zgH w (getP bs) e w' := by
 have hmf : ∀ (fn : Fn) (first cap : Array Value) (w : World), (Instr.makeFunc fn first cap).run Tryz.prog w = .ok (.func fn first cap) w := fun _ _ _ _ => rfl
 obtain ⟨r, hr⟩ : ∃ r, getP bs = r := ⟨_, rfl⟩
 rw [hr]
 have l0 : zav (za1 1073741824 (some bs)).2 ≤ 1000000000000 := Nat.le_trans (zap _ _) hsz
 have n0 := fun w1 F g h1 => zb5 w1 F g (some bs) h1 1073741824
 have m0 := zbR 1073741824 (some bs) (by omega)
 have hgo := zmE bs
 obtain ⟨⟨nn, s0⟩, hq0⟩ : ∃ q, za1 1073741824 (some bs) = q := ⟨_, rfl⟩
 simp only [hq0] at l0 n0 m0 hgo
 obtain ⟨n, rfl⟩ : ∃ n : Nat, nn = (n : Int) := ⟨nn.toNat, by omega⟩
 have hR := hgo n s0 rfl
 rw [hr] at hR
 have hnn : n ≤ 1073741824 := by omega
 obtain ⟨bn, hbn⟩ : ∃ bn, bs.length = bn := ⟨_, rfl⟩
 obtain ⟨O, hO⟩ : ∃ O, O = w.heap.size := ⟨_, rfl⟩
 obtain ⟨E, hE⟩ : ∃ E, E = w.heap.size + 1 := ⟨_, rfl⟩
 obtain ⟨W0, hW0⟩ : ∃ W, W = (w.alloc (.cells #[.slice none 0 0] 28)).alloc (.cells #[.int .i64 0] 67) := ⟨_, rfl⟩
 have q0 : Nw w W0 := by rw [hW0]; exact ((Fr.refl (fun _ => False) w).alloc _).alloc _
 have z0 : W0.heap.size = E + 1 := by rw [hW0, hE]; simp
 have bO : Blk W0 O 28 #[.slice none 0 0] := by rw [hW0, hO]; exact (Blk.new w _ _).alloc _
 have bE : Blk W0 E 67 #[.int .i64 0] := by rw [hW0, hE]; simpa using Blk.new (w.alloc (.cells #[.slice none 0 0] 28)) 67 #[.int .i64 0]
 have hnw := zhJ W0 F0 A c bs (hs.fr q0 (fun _ _ h => h)) hsz
 rw [hbn] at hnw ⊢
 have N0 := Lib.hid n0
 have HR := Lib.hid hR
 have HO := Lib.hid hO
 have HE := Lib.hid hE
 have HW0 := Lib.hid hW0
 have hOE : O < E ∧ w.heap.size ≤ O := by omega
 clear n0 m0 hgo hq0 hR hr hO hE hW0 hbn
 go_enter_defers Tryz.func43, Tryz.ntmps43
 go_upto_region 2 with (fail)
 rw [← HE.out, ← HO.out, ← HW0.out]
 go_wp2_with fail
 refine hnw.mono ?_
 rintro e w1 ⟨g, F, rfl, hrd, q1, hg, hF⟩
 go_upto_region 3 with (fail)
 obtain ⟨SB, hSB⟩ : ∃ X, X = w1.heap.size := ⟨_, rfl⟩
 obtain ⟨W2, hW2⟩ : ∃ W, W = w1.alloc (.cells #[.pointer (some ⟨g, 0, none⟩)] 148) := ⟨_, rfl⟩
 have q2 : Nw w1 W2 := by rw [hW2]; exact (Fr.refl (fun _ => False) _).alloc _
 have bS2 : Blk W2 SB 148 #[.pointer (some ⟨g, 0, none⟩)] := by rw [hW2, hSB]; exact Blk.new _ _ _
 have hgl := hrd.lt
 have hFl := hrd.out.2
 have hS := q1.size
 have z2 : W2.heap.size = SB + 1 := by rw [hW2, hSB]; simp
 have hgx : g ≠ O ∧ g ≠ E ∧ g ≠ SB ∧ w.heap.size ≤ g ∧ O ≠ SB ∧ E ≠ SB ∧ w.heap.size ≤ SB ∧ O ≠ E := by omega
 have hlt2 : O < W2.heap.size ∧ E < W2.heap.size ∧ SB < W2.heap.size ∧ g < W2.heap.size := by omega
 have hFx : ∀ k, F k → k ≠ O ∧ k ≠ E ∧ k ≠ SB ∧ k < W2.heap.size := fun k hk => by have h1 := hF k hk; have h2 := hFl k hk; omega
 obtain ⟨KK, hKK⟩ : ∃ K : World → Prop, K = fun wz => Blk wz E 67 #[.int .i64 0] ∧ Blk wz SB 148 #[.pointer (some ⟨g, 0, none⟩)] := ⟨_, rfl⟩
 have hKe : ∀ wz, KK wz → Blk wz E 67 #[.int .i64 0] ∧ Blk wz SB 148 #[.pointer (some ⟨g, 0, none⟩)] := fun wz hk => by rw [hKK] at hk; exact hk
 have hKi : ∀ wz, Blk wz E 67 #[.int .i64 0] ∧ Blk wz SB 148 #[.pointer (some ⟨g, 0, none⟩)] → KK wz := fun wz hk => by rw [hKK]; exact hk
 have hKs : ∀ a c, Fr (fun k => k = g ∨ k = O) a c → KK a → KK c := fun a c f hk => by
  obtain ⟨k1, k2⟩ := hKe _ hk
  exact hKi _ ⟨k1.fr f (by omega), k2.fr f (by omega)⟩
 have Q2 : Nw w W2 := (q0.tr q1).tr q2
 have st2 : RSt true w W2 F g O 28 KK (some bs) #[.slice none 0 0] := ⟨hrd.fr q2 (fun h => h) (fun _ _ h => h), (bO.fr q1 (fun h => h)).fr q2 (fun h => h), hKi _ ⟨(bE.fr q1 (fun h => h)).fr q2 (fun h => h), bS2⟩, Nw.on Q2, by omega, fun hf => (hFx _ hf).1 rfl, by omega, hKs⟩
 have sc2 : W2.cell? ⟨SB, 0, none⟩ = some (.pointer (some ⟨g, 0, none⟩)) := by simpa using bS2.cell 0
 have HSB := Lib.hid hSB
 have HW2 := Lib.hid hW2
 have HKE := Lib.hid hKe
 have HKI := Lib.hid hKi
 have HKS := Lib.hid hKs
 have HFX := Lib.hid hFx
 rw [← HW2.out, ← HSB.out]
 clear hSB hW2 hKe hKi hKs hFx hKK hF hFl bS2 bO bE hS z0 z2 hg hrd Q2
 go_wp2_with fail
 refine (N0.out _ _ _ st2.rd).mono ?_
 rintro e w3 ⟨rfl, h3⟩
 have st3 := st2.callP h3
 have hw3 : W2.heap.size ≤ w3.heap.size := h3.2.size
 have hlt3 : O < w3.heap.size ∧ E < w3.heap.size ∧ SB < w3.heap.size ∧ g < w3.heap.size := by omega
 have hFw : ∀ k, F k → k < w3.heap.size := fun k hk => by have := (HFX.out k hk).2.2.2; omega
 have HFW := Lib.hid hFw
 clear st2 sc2 h3 hlt2 hw3 hFw
 go_wp2_with fail
 go_loopw [12] (fun i wx => GlRel w w3 F g O KK s0 n i wx) (fun i _ => n - (intOf i).toNat)
 case atStart => exact ⟨0, lsZ, s0, Nat.zero_le _, rfl, rfl, st3, ⟨Own.nil _ _ _, fun k hk => (zaH k hk).elim⟩, zas.nil _ _, (by intro e he; cases he), rfl, Nat.le_refl _, l0⟩
 case round =>
  clear st3
  obtain ⟨k, cur, sk, hk, rfl, hcl, st, ho, he, hz, hm, hwz, hl⟩ := hrel
  have hSt : Nw w wr := st.fr.mono fun j hj => .inr (by have h1 : j = g := hj; omega)
  by_cases hlt : k < n
  ·have hi0 : (k : Int) < (n : Int) := by omega
   have sc : wr.cell? ⟨SB, 0, none⟩ = some (.pointer (some ⟨g, 0, none⟩)) := by simpa using (HKE.out _ st.k).2.cell 0
   have hleft := zgm wr F g sk st.rd
   by_cases h0 : zav sk = 0
   ·rw [h0] at hleft
    have hrn : r = none := by
     rw [HR.out, zfP (k := k + 1) (by rw [zba, hm]; simp only; rw [if_pos h0]) hlt]
    have HRN := Lib.hid hrn
    clear hrn h0
    go_wp2_with fail
    refine hleft.mono ?_
    rintro e w4 ⟨rfl, rfl⟩
    go_wp2_with fail
    refine (zdH wr).mono ?_
    rintro e w4 ⟨rfl, rfl⟩
    refine leaves_cons (f := 94) (args := #[.pointer (some ⟨E, 0, none⟩), .pointer (some ⟨O, 0, none⟩)]) (by simp) (by simp [go_sem]) ?_
    refine (zdg E O _ _ _ ((HKE.out _ st.k).1) (st.x) (by omega)).mono ?_
    rintro e u' w'' ⟨rfl, rfl, hf, ha, hb⟩
    refine ⟨_, zcI rfl _ _ O E 28 67 _ .i64 4 rfl rfl hb ha Tryz.underlying28 Tryz.underlying67, ?_⟩
    rw [HRN.out]
    exact ⟨Fr.new (hSt) hf (fun j hj => by omega), rfl⟩
   ·obtain ⟨lf, hlf⟩ : ∃ lf : Nat, zav sk = lf := ⟨_, rfl⟩
    rw [hlf] at hleft h0
    have hmy := zdl wr
    rw [← decide_eq_true (show 0 < lf by omega)] at hmy
    go_upto_region 6 with (first | (go_at_call 98; refine hleft.mono ?_; rintro e w4 ⟨rfl, rfl⟩) | (go_at_call 97; refine hmy.mono ?_; rintro e w4 ⟨rfl, rfl⟩))
    have hz0 : ¬ zav sk = 0 := by rw [hlf]; exact h0
    have hgw : g < wr.heap.size := st.rd.lt
    have hOw : O < wr.heap.size := st.x.lt
    clear hleft hmy sc
    have hslip := fun wz (h : IsRd wz F g sk) => zi4 wz F g sk h hl
    cases hp : zcK sk with
    | none =>
     have hrn : r = none := by
      rw [HR.out, zfP (k := k + 1) (by rw [zba, hm]; simp only; rw [if_neg hz0, hp]) hlt]
     rw [hp] at hslip
     have HRN := Lib.hid hrn
     clear hrn hz0
     refine zgS (fun ch w' => ch = [zeH] ∧ Fr (· = g) wr w') ?_ (fun L _ wz => L 2 = false ∧ L 3 = false ∧ L 4 = false ∧ L 5 = false ∧ Nw wr wz) (fun _ => (0, none)) (by kernel_rfl) (by kernel_rfl) ⟨rfl, rfl, rfl, rfl, (Fr.refl (fun _ => False) wr).drew⟩ ?_
     focus
      rintro ch wz a' ha' ht ⟨rfl, hnw⟩
      have t2 := ht 2 (by kernel_rfl)
      have t3 := ht 3 (by kernel_rfl)
      obtain ⟨tm, df⟩ := a'
      simp only at ha' t2 t3
      subst ha'
      refine leaves_cons (f := 94) (args := #[.pointer (some ⟨E, 0, none⟩), .pointer (some ⟨O, 0, none⟩)]) (by simp) (by simp [go_sem]) ?_
      refine (zdg E O _ _ _ ((HKE.out _ st.k).1.fr hnw (by omega)) (st.x.fr hnw (by omega)) (by omega)).mono ?_
      rintro e u' w'' ⟨rfl, rfl, hf, ha, hb⟩
      refine ⟨_, zcI rfl _ _ O E 28 67 _ .i64 4 (by rw [Array.getD_eq_getD_getElem?, t2]; rfl) (by rw [Array.getD_eq_getD_getElem?, t3]; rfl) hb ha Tryz.underlying28 Tryz.underlying67, ?_⟩
      rw [HRN.out]
      exact ⟨Fr.new (Fr.new hSt hnw (fun j hj => by omega)) hf (fun j hj => by omega), rfl⟩
     apply zbk
     focus
      intro B L wz hL hD hC
      have hx := (st.x.fr hC.2.2.2.2 (fun h => h)).cell 0
      simp at hx
      refine .inl ⟨by rfl, ?_⟩
      unfold za2
      go_simp
      exact ⟨rfl, ⟨by simp [onL, hC.1], by simp [onL, hC.2.1], by simp [onL, hC.2.2.1], by simp [onL, hC.2.2.2.1], hC.2.2.2.2⟩⟩
     simp only [Act.put, sA9, sB9, sC9]
     apply zbk
     focus
      intro B L wz hL hD hC
      have hb := ((HKE.out _ st.k).2.fr hC.2.2.2.2 (fun h => h)).cell 0
      simp at hb
      refine .inl ⟨by rfl, ?_⟩
      unfold za2
      go_simp
      exact ⟨rfl, ⟨by simp [onL, hC.1], by simp [onL, hC.2.1], by simp [onL, hC.2.2.1], by simp [onL, hC.2.2.2.1], hC.2.2.2.2⟩⟩
     simp only [Act.put, sA9, sB9, sC9]
     refine zeB (fun b => undef) ?_ ?_
     focus
      intro B L wz hL hD hC
      refine .inl ⟨by rfl, ?_⟩
      unfold zdS
      go_simp
      refine (hslip _ (IsRd.fr st.rd hC.2.2.2.2 (fun h => h) (fun _ _ h => h))).mono ?_
      rintro e w9 ⟨hr9, he⟩
      exact .inr ⟨_, he, rfl, (Nw.on hC.2.2.2.2).tr hr9⟩
     simp only [Act.put, sA9, sB9, sC9]
     refine zbk (v := undef) ?_ ?_
     focus
      intro B L wz hL hD hC
      have h3 := hD 2 (by kernel_rfl)
      rw [hC.1] at h3
      cases h3
     simp only [Act.put, sA9, sB9, sC9]
     refine zbk (v := undef) ?_ ?_
     focus
      intro B L wz hL hD hC
      have h3 := hD 3 (by kernel_rfl)
      rw [hC.2.1] at h3
      cases h3
     simp only [Act.put, sA9, sB9, sC9]
     refine zbk (v := undef) ?_ ?_
     focus
      intro B L wz hL hD hC
      have h3 := hD 4 (by kernel_rfl)
      rw [hC.2.2.1] at h3
      cases h3
     simp only [Act.put, sA9, sB9, sC9]
     exact zgu fun B wz hC => absurd hC.1 (by simp)
    | some q =>
     obtain ⟨x, sn⟩ := q
     rw [hp] at hslip
     have hsucc : zba (k + 1) s0 = some (cur.l.map LetM.x ++ [x], sn) := by rw [zba, hm]; simp only; rw [if_neg hz0, hp]
     have hln : zav sn ≤ 1000000000000 := Nat.le_trans (zit _ _ _ _ hsucc) l0
     have hcA : ∀ j, inA cur.a j → w3.heap.size ≤ j ∧ j < wr.heap.size := fun j hj => ⟨ho.base j hj, ho.own.lt j hj⟩
     have hkn : (cur.l.length + 1) * 256 ≤ 140737488355328 := by omega
     have hkm : cur.l.length + 1 ≤ maxLen := by unfold maxLen; omega
     have he' : zas wr (fun j => w3.heap.size ≤ j ∧ j < wr.heap.size ∧ ¬ inA cur.a j) cur.l := he.mono (fun j hj hl => ⟨hj.1, hl, hj.2⟩)
     have HSU := Lib.hid hsucc
     have HLN := Lib.hid hln
     have HCA := Lib.hid hcA
     have HZ := Lib.hid hz
     have HCL := Lib.hid hcl
     have HWZ := Lib.hid hwz
     have hS0 : RSt true w wr F g O 28 KK sk #[.slice cur.a cur.l.length cur.c] ∧ zao w3 wr 50 20 zai cur ∧ zas wr (fun j => w3.heap.size ≤ j ∧ j < wr.heap.size ∧ ¬ inA cur.a j) cur.l ∧ wr.heap.size ≤ wr.heap.size := ⟨st, ho, he', Nat.le_refl _⟩
     have hnwS : ∀ (s' : Rd) (w1 w2 : World), (RSt true w w1 F g O 28 KK s' #[.slice cur.a cur.l.length cur.c] ∧ zao w3 w1 50 20 zai cur ∧ zas w1 (fun j => w3.heap.size ≤ j ∧ j < wr.heap.size ∧ ¬ inA cur.a j) cur.l ∧ wr.heap.size ≤ w1.heap.size) → Nw w1 w2 → (RSt true w w2 F g O 28 KK s' #[.slice cur.a cur.l.length cur.c] ∧ zao w3 w2 50 20 zai cur ∧ zas w2 (fun j => w3.heap.size ≤ j ∧ j < wr.heap.size ∧ ¬ inA cur.a j) cur.l ∧ wr.heap.size ≤ w2.heap.size) :=
      fun s' w1 w2 h f => ⟨h.1.nw f, h.2.1.nw f, h.2.2.1.nw f, Nat.le_trans h.2.2.2 f.size⟩
     have hcallS : ∀ (w1 w2 : World), (RSt true w w1 F g O 28 KK sk #[.slice cur.a cur.l.length cur.c] ∧ zao w3 w1 50 20 zai cur ∧ zas w1 (fun j => w3.heap.size ≤ j ∧ j < wr.heap.size ∧ ¬ inA cur.a j) cur.l ∧ wr.heap.size ≤ w1.heap.size) → RdTo w1 F g sn w2 → (RSt true w w2 F g O 28 KK sn #[.slice cur.a cur.l.length cur.c] ∧ zao w3 w2 50 20 zai cur ∧ zas w2 (fun j => w3.heap.size ≤ j ∧ j < wr.heap.size ∧ ¬ inA cur.a j) cur.l ∧ wr.heap.size ≤ w2.heap.size) :=
      fun w1 w2 h f => ⟨h.1.callP f, h.2.1.fr f.2 (fun j hj e => by have := (HCA.out j hj).1; omega), h.2.2.1.fr f.2 (fun j hj e => by have := hj.1; omega), Nat.le_trans h.2.2.2 f.2.size⟩
     have happS : ∀ (a : LetM) (c6 : Nat) (A6 : Option Addr) (w1 w6 : World), (RSt true w w1 F g O 28 KK sn #[.slice cur.a cur.l.length cur.c] ∧ zao w3 w1 50 20 zai cur ∧ zas w1 (fun j => w3.heap.size ≤ j ∧ j < wr.heap.size ∧ ¬ inA cur.a j) cur.l ∧ wr.heap.size ≤ w1.heap.size) → zbg w1 (fun j => wr.heap.size ≤ j) a → zaM w1 50 20 cur.a cur.l.length cur.c 1 (zai cur.l) (letL a) A6 c6 w6 →
       RSt true w w6 F g O 28 KK sn #[.slice cur.a cur.l.length cur.c] ∧ zao w3 w6 50 20 zai ⟨A6, c6, cur.l ++ [a]⟩ ∧ zas w6 (fun j => w3.heap.size ≤ j ∧ ¬ inA A6 j) (cur.l ++ [a]) ∧ w3.heap.size ≤ w6.heap.size := by
      intro a c6 A6 w1 w6 h ha hap
      obtain ⟨h1, h2, h3, h4⟩ := h
      have hA := HCA.out
      have hW := HWZ.out
      obtain ⟨r1, r2⟩ := zlH h2 h3 ha (fun j hj => (hA j hj).2) hW h4 hap
      refine ⟨h1.other hap.fr (fun e => by have := (hA _ e).1; omega) (fun e => by have := (hA _ e).1; omega) (fun j hj e => by have h5 := (hA _ e).1; have h6 := HFW.out j hj; omega) (fun j hj => by have := (hA _ hj).1; omega) (HKI.out _ ?_) HKS.out, r1, r2, Nat.le_trans (Nat.le_trans hW h4) hap.fr.size⟩
      obtain ⟨k1, k2⟩ := HKE.out _ h1.k
      exact ⟨k1.fr hap.fr (fun e => by have := (hA _ e).1; omega), k2.fr hap.fr (fun e => by have := (hA _ e).1; omega)⟩
     have hstoS : ∀ (a : LetM) (c6 : Nat) (A6 : Option Addr) (w6 : World), (RSt true w w6 F g O 28 KK sn #[.slice cur.a cur.l.length cur.c] ∧ zao w3 w6 50 20 zai ⟨A6, c6, cur.l ++ [a]⟩ ∧ zas w6 (fun j => w3.heap.size ≤ j ∧ ¬ inA A6 j) (cur.l ++ [a]) ∧ w3.heap.size ≤ w6.heap.size) →
       RSt true w (w6.setCell ⟨O, 0, none⟩ (.slice A6 (cur.l.length + 1) c6)) F g O 28 KK sn #[.slice A6 (cur.l.length + 1) c6] ∧ zao w3 (w6.setCell ⟨O, 0, none⟩ (.slice A6 (cur.l.length + 1) c6)) 50 20 zai ⟨A6, c6, cur.l ++ [a]⟩ ∧ zas (w6.setCell ⟨O, 0, none⟩ (.slice A6 (cur.l.length + 1) c6)) (fun j => w3.heap.size ≤ j ∧ ¬ inA A6 j) (cur.l ++ [a]) ∧ w3.heap.size ≤ (w6.setCell ⟨O, 0, none⟩ (.slice A6 (cur.l.length + 1) c6)).heap.size := by
      intro a c6 A6 w6 ⟨h1, h2, h3, h4⟩
      have m : Fr (· = O) w6 (w6.setCell ⟨O, 0, none⟩ (.slice A6 (cur.l.length + 1) c6)) := (Fr.refl (· = O) w6).set1 _ _
      exact ⟨RSt.set_ h1 0 (.slice A6 (cur.l.length + 1) c6), h2.fr m (fun j hj e => by have := h2.base j hj; omega), h3.fr m (fun j hj e => by have := hj.1; omega), Nat.le_trans h4 m.size⟩
     have HNW := Lib.hid hnwS
     have HCS := Lib.hid hcallS
     have HAS := Lib.hid happS
     have HSS := Lib.hid hstoS
     have HSt := Lib.hid hSt
     clear hsucc hln hcA hz hcl hwz hnwS hcallS happS hstoS hSt he he' hm hl ho st hgw hOw h0 hz0 hp
     obtain ⟨S0, hS0e⟩ : ∃ S : World → Prop, S = fun wz => RSt true w wz F g O 28 KK sk #[.slice cur.a cur.l.length cur.c] ∧ zao w3 wz 50 20 zai cur ∧ zas wz (fun j => w3.heap.size ≤ j ∧ j < wr.heap.size ∧ ¬ inA cur.a j) cur.l ∧ wr.heap.size ≤ wz.heap.size := ⟨_, rfl⟩
     have H0 := Lib.hid hS0e
     obtain ⟨S1, hS1e⟩ : ∃ S : LetM × Nat × Option Addr → World → Prop, S = fun a wz => (RSt true w wz F g O 28 KK sn #[.slice cur.a cur.l.length cur.c] ∧ zao w3 wz 50 20 zai cur ∧ zas wz (fun j => w3.heap.size ≤ j ∧ j < wr.heap.size ∧ ¬ inA cur.a j) cur.l ∧ wr.heap.size ≤ wz.heap.size) ∧ zbg wz (fun j => wr.heap.size ≤ j) a.1 ∧ za8 a.1 ∧ a.1.x = x := ⟨_, rfl⟩
     have H1 := Lib.hid hS1e
     obtain ⟨S2, hS2e⟩ : ∃ S : LetM × Nat × Option Addr → LetM × Nat × Option Addr → World → Prop, S = fun a b wz => (RSt true w wz F g O 28 KK sn #[.slice cur.a cur.l.length cur.c] ∧ zao w3 wz 50 20 zai cur ∧ zas wz (fun j => w3.heap.size ≤ j ∧ j < wr.heap.size ∧ ¬ inA cur.a j) cur.l ∧ wr.heap.size ≤ wz.heap.size) ∧ (zbg wz (fun j => wr.heap.size ≤ j) a.1 ∧ za8 a.1 ∧ a.1.x = x) ∧ Sl wz (· = b.2.1) (some ⟨b.2.1, 0, none⟩) (letL a.1) := ⟨_, rfl⟩
     have H2 := Lib.hid hS2e
     obtain ⟨S3, hS3e⟩ : ∃ S : LetM × Nat × Option Addr → LetM × Nat × Option Addr → World → Prop, S = fun a b wz => (RSt true w wz F g O 28 KK sn #[.slice cur.a cur.l.length cur.c] ∧ zao w3 wz 50 20 zai ⟨b.2.2, b.2.1, cur.l ++ [a.1]⟩ ∧ zas wz (fun j => w3.heap.size ≤ j ∧ ¬ inA b.2.2 j) (cur.l ++ [a.1]) ∧ w3.heap.size ≤ wz.heap.size) ∧ za8 a.1 ∧ a.1.x = x := ⟨_, rfl⟩
     have H3 := Lib.hid hS3e
     obtain ⟨S4, hS4e⟩ : ∃ S : LetM × Nat × Option Addr → LetM × Nat × Option Addr → World → Prop, S = fun a b wz => (RSt true w wz F g O 28 KK sn #[.slice b.2.2 (cur.l.length + 1) b.2.1] ∧ zao w3 wz 50 20 zai ⟨b.2.2, b.2.1, cur.l ++ [a.1]⟩ ∧ zas wz (fun j => w3.heap.size ≤ j ∧ ¬ inA b.2.2 j) (cur.l ++ [a.1]) ∧ w3.heap.size ≤ wz.heap.size) ∧ za8 a.1 ∧ a.1.x = x := ⟨_, rfl⟩
     have H4 := Lib.hid hS4e
     clear hS0e hS1e hS2e hS3e hS4e
     refine zgL (T := LetM × Nat × Option Addr) 2 3 4 5 S0 S1 S2 S3 S4 (fun _ => (zaP, 0, none)) (by kernel_rfl) (by kernel_rfl) (by rw [H0.out]; exact HNW.out _ _ _ hS0 ((Fr.refl (fun _ => False) wr).drew)) ?_
     clear hS0
     apply zak
     focus
      intro B L wz hL hD hC
      have hx : wz.cell? ⟨O, 0, none⟩ = some (.slice cur.a cur.l.length cur.c) := hC.early hL (by kernel_rfl) (by kernel_rfl) (fun h => by rw [H0.out] at h; simpa using h.1.x.cell 0) (fun _ h => by rw [H1.out] at h; simpa using h.1.1.x.cell 0) (fun _ _ h => by rw [H2.out] at h; simpa using h.1.1.x.cell 0)
      refine .inl ⟨by rfl, ?_⟩
      unfold za2
      go_simp
      exact ⟨rfl, hC.keep (by kernel_rfl) hD (by rfl) (by rfl) (by rfl) (by rfl)⟩
     simp only [Act.put, sA9, sB9, sC9]
     apply zak
     focus
      intro B L wz hL hD hC
      have hb : wz.cell? ⟨SB, 0, none⟩ = some (.pointer (some ⟨g, 0, none⟩)) := hC.all (fun h => by rw [H0.out] at h; simpa using (HKE.out _ h.1.k).2.cell 0) (fun _ h => by rw [H1.out] at h; simpa using (HKE.out _ h.1.1.k).2.cell 0) (fun _ _ h => by rw [H2.out] at h; simpa using (HKE.out _ h.1.1.k).2.cell 0) (fun _ _ h => by rw [H3.out] at h; simpa using (HKE.out _ h.1.1.k).2.cell 0) (fun _ _ h => by rw [H4.out] at h; simpa using (HKE.out _ h.1.1.k).2.cell 0)
      refine .inl ⟨by rfl, ?_⟩
      unfold za2
      go_simp
      exact ⟨rfl, hC.keep (by kernel_rfl) hD (by rfl) (by rfl) (by rfl) (by rfl)⟩
     simp only [Act.put, sA9, sB9, sC9]
     refine zaU (fun b => .agg (letA b.1)) ?_ ?_
     focus
      intro B L wz hL hD hC
      obtain ⟨h1, h2⟩ := hC.call hL (by kernel_rfl) (by kernel_rfl) (by kernel_rfl) (by kernel_rfl) hD (by rfl) (by rfl) (by rfl)
      rw [H0.out] at h1
      have rd1 := h1.1.rd
      have H1' := Lib.hid h1
      clear h1
      refine .inl ⟨by rfl, ?_⟩
      unfold zbP
      go_simp
      refine (hslip _ rd1).mono ?_
      rintro e w9 ⟨hr9, y, he, hyx, hyi, hyz, hrd9⟩
      exact ⟨(y, 0, none), he, h2 _ _ (by rw [H1.out]; exact ⟨HCS.out _ _ H1'.out ⟨hrd9, hr9⟩, hyi.mono (fun j hj _ => Nat.le_trans H1'.out.2.2.2 hj), hyz, hyx⟩)⟩
     simp only [Act.put, sA9, sB9, sC9]
     refine zaU (fun b => .slice (some ⟨b.2.1, 0, none⟩) 1 1) ?_ ?_
     focus
      intro B L wz hL hD hC
      obtain ⟨h1, h2⟩ := hC.build hL (hD 2 (by kernel_rfl)) (by kernel_rfl) (by kernel_rfl) (by kernel_rfl) hD (by rfl) (by rfl) (by rfl)
      refine .inl ⟨by rfl, ?_⟩
      unfold zbP
      go_simp
      have qn : Nw wz (wz.alloc (.cells (letA (B 2).1) 50)) := (Fr.refl (fun _ => False) wz).alloc _
      rw [H1.out] at h1
      exact ⟨((B 2).1, wz.heap.size, none), rfl, h2 _ _ (by rw [H2.out]; exact ⟨HNW.out _ _ _ h1.1 qn, ⟨h1.2.1.nw qn, h1.2.2⟩, zaI wz 50 (letL (B 2).1) _ rfl⟩)⟩
     simp only [Act.put, sA9, sB9, sC9]
     refine zaU (fun b => .slice b.2.2 (cur.l.length + 1) b.2.1) ?_ ?_
     focus
      intro B L wz hL hD hC
      obtain ⟨h1, h2⟩ := hC.app hL (hD 3 (by kernel_rfl)) (by kernel_rfl) (by kernel_rfl) hD (by rfl) (by rfl)
      rw [H2.out] at h1
      refine .inl ⟨by rfl, ?_⟩
      refine zhG (.tmp 19) (.tmp 22) 28 rfl 256 (.agg zL9A) Tryz.underlying28 zhk rfl (by decide) rfl h1.1.2.1.own rfl h1.2.2 rfl (zdk _) hkn hkm fun A6 c6 w6 hap => ?_
      exact ⟨((B 2).1, c6, A6), rfl, h2 _ _ (by rw [H3.out]; exact ⟨HAS.out _ _ _ _ _ h1.1 h1.2.1.1 hap, h1.2.1.2⟩)⟩
     simp only [Act.put, sA9, sB9, sC9]
     apply zak
     focus
      intro B L wz hL hD hC
      obtain ⟨h1, h2⟩ := hC.store hL (hD 4 (by kernel_rfl)) (by kernel_rfl) hD
      rw [H3.out] at h1
      have H1' := Lib.hid h1
      have hx : wz.cell? ⟨O, 0, none⟩ = some (.slice cur.a cur.l.length cur.c) := by simpa using h1.1.1.x.cell 0
      have hf := h1.1.1.x.frozen 0
      clear h1
      refine .inl ⟨by rfl, ?_⟩
      unfold za2
      go_simp
      exact ⟨rfl, h2 _ (by rw [H4.out]; exact ⟨HSS.out _ _ _ _ H1'.out.1, H1'.out.2⟩)⟩
     simp only [Act.put, sA9, sB9, sC9]
     refine zcH fun B wz hC => ?_
     have hfin := hC.fin (by rfl)
     rw [H4.out] at hfin
     clear hC
     generalize B 2 = b2 at hfin ⊢
     generalize B 4 = b4 at hfin ⊢
     obtain ⟨y, cy, Ay⟩ := b2
     obtain ⟨yz, c4, A4⟩ := b4
     simp only at hfin
     have HFN := Lib.hid hfin
     clear hfin
     go_wp2_with fail
     go_roundw
     case rel =>
      obtain ⟨⟨r1, r2, r3, r4⟩, r5, r6⟩ := HFN.out
      refine ⟨k + 1, ⟨A4, c4, cur.l ++ [y]⟩, sn, by omega, by go_num, by simp [HCL.out], ?_, r2, r3, fun u hu => ?_, ?_, r4, HLN.out⟩
      ·show RSt true w wz F g O 28 KK sn #[.slice A4 (cur.l ++ [y]).length c4]
       rw [List.length_append]
       exact r1
      ·rcases List.mem_append.1 hu with hu | hu
       ·exact HZ.out u hu
       ·rw [List.mem_singleton.1 hu]; exact r5
      ·rw [HSU.out, List.map_append, List.map_singleton, r6]
     case measure => simp [intOf]; omega
  ·obtain rfl : k = n := by omega
   have sc : wr.cell? ⟨SB, 0, none⟩ = some (.pointer (some ⟨g, 0, none⟩)) := by simpa using (HKE.out _ st.k).2.cell 0
   have hend := zhA wr F g sk st.rd
   have hRk := HR.out
   rw [hm] at hRk
   simp only at hRk
   rcases zkE sk with he0 | he4
   ·rw [he0] at hend
    rw [if_pos he0] at hRk
    have cO : wr.cell? ⟨O, 0, none⟩ = some (.slice cur.a cur.l.length cur.c) := by simpa using st.x.cell 0
    have fO := st.x.frozen 0
    have cE : wr.cell? ⟨E, 0, none⟩ = some (.int .i64 0) := by simpa using (HKE.out _ st.k).1.cell 0
    have fE := (HKE.out _ st.k).1.frozen 0
    have hEO : E ≠ O := by omega
    have HRK := Lib.hid hRk
    have HST := Lib.hid st
    have HHE := Lib.hid he
    have HHZ := Lib.hid hz
    have HHO := Lib.hid ho
    have HSt := Lib.hid hSt
    clear hRk he0 st he hz hm ho hl hSt
    go_wp2_with (first | (go_at_call 100; refine hend.mono ?_; rintro e w4 ⟨rfl, rfl⟩) | (go_at_call 97; refine (zdl wr).mono ?_; rintro e w4 ⟨rfl, rfl⟩))
    have hxO := HST.out.x
    rw [hcl] at hxO
    have hbO : Blk ((wr.setCell ⟨O, 0, none⟩ (.slice cur.a k cur.c)).setCell ⟨E, 0, none⟩ (.int .i64 0)) O 28 #[.slice cur.a k cur.c] := (hxO.set_ 0 (.slice cur.a k cur.c)).far (p := ⟨E, 0, none⟩) hEO.symm (.int .i64 0)
    have hbE : Blk ((wr.setCell ⟨O, 0, none⟩ (.slice cur.a k cur.c)).setCell ⟨E, 0, none⟩ (.int .i64 0)) E 67 #[.int .i64 0] := ((HKE.out _ HST.out.k).1.far (p := ⟨O, 0, none⟩) hEO (.slice cur.a k cur.c)).set_ 0 (.int .i64 0)
    have hf : Fr (fun j => j = O ∨ j = E) wr ((wr.setCell ⟨O, 0, none⟩ (.slice cur.a k cur.c)).setCell ⟨E, 0, none⟩ (.int .i64 0)) := ((Fr.refl (fun j => j = O ∨ j = E) wr).setCell (p := ⟨O, 0, none⟩) (.inl (.inl rfl)) _).setCell (p := ⟨E, 0, none⟩) (.inl (.inr rfl)) _
    refine leaves_cons (f := 94) (args := #[.pointer (some ⟨E, 0, none⟩), .pointer (some ⟨O, 0, none⟩)]) (by simp) (by simp [go_sem]) ?_
    refine (ziM _ _ _).mono ?_
    rintro e u' w'' ⟨rfl, rfl, rfl⟩
    refine ⟨_, zcI rfl _ _ O E 28 67 _ .i64 0 rfl rfl hbO hbE Tryz.underlying28 Tryz.underlying67, ?_⟩
    rw [HRK.out]
    have hn : ∀ j, w3.heap.size ≤ j → ¬ (j = O ∨ j = E) := fun j hj h => by omega
    refine ⟨Fr.new HSt.out hf (fun j hj => by omega), cur, by rw [hcl], rfl, (HHO.out.fr hf (fun j hj => hn j (HHO.out.base j hj))).from_ (by have := HST.out.new; omega), (HHE.out.fr hf (fun j hj => hn j hj.1)).mono (fun j hj _ => by have := hj.1; omega), HHZ.out⟩
   ·rw [he4] at hend
    have hrn : r = none := by rw [hRk, if_neg (by rw [he4]; decide)]
    have HRN := Lib.hid hrn
    clear hrn hRk he4
    go_wp2_with fail
    refine hend.mono ?_
    rintro e w4 ⟨rfl, rfl⟩
    go_wp2_with fail
    refine (zdH wr).mono ?_
    rintro e w4 ⟨rfl, rfl⟩
    refine leaves_cons (f := 94) (args := #[.pointer (some ⟨E, 0, none⟩), .pointer (some ⟨O, 0, none⟩)]) (by simp) (by simp [go_sem]) ?_
    refine (zdg E O _ _ _ ((HKE.out _ st.k).1) (st.x) (by omega)).mono ?_
    rintro e u' w'' ⟨rfl, rfl, hf, ha, hb⟩
    refine ⟨_, zcI rfl _ _ O E 28 67 _ .i64 4 rfl rfl hb ha Tryz.underlying28 Tryz.underlying67, ?_⟩
    rw [HRN.out]
    exact ⟨Fr.new hSt hf (fun j hj => by omega), rfl⟩
open Go Go.RowKit
theorem ziZ {k n : Nat} {r : List UInt8} (h : zbC zch k r = none) (hk : k ≤ n) : zbC zch n r = none := by
 induction n with
 | zero =>
  obtain rfl : k = 0 := by omega
  exact h
 | succ n ih =>
  by_cases e : k = n + 1
  ·rw [← e]; exact h
  ·rw [zbC, ih (by omega)]
def zgb (w : World) (r : Option (List LetF)) (e : Ending) (w' : World) : Prop := Nw w w' ∧ match r with
 | none => e = .returned (.tuple #[.slice none 0 0, .int .i64 4])
 | some l => ∃ s : Ls LetM, e = .returned (.tuple #[.slice s.a s.l.length s.c, .int .i64 0]) ∧ s.l.map LetM.x = l ∧ zao w w' 50 20 zai s ∧ (∀ y ∈ s.l, za3 w' (fun j => w.heap.size ≤ j) y) ∧ ∀ y ∈ s.l, za8 y
def GrRel (w W : World) (F : Nat → Prop) (g : Nat) (r0 : List UInt8) (n : Nat) (out i : Value) (wr : World) : Prop :=
 ∃ (k : Nat) (cur : Ls LetM) (rk : List UInt8), k ≤ n ∧ i = .int .i64 k ∧ out = .slice cur.a cur.l.length cur.c ∧ cur.l.length = k ∧ IsRR wr F g (some rk) ∧ Nw w wr ∧ zao W wr 50 20 zai cur ∧
  (∀ y ∈ cur.l, za3 wr (fun j => W.heap.size ≤ j ∧ ¬ inA cur.a j) y) ∧ (∀ y ∈ cur.l, za8 y) ∧ zbC zch k r0 = some (cur.l.map LetM.x, rk) ∧ W.heap.size ≤ wr.heap.size ∧ rk.length ≤ 1000000000000
theorem zl7 (w : World) (F0 : Nat → Prop) (A : Option Addr) (c : Nat) (bs : List UInt8) (hs : Sl w F0 A (bs.map B8)) (hsz : bs.length ≤ 1000000000000) (hc : bs.length ≤ c) (hm : c ≤ maxLen) :
  Calls Tryz.prog 44 #[.slice A bs.length c] w fun e w' => zgb w (zbJ zch bs) e w' := by
 obtain ⟨p, hp⟩ : ∃ p, zbJ zch bs = p := ⟨_, rfl⟩
 rw [hp]
 unfold zbJ at hp
 obtain ⟨g, hg⟩ : ∃ X, X = w.heap.size := ⟨_, rfl⟩
 obtain ⟨W0, hW0⟩ : ∃ W, W = w.alloc (.cells #[.slice A bs.length c, .bool false] 154) := ⟨_, rfl⟩
 have q0 : Nw w W0 := by rw [hW0]; exact (Fr.refl (fun _ => False) _).alloc _
 have z0 : W0.heap.size = g + 1 := by rw [hW0, hg]; simp
 have bg : Blk W0 g 154 #[.slice A bs.length c, .bool false] := by rw [hW0, hg]; exact Blk.new _ _ _
 have hr0 : IsRR W0 (fun k => k < g) g (some bs) := ⟨A, c, bg, hc, hm, (hs.mono (F' := fun k => k < g) (fun k hk hl => by rw [hg]; exact hl)).fr q0 (fun _ _ h => h), Nat.lt_irrefl g, fun k (hk : k < g) => by rw [z0]; omega⟩
 have n1 := fun w1 h1 => zaF w1 (fun k => k < g) g (some bs) h1 1073741824 hsz
 have m1 := zbR 1073741824 (some bs) (by omega)
 have l1 := Nat.le_trans (zap 1073741824 (some bs)) hsz
 obtain ⟨⟨nn, s0⟩, hq1⟩ : ∃ q, za1 1073741824 (some bs) = q := ⟨_, rfl⟩
 simp only [hq1] at n1 m1 l1 hp
 obtain ⟨n, rfl⟩ : ∃ n : Nat, nn = (n : Int) := ⟨nn.toNat, by omega⟩
 have hnn : n ≤ 1073741824 := by omega
 have hwg : w.heap.size ≤ g := by omega
 have HP := Lib.hid hp
 have HG := Lib.hid hg
 have HW0 := Lib.hid hW0
 have HQ := Lib.hid hq1
 clear hp hg hW0 m1 hq1 bg
 go_enter Tryz.func44, Tryz.ntmps44
 go_upto_region 2 with (fail)
 rw [← HG.out, ← HW0.out]
 go_wp2_with fail
 refine (n1 _ hr0).mono ?_
 rintro e w1 ⟨rfl, h1⟩
 have Q1 : Nw w w1 := q0.new h1.2 (fun j hj => by omega)
 cases s0 with
 | none =>
  have hn0 : n = 0 := by
   rcases zbO 1073741824 (some bs) with h | ⟨_, _, _, _, h, _⟩
   ·have := HQ.out
    rw [h] at this
    injection this with h1 _
    omega
   ·have := HQ.out
    rw [h] at this
    injection this with _ h2
    cases h2
  subst hn0
  have hpe : p = none := HP.out.symm
  have HPE := Lib.hid hpe
  have hend := zhh w1 _ g none h1.1
  have he0 : zd2 none = 4 := rfl
  rw [he0] at hend
  clear hpe he0
  go_wp2_with fail
  go_loopw [6, 7] (fun out i wx => out = .slice none 0 0 ∧ i = .int .i64 0 ∧ wx = w1) (fun _ _ _ => 0)
  case atStart => exact ⟨rfl, rfl, rfl⟩
  case round =>
   obtain ⟨rfl, rfl, rfl⟩ := hrel
   go_wp2_with fail
   refine hend.mono ?_
   rintro e w5 ⟨rfl, rfl⟩
   go_wp2_with fail
   go_ret2
   rw [HPE.out]
   exact ⟨Q1, rfl⟩
 | some r0 =>
  go_wp2_with fail
  go_loopw [6, 7] (fun out i wx => GrRel w w1 (fun k => k < g) g r0 n out i wx) (fun _ i _ => n - (intOf i).toNat)
  case atStart => exact ⟨0, lsZ, r0, Nat.zero_le _, rfl, rfl, rfl, h1.1, Q1, ⟨Own.nil _ _ _, fun k hk => (zaH k hk).elim⟩, (by intro e he; cases he), (by intro e he; cases he), rfl, Nat.le_refl _, l1⟩
  case round =>
   have hgw1 := h1.1.lt
   clear h1
   obtain ⟨k, cur, rk, hk, rfl, rfl, hcl, hr, hnw, ho, he, hz, hm', hwz, hl⟩ := hrel
   by_cases hlt : k < n
   ·have hi0 : (k : Int) < (n : Int) := by omega
    have hcall := zkY wr (fun k => k < g) g (some rk) hr hl
    obtain ⟨⟨⟨x, good⟩, se⟩, hq⟩ : ∃ q, zbh zch (some rk) = q := ⟨_, rfl⟩
    simp only [hq] at hcall
    have HCL := Lib.hid hcl
    have hclk : cur.l.length ≤ 1073741824 := by omega
    clear hcl
    have HCA := Lib.hid hcall
    have HQL := Lib.hid hq
    have HE := Lib.hid he
    have HZ := Lib.hid hz
    have HM := Lib.hid hm'
    clear hcall hq he hz hm'
    go_wp2_with fail
    refine HCA.out.mono ?_
    rintro e w4 ⟨y, rfl, hyx, hyi, hyz, h4⟩
    obtain ⟨X, hX⟩ : ∃ G, G = w4.heap.size := ⟨_, rfl⟩
    obtain ⟨V0, hV0⟩ : ∃ V, V = w4.alloc (.cells zL9A 50) := ⟨_, rfl⟩
    have qv0 : Nw w4 V0 := by rw [hV0]; exact (Fr.refl (fun _ => False) w4).alloc _
    have g0 : Blk V0 X 50 zL9A := by rw [hV0, hX]; exact Blk.new _ _ _
    obtain ⟨V1, hV1⟩ : ∃ V, V = V0.setCells X 0 (letL y) := ⟨_, rfl⟩
    have g1 : Blk V1 X 50 (letA y) := by rw [hV1]; exact Blk.setCells (l := zL9L) g0 0 (letL y)
    have m1 : Fr (· = X) V0 V1 := by rw [hV1]; exact (Fr.refl (· = X) _).setCells _ _
    have qv1 : Nw w4 V1 := qv0.new m1 (fun b hb => by omega)
    have hth := Blk.there (l := zL9L) g0 0 20 (by show 0 + 20 ≤ 20; omega)
    have hone := zbc y
    have hcy := zdk y
    have hlg := Blk.cells_at (l := (letL y)) g1 0
    have Q4 : Nw w w4 := hnw.new h4.2 (fun j hj => by omega)
    have HX := Lib.hid hX
    have HV0 := Lib.hid hV0
    have HV1 := Lib.hid hV1
    have HYX := Lib.hid hyx
    clear hX hV0 hV1 m1 g0 qv0 hyx
    go_upto_region 8 with (rw [← HX.out, ← HV0.out]; refine wpList_store_mid rfl 50 _ _ rfl X 0 (letA y) rfl rfl hth (by kernel_rfl) hone ?_; rw [← HV1.out])
    cases good with
    | false =>
     have hpn : p = none := by
      have h1 : zbC zch (k + 1) r0 = none := by rw [zbC, HM.out]; simp only; rw [HQL.out]
      have h2 := ziZ h1 hlt
      have := HP.out
      simp only [Int.toNat_natCast, h2] at this
      exact this.symm
     have HPN := Lib.hid hpn
     clear hpn
     go_wp2_with fail
     go_ret2
     rw [HPN.out]
     exact ⟨Q4.tr qv1, rfl⟩
    | true =>
     have h1 : (zbh zch (some rk)).1.2 = true := by rw [HQL.out]
     obtain ⟨_, rn, h2, h3⟩ := zfo zg5.1 h1
     rw [HQL.out] at h2 h3
     injection h3 with h3
     have h2' : se = some rn := h2
     subst h2'
     have hln : rn.length ≤ 1000000000000 := by
      have := congrArg List.length h3
      rw [List.length_append] at this
      omega
     have hsu : zbC zch (k + 1) r0 = some (cur.l.map LetM.x ++ [x], rn) := by rw [zbC, HM.out]; simp only; rw [HQL.out]
     obtain ⟨V2, hV2⟩ : ∃ V, V = V1.alloc (.cells (letA y) 50) := ⟨_, rfl⟩
     have sln := zaI V1 50 (letL y) _ rfl
     have qv2 : Nw V1 V2 := by rw [hV2]; exact (Fr.refl (fun _ => False) V1).alloc _
     have hg1 : g < w1.heap.size := hgw1
     have hoa := ((ho.fr h4.2 (fun j hj e => by have := ho.base j hj; omega)).nw qv1).nw qv2
     have hoo := hoa.own
     rw [← hV2] at sln
     have HV2 := Lib.hid hV2
     have HSU := Lib.hid hsu
     have hkn : (cur.l.length + 1) * 256 ≤ 140737488355328 := by omega
     have hkm : cur.l.length + 1 ≤ maxLen := by unfold maxLen; omega
     clear hV2 hsu h1 h2 h3
     go_wp2_with (first | (refine za5 rfl 50 _ rfl X 0 rfl (letL y) _ hlg Tryz.underlying50 rfl (by kernel_rfl) ?_) | (at_builtin; rw [← HV2.out]; refine zay rfl _ _ _ rfl 256 (.agg zL9A) Tryz.underlying28 zhk rfl (by decide) rfl hoo rfl sln rfl hcy hkn hkm ?_; intro B' c' w5 hap))
     go_roundw
     case rel =>
      have hs4 := h4.2.size
      have hsv1 := qv1.size
      have hsv2 := qv2.size
      obtain ⟨r1, r2⟩ := zmk (wr := wr) hoa (fun u hu => (((((HE.out u hu).mono (F' := fun j => w1.heap.size ≤ j ∧ j < wr.heap.size ∧ ¬ inA cur.a j) (fun j hj hl => ⟨hj.1, hl, hj.2⟩)).fr h4.2 (fun j hj e => by have := hj.1; omega)).nw qv1).nw qv2)) (((hyi.nw qv1).nw qv2).mono (fun j hj _ => hj)) ho.own.lt hwz (by omega) hap
      refine ⟨k + 1, ⟨B', c', cur.l ++ [y]⟩, rn, by omega, by go_num, by simp, by simp [HCL.out], ((h4.1.fr qv1 (fun h => h) (fun _ _ h => h)).fr qv2 (fun h => h) (fun _ _ h => h)).fr hap.fr (fun e => by have := ho.base _ e; omega) (fun j (hj : j < g) e => by have := ho.base _ e; omega), ((Q4.tr qv1).tr qv2).new hap.fr (fun j hj => by have := ho.base _ hj; have := Q1.size; omega), r1, r2, fun u hu => ?_, ?_, Nat.le_trans (Nat.le_trans hwz (Nat.le_trans hs4 (Nat.le_trans hsv1 hsv2))) hap.fr.size, hln⟩
      ·rcases List.mem_append.1 hu with hu | hu
       ·exact HZ.out u hu
       ·rw [List.mem_singleton.1 hu]; exact hyz
      ·rw [HSU.out, List.map_append, List.map_singleton, HYX.out]
     case measure => simp [intOf]; omega
   ·obtain rfl : k = n := by omega
    have hend := zhh wr _ g (some rk) hr
    have hpp := HP.out
    simp only [Int.toNat_natCast, hm'] at hpp
    have HCL := Lib.hid hcl
    clear hcl
    cases rk with
    | nil =>
     have hpe : p = some (cur.l.map LetM.x) := hpp.symm
     have he0 : zd2 (some []) = 0 := rfl
     rw [he0] at hend
     have HPE := Lib.hid hpe
     clear hpe hpp he0
     go_wp2_with fail
     refine hend.mono ?_
     rintro e w5 ⟨rfl, rfl⟩
     go_wp2_with fail
     go_ret2
     rw [HPE.out]
     exact ⟨hnw, cur, rfl, rfl, ho.from_ Q1.size, fun y hy => (he y hy).mono (fun j hj _ => Nat.le_trans Q1.size hj.1), hz⟩
    | cons c r =>
     have hpe : p = none := hpp.symm
     have he0 : zd2 (some (c :: r)) = 4 := rfl
     rw [he0] at hend
     have HPE := Lib.hid hpe
     clear hpe hpp he0
     go_wp2_with fail
     refine hend.mono ?_
     rintro e w5 ⟨rfl, rfl⟩
     go_wp2_with fail
     go_ret2
     rw [HPE.out]
     exact ⟨hnw, rfl⟩
end Go.Proofs.YtippdjaakcgeoaaGreat
