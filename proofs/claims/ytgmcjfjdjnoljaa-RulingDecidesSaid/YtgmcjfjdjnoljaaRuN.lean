/- Rulings: the document reads a book. -/
import Derived.Test.YtgmcjfjdjnoljaaRuK
import Derived.Test.YtgmcjfjdjnoljaaRuM
import Derived.Test.YtgmcjfjdjnoljaaRefB
namespace Go.Proofs.Ytgmcjfjdjnoljaa
open Go Go.RowKit

theorem IsRR.failed {w : World} {F : Nat → Prop} {g : Nat} {s : Rd} (h : IsRR w F g s) : w.cell? ⟨g, 1, none⟩ = some (.bool (decide (s = none))) := by
  cases s with
  | none => simpa using h.1.cell 1
  | some bs =>
    obtain ⟨A, cap, hb, _⟩ := h
    simpa using hb.cell 1
/-- The document's reader amid the reading of a verdict: what stands in the variable. -/
structure RneSt (w wr : World) (F : Nat → Prop) (gr : Nat) (s : Rd) (cs : Array Value) : Prop where
  rd : IsRR wr F gr s
  fr : Fr (· = gr) w wr
  x : Blk wr w.heap.size 41 cs
section
variable {w wr w' : World} {F : Nat → Prop} {gr : Nat} {s s' : Rd} {cs : Array Value}
theorem RneSt.call (h : RneSt w wr F gr s cs) (hg : gr < w.heap.size) (k : RRTo wr F gr s' w') : RneSt w w' F gr s' cs :=
  ⟨k.1, h.fr.tr k.2, h.x.fr k.2 (by omega)⟩
theorem RneSt.set_ (h : RneSt w wr F gr s cs) (hg : gr < w.heap.size) (hF : ∀ k, F k → k < w.heap.size) (j : Nat) (u : Value) : RneSt w (wr.setCell ⟨w.heap.size, j, none⟩ u) F gr s (cs.setIfInBounds j u) :=
  ⟨h.rd.fr (S := (· = w.heap.size)) ((Fr.refl (· = w.heap.size) wr).setCell (p := ⟨w.heap.size, j, none⟩) (.inl rfl) u) (by omega) (fun k hk e => by have := hF k hk; omega), h.fr.setCell (.inr (by simp)) u, h.x.set_ j u⟩
theorem RneSt.other (h : RneSt w wr F gr s cs) (hg : gr < w.heap.size) (hF : ∀ k, F k → k < w.heap.size) {p : Addr} (hp : w.heap.size < p.block) (u : Value) : RneSt w (wr.setCell p u) F gr s cs :=
  ⟨h.rd.fr (S := (· = p.block)) ((Fr.refl (· = p.block) wr).setCell (.inl rfl) u) (by omega) (fun k hk e => by have := hF k hk; omega), h.fr.setCell (.inr (by omega)) u, h.x.far (by omega) u⟩
theorem RneSt.nw (h : RneSt w wr F gr s cs) (q : Nw wr w') : RneSt w w' F gr s cs :=
  ⟨h.rd.fr q (fun h => h) (fun _ _ h => h), h.fr.tr (Nw.on q), h.x.fr q (fun h => h)⟩
end
theorem rne_app {w V w6 : World} {F : Nat → Prop} {gr : Nat} {s : Rd} {cs : Array Value} {A : Option Addr} {o : Obj} (h : RneSt w V F gr s cs) (hA : ∀ j, inA A j → w.heap.size < j) (f : Fr (inA A) (V.alloc o) w6) (hg : gr < w.heap.size) (hF : ∀ k, F k → k < w.heap.size) : RneSt w w6 F gr s cs := by
  have h2 := h.nw ((Fr.refl _ V).alloc o)
  exact ⟨h2.rd.fr f (fun hi => by have := hA _ hi; omega) (fun k hk hi => by have := hA _ hi; have := hF k hk; omega), h2.fr.trans f (fun j hj => .inr (by have := hA j hj; omega)), h2.x.fr f (fun hi => by have := hA _ hi; omega)⟩
/-- So many reads are read. -/
def RneRel (w : World) (F : Nat → Prop) (gr : Nat) (a b : Int) (m : Bool) (t : Int) (n : Nat) (s : Rd) (i : Value) (wr : World) : Prop :=
  ∃ k : Nat, k ≤ n ∧ i = .int .i64 k ∧ ∃ A c, RneSt w wr F gr (rdRdgs k s).2 #[I64 a, I64 b, .bool m, I64 t, .slice A k c] ∧ Own wr 83 3 A k c (rdgsCells (rdRdgs k s).1) ∧ ∀ j, inA A j → w.heap.size < j
/-- What reading a book tells and leaves. -/
def RbReadTo (w : World) (F : Nat → Prop) (gr : Nat) (res : Option (List Ver × Rd)) (e : Ending) (w' : World) : Prop :=
  Fr (· = gr) w w' ∧ match res with
    | none => e = .returned (.tuple #[.pointer none, .bool false])
    | some (l, t) => ∃ g FB, e = .returned (.tuple #[.pointer (some ⟨g, 0, none⟩), .bool true]) ∧ IsRB w' FB g l ∧ IsRR w' F gr t ∧ ∀ k, FB k → w.heap.size ≤ k
def RbRel (w : World) (F : Nat → Prop) (gr g n : Nat) (s1 : Rd) (i : Value) (wr : World) : Prop :=
  ∃ k : Nat, k ≤ n ∧ i = .int .i64 k ∧ ∃ l st FB, bkN k (some ([], s1)) = some (l, st) ∧ IsRB wr FB g l ∧ (∀ j, FB j → w.heap.size ≤ j) ∧ IsRR wr F gr st ∧ Fr (· = gr) w wr
set_option maxRecDepth 100000 in
set_option maxHeartbeats 4000000 in
theorem rbRead_any (w : World) (F : Nat → Prop) (gr : Nat) (s : Rd) (h : IsRR w F gr s) (hsz : rdLeft s ≤ 1000000000000) :
    Calls Try.prog 34 #[.pointer (some ⟨gr, 0, none⟩)] w fun e w' => RbReadTo w F gr (rdBook s) e w' := by
  have hgr := h.lt
  have hF := h.out.2
  have hbk : rdBook s = match bkN (rdNum 1073741824 s).1.toNat (some ([], (rdNum 1073741824 s).2)) with
    | none => none
    | some (l, t) => if t = none then none else some (l, t) := rfl
  have hnm := rdNum_most 1073741824 s (by omega)
  have hl1 := Nat.le_trans (rdNum_left 1073741824 s) hsz
  have n1 := fun w1 h1 => rrnumber_any w1 F gr s h1 1073741824 hsz
  generalize rdBook s = res at hbk ⊢
  generalize rdNum 1073741824 s = q at hbk hnm hl1 n1
  obtain ⟨n, s1⟩ := q
  simp only at hbk hnm hl1 n1
  obtain ⟨n, rfl⟩ : ∃ k : Nat, n = (k : Int) := ⟨n.toNat, by omega⟩
  have hn : n ≤ 1073741824 := by omega
  simp only [Int.toNat_natCast] at hbk
  have HB := Lib.hid hbk
  have N1 := Lib.hid n1
  clear hbk hnm n1
  have hX := Blk.new w 31 #[.slice none 0 0]
  have q0 : Nw w (w.alloc (.cells #[.slice none 0 0] 31)) := (Fr.refl _ w).alloc _
  have h1 := h.fr q0 (fun h => h) (fun _ _ h => h)
  have hb0 : IsRB (w.alloc (.cells #[.slice none 0 0] 31)) (· = w.heap.size) w.heap.size [] :=
    ⟨none, 0, [], fun _ => False, hX, Own.nil _ _ _, VersC.nil _ _, rfl, fun k hk => (inA_none k hk).elim, fun k hk => hk.elim, fun k hk => by subst hk; simp⟩
  go_enter Try.func34, Try.ntmps34
  go_wp2_with fail
  refine (N1.out _ h1).mono ?_
  rintro e w2 ⟨rfl, h2⟩
  have hb2 := hb0.fr h2.2 (fun k hk e => by omega)
  have f2 : Fr (· = gr) w w2 := (Nw.on q0).tr h2.2
  have i2 := h2.1
  clear h1 hb0 hX q0 h2
  obtain ⟨g, hg⟩ : ∃ g, w.heap.size = g := ⟨_, rfl⟩
  have HG := Lib.hid hg
  rw [hg] at hb2 ⊢
  clear hg
  go_wp2_with fail
  go_loopw [6] (fun i wx => RbRel w F gr g n s1 i wx) (fun i _ => n - (intOf i).toNat)
  case atStart => exact ⟨0, Nat.zero_le _, rfl, [], s1, _, rfl, hb2, fun j hj => by have := HG.out; omega, i2, f2⟩
  case round =>
    clear hb2 f2 i2
    obtain ⟨k, hk, rfl, l, st, FB, hN, hb, hFB, hr, hf⟩ := hrel
    have hnone : bkN k (some ([], s1)) = some (l, st) := hN
    obtain ⟨hok, hlk⟩ := bkN_ok hN
    have hz := bookOk_sz hok
    have x1 := hr.failed
    by_cases hlt : k < n
    · have hls : rdLeft st ≤ 1000000000000 := Nat.le_trans (bkN_left hN) hl1
      have hwf := rdVer_wf st
      have hvz := rdVer_sz st
      have hyes := @bkStep_yes l st
      have hno := @bkStep_no l st
      have hl5 := Nat.le_trans (rdVerN_left st) hls
      have hver : rdVer st = ((((rdVerN st).1.1, (rdVerN st).1.2.1), (rdVerN st).1.2.2.2.1, (rdVerN st).1.2.2.1, (rdRdgs (rdVerN st).1.2.2.2.2.toNat (rdVerN st).2).1), (rdRdgs (rdVerN st).1.2.2.2.2.toNat (rdVerN st).2).2) := rfl
      have hn6 : 0 ≤ (rdVerN st).1.2.2.2.2 ∧ (rdVerN st).1.2.2.2.2 ≤ 6 := rdNum_most 6 _ (by omega)
      have e1 : (rdNum 1073741824 st).1 = (rdVerN st).1.1 := rfl
      have e2 : (rdNum 1073741824 (rdNum 1073741824 st).2).1 = (rdVerN st).1.2.1 := rfl
      have e3 : (rdNum 1073741824 (rdNum 1073741824 (rdNum 1073741824 st).2).2).1 = (rdVerN st).1.2.2.1 := rfl
      have e4 : (rdFlag (rdNum 1073741824 (rdNum 1073741824 (rdNum 1073741824 st).2).2).2).1 = (rdVerN st).1.2.2.2.1 := rfl
      have e5 : (rdNum 6 (rdFlag (rdNum 1073741824 (rdNum 1073741824 (rdNum 1073741824 st).2).2).2).2).1 = (rdVerN st).1.2.2.2.2 := rfl
      have e6 : (rdNum 6 (rdFlag (rdNum 1073741824 (rdNum 1073741824 (rdNum 1073741824 st).2).2).2).2).2 = (rdVerN st).2 := rfl
      have g2 := Nat.le_trans (rdNum_left 1073741824 st) hls
      have g3 := Nat.le_trans (rdNum_left 1073741824 (rdNum 1073741824 st).2) g2
      have g5 := Nat.le_trans (rdFlag_left _) (Nat.le_trans (rdNum_left 1073741824 (rdNum 1073741824 (rdNum 1073741824 st).2).2) g3)
      rw [hver] at hwf hvz hyes hno
      clear hver
      have n1 := fun w1 h1 => rrnumber_any w1 F gr st h1 1073741824 hls
      have n2 := fun w1 h1 => rrnumber_any w1 F gr (rdNum 1073741824 st).2 h1 1073741824 g2
      have n3 := fun w1 h1 => rrnumber_any w1 F gr (rdNum 1073741824 (rdNum 1073741824 st).2).2 h1 1073741824 g3
      have n4 := fun w1 h1 => rrflag_any w1 F gr (rdNum 1073741824 (rdNum 1073741824 (rdNum 1073741824 st).2).2).2 h1
      have n5 := fun w1 h1 => rrnumber_any w1 F gr (rdFlag (rdNum 1073741824 (rdNum 1073741824 (rdNum 1073741824 st).2).2).2).2 h1 6 g5
      rw [e1] at n1
      rw [e2] at n2
      rw [e3] at n3
      rw [e4] at n4
      rw [e5, e6] at n5
      clear e1 e2 e3 e4 e5 e6 g2 g3 g5
      generalize rdVerN st = q at hn6 hl5 n1 n2 n3 n4 n5 hwf hvz hyes hno
      obtain ⟨⟨a, b, t, m, nn⟩, s5⟩ := q
      simp only at hn6 hl5 n1 n2 n3 n4 n5 hwf hvz hyes hno
      generalize (rdFlag (rdNum 1073741824 (rdNum 1073741824 (rdNum 1073741824 st).2).2).2).2 = z4 at n4 n5
      generalize (rdNum 1073741824 (rdNum 1073741824 (rdNum 1073741824 st).2).2).2 = z3 at n3 n4
      generalize (rdNum 1073741824 (rdNum 1073741824 st).2).2 = z2 at n2 n3
      generalize (rdNum 1073741824 st).2 = z1 at n1 n2
      obtain ⟨nn, rfl⟩ : ∃ k : Nat, nn = (k : Int) := ⟨nn.toNat, by omega⟩
      have hn6 : nn ≤ 6 := by omega
      simp only [Int.toNat_natCast] at hwf hvz hyes hno
      have R1 := Lib.hid n1
      have R2 := Lib.hid n2
      have R3 := Lib.hid n3
      have R4 := Lib.hid n4
      have R5 := Lib.hid n5
      have HY := Lib.hid hyes
      have HNo := Lib.hid hno
      have HN := Lib.hid hN
      have HOK := Lib.hid hok
      have HWF := Lib.hid hwf
      have HVZ := Lib.hid hvz
      clear n1 n2 n3 n4 n5 hyes hno hN hnone hok hls x1 hwf hvz
      obtain ⟨wB, hwB⟩ : ∃ wB, wB = wr := ⟨_, rfl⟩
      have hgw : gr < wr.heap.size := hr.lt
      have hFw := hr.out.2
      have st0 : RneSt wr (wr.alloc (.cells zeroC 41)) F gr st zeroC := ⟨hr.fr (S := fun _ => False) ((Fr.refl _ wr).alloc _) (fun h => h) (fun _ _ h => h), (Fr.refl _ wr).alloc _, Blk.new wr 41 zeroC⟩
      rw [← hwB] at hb hr hf hgw hFw st0 ⊢
      clear hwB
      have hbl := hb.lt
      go_wp2_with fail
      refine (R1.out _ st0.rd).mono ?_
      rintro e w1 ⟨rfl, h1⟩
      have su1 := st0.call hgw h1
      have c1 : w1.cell? ⟨wB.heap.size, 0, none⟩ = _ := su1.x.cell 0
      have f1 := su1.x.frozen 0
      simp at c1
      have st1 : RneSt wB _ F gr z1 #[I64 a, .int .i64 0, .bool false, .int .i64 0, .slice none 0 0] := su1.set_ hgw hFw 0 (I64 a)
      clear su1 h1 
      go_wp2_with fail
      refine (R2.out _ st1.rd).mono ?_
      rintro e w2 ⟨rfl, h2⟩
      have su2 := st1.call hgw h2
      have c2 : w2.cell? ⟨wB.heap.size, 1, none⟩ = _ := su2.x.cell 1
      have f2 := su2.x.frozen 1
      simp at c2
      have st2 : RneSt wB _ F gr z2 #[I64 a, I64 b, .bool false, .int .i64 0, .slice none 0 0] := su2.set_ hgw hFw 1 (I64 b)
      clear su2 h2 st1
      go_wp2_with fail
      refine (R3.out _ st2.rd).mono ?_
      rintro e w3 ⟨rfl, h3⟩
      have su3 := st2.call hgw h3
      have c3 : w3.cell? ⟨wB.heap.size, 3, none⟩ = _ := su3.x.cell 3
      have f3 := su3.x.frozen 3
      simp at c3
      have st3 : RneSt wB _ F gr z3 #[I64 a, I64 b, .bool false, I64 t, .slice none 0 0] := su3.set_ hgw hFw 3 (I64 t)
      clear su3 h3 st2
      go_wp2_with fail
      refine (R4.out _ st3.rd).mono ?_
      rintro e w4 ⟨rfl, h4⟩
      have su4 := st3.call hgw h4
      have c4 : w4.cell? ⟨wB.heap.size, 2, none⟩ = _ := su4.x.cell 2
      have f4 := su4.x.frozen 2
      simp at c4
      have st4 : RneSt wB _ F gr z4 #[I64 a, I64 b, .bool m, I64 t, .slice none 0 0] := su4.set_ hgw hFw 2 (.bool m)
      clear su4 h4 st3
      go_wp2_with fail
      refine (R5.out _ st4.rd).mono ?_
      rintro e w5 ⟨rfl, h5⟩
      have st5 := st4.call hgw h5
      clear st4 h5 c1 c2 c3 c4 f1 f2 f3 f4
      go_wp2_with fail
      go_loopw [9] (fun i wx => RneRel wB F gr a b m t nn s5 i wx) (fun i _ => nn - (intOf i).toNat)
      case atStart => exact ⟨0, Nat.zero_le _, rfl, none, 0, st5, Own.nil _ _ _, fun j hj => (inA_none j hj).elim⟩
      case round =>
        clear st5
        obtain ⟨kk, hkk2, rfl, A, c, sta, ho, hA⟩ := hrel
        by_cases hlt2 : kk < nn
        · have hlkk := rdRdgs_len kk s5
          have hsk := Nat.le_trans (rdRdgs_left kk s5) hl5
          have hsucc : rdRdgs (kk + 1) s5 = ((rdRdgs kk s5).1 ++ [(rdRdg (rdRdgs kk s5).2).1], (rdRdg (rdRdgs kk s5).2).2) := rfl
          obtain ⟨⟨lk, sk⟩, hkq⟩ : ∃ q, rdRdgs kk s5 = q := ⟨_, rfl⟩
          rw [hkq] at sta ho hlkk hsk hsucc
          simp only at sta ho hlkk hsk hsucc
          have hx : rdRdg sk = (((rdRow 20 sk).1, (rdFlag (rdRow 20 sk).2).1, (rdRow 20 (rdFlag (rdRow 20 sk).2).2).1), (rdRow 20 (rdFlag (rdRow 20 sk).2).2).2) := rfl
          have hlq : rdLeft (rdFlag (rdRow 20 sk).2).2 ≤ 1000000000000 := Nat.le_trans (rdFlag_left _) (Nat.le_trans (rdRow_left 20 sk) hsk)
          rw [hx] at hsucc
          have t1 := fun w1 h1 => rrrow_any w1 F gr sk h1 20 hsk
          have t2 := fun w1 h1 => rrflag_any w1 F gr (rdRow 20 sk).2 h1
          have t3 := fun w1 h1 => rrrow_any w1 F gr (rdFlag (rdRow 20 sk).2).2 h1 20 hlq
          generalize rdRow 20 (rdFlag (rdRow 20 sk).2).2 = y3 at t3 hsucc
          generalize rdFlag (rdRow 20 sk).2 = y2 at t2 t3 hsucc
          generalize rdRow 20 sk = y1 at t1 t2 hsucc
          obtain ⟨x1, z1⟩ := y1
          obtain ⟨x2, z2⟩ := y2
          obtain ⟨x3, z3⟩ := y3
          simp only at t1 t2 t3 hsucc
          have HS := Lib.hid hsucc
          have T1 := Lib.hid t1
          have T2 := Lib.hid t2
          have T3 := Lib.hid t3
          clear hsucc t1 t2 t3 hkq hx hlq hsk
          have hws : wB.heap.size < wr.heap.size := sta.x.lt
          have stY := sta.nw ((Fr.refl _ wr).alloc (.cells #[.string ⟨#[]⟩, .bool false, .string ⟨#[]⟩] 83))
          have hY := Blk.new wr 83 #[.string ⟨#[]⟩, .bool false, .string ⟨#[]⟩]
          have hoY := ho.alloc (.cells #[.string ⟨#[]⟩, .bool false, .string ⟨#[]⟩] 83)
          have hAl : ∀ j, inA A j → j < wr.heap.size := ho.lt
          have hAg : ∀ j, inA A j → ¬ j = gr := fun j hj e => by have := hA j hj; omega
          have hAY : ∀ (p : Addr), p.block = wr.heap.size → ¬ inA A p.block := fun p hp hj => by have := hAl _ hj; omega
          go_wp2_with fail
          refine (T1.out _ stY.rd).mono ?_
          rintro e w1 ⟨B1, d1, rfl, ob1, h1, _⟩
          have hconv1 := run_text_sl w1 _ _ d1 _ ob1.sl
          have su1 := (stY.call hgw h1).other hgw hFw (p := ⟨wr.heap.size, 0, none⟩) hws (StrV x1)
          have hY1 := hY.fr h1.2 (by omega)
          have hu1 : Blk _ wr.heap.size 83 #[StrV x1, .bool false, .string ⟨#[]⟩] := hY1.set_ 0 (StrV x1)
          have ho1 := (hoY.fr h1.2 hAg).setCell (p := ⟨wr.heap.size, 0, none⟩) (hAY _ rfl) (StrV x1)
          have c1 := hY1.cell 0
          have f1 := hY1.frozen 0
          simp at c1
          clear stY hY hoY h1 hY1 ob1
          go_wp2_with fail
          refine (T2.out _ su1.rd).mono ?_
          rintro e w2 ⟨rfl, h2⟩
          have su2 := (su1.call hgw h2).other hgw hFw (p := ⟨wr.heap.size, 1, none⟩) hws (.bool x2)
          have hY2 := hu1.fr h2.2 (by omega)
          have hu2 : Blk _ wr.heap.size 83 #[StrV x1, .bool x2, .string ⟨#[]⟩] := hY2.set_ 1 (.bool x2)
          have ho2 := (ho1.fr h2.2 hAg).setCell (p := ⟨wr.heap.size, 1, none⟩) (hAY _ rfl) (.bool x2)
          have c2 := hY2.cell 1
          have f2 := hY2.frozen 1
          simp at c2
          clear su1 hu1 ho1 h2 hY2 c1 f1 hconv1
          go_wp2_with fail
          refine (T3.out _ su2.rd).mono ?_
          rintro e w3 ⟨B3, d3, rfl, ob3, h3, _⟩
          have hconv3 := run_text_sl w3 _ _ d3 _ ob3.sl
          have su3 := (su2.call hgw h3).other hgw hFw (p := ⟨wr.heap.size, 2, none⟩) hws (StrV x3)
          have hY3 := hu2.fr h3.2 (by omega)
          have hu3 : Blk _ wr.heap.size 83 #[StrV x1, .bool x2, StrV x3] := hY3.set_ 2 (StrV x3)
          have ho3 := (ho2.fr h3.2 hAg).setCell (p := ⟨wr.heap.size, 2, none⟩) (hAY _ rfl) (StrV x3)
          have c3 := hY3.cell 2
          have f3 := hY3.frozen 2
          simp at c3
          have c4 := su3.x.cell 4
          simp at c4
          have hs3 : (w3.setCell ⟨wr.heap.size, 2, none⟩ (StrV x3)).heap.size = w3.heap.size := by simp [World.setCell]
          have hone : ∀ u ∈ rdgCells (x1, x2, x3), u.oneCell' = true := by
            have := rdgsCells_one [(x1, x2, x3)]
            rwa [show rdgsCells [(x1, x2, x3)] = rdgCells (x1, x2, x3) from by simp [rdgsCells]] at this
          have hby : (kk + 1) * 40 ≤ 140737488355328 := by omega
          have hmx : kk + 1 ≤ maxLen := by unfold maxLen; omega
          have h13 : wB.heap.size < w3.heap.size := by have := su3.x.lt; omega
          clear su2 hu2 ho2 h3 hY3 c2 f2 ob3
          go_wp2_with (first | (refine wpList_load_row rfl 83 _ rfl wr.heap.size rfl 83 _ (0, 0) _ hu3 Try.underlying83 rfl rd_size ?_) | (at_builtin; refine wl_append2 rfl _ _ _ rfl 40 (.agg #[.string ⟨#[]⟩, .bool false, .string ⟨#[]⟩]) Try.underlying36 info_read rfl (by decide) rfl (ho3.alloc _) rfl (sl_new _ 83 (rdgCells (x1, x2, x3)) _ hs3) rfl hone hby hmx ?_; intro A6 c6 w6 hap6; obtain ⟨o6, f6, a6⟩ := rd_app hap6; have s6 := rne_app su3 hA f6 hgw hFw; have c6x := s6.x.cell 4; have f6x := s6.x.frozen 4; simp at c6x))
          go_roundw
          case rel =>
            have hs := HS.out
            have h6s : w3.heap.size ≤ w6.heap.size := by have := f6.size; simp at this; omega
            refine ⟨kk + 1, by omega, by go_num, A6, c6, ?_, ?_, fun j hj => ?_⟩
            · rw [hs]
              exact s6.set_ hgw hFw 4 (.slice A6 (kk + 1) c6)
            · rw [hs, rdgsCells_append, show rdgsCells [(x1, x2, x3)] = rdgCells (x1, x2, x3) from by simp [rdgsCells]]
              refine o6.setCell (fun hj => ?_) _
              rcases a6 _ hj with h1 | h1
              · have := hA _ h1; simp at this
              · simp at h1; omega
            · rcases a6 _ hj with h1 | h1
              · exact hA _ h1
              · simp at h1; omega
          case measure => simp [intOf]; omega
        · have hkn : kk = nn := by omega
          subst hkn
          have hlkk := rdRdgs_len kk s5
          have hcap := ho.cap_le
          have hv5 : (((a, b), m, t, (rdRdgs kk s5).1) : Ver).2.2.2.length = kk := hlkk
          have hs1 := ho.sl.mono (F' := fun j => wB.heap.size < j ∧ j < wr.heap.size) fun j h1 h2 => ⟨hA j h1, h2⟩
          have hT1 := sta.x
          have i1 := sta.rd
          have f1 := hf.tr sta.fr
          have hb1 := hb.fr sta.fr (fun j hj e => by have := hFB j hj; omega)
          generalize hrs : (rdRdgs kk s5).1 = rs at HY HNo HWF HVZ hs1 hlkk
          generalize hss : (rdRdgs kk s5).2 = st' at HY HNo i1
          subst hlkk
          obtain ⟨w1, hw1⟩ : ∃ w1, w1 = wr := ⟨_, rfl⟩
          rw [← hw1] at hs1 hT1 i1 f1 hb1 ⊢
          have hw1s : wB.heap.size < w1.heap.size := hT1.lt
          have y0 : w1.cell? ⟨wB.heap.size, 0, none⟩ = some (I64 a) := by simpa using hT1.cell 0
          have y1 : w1.cell? ⟨wB.heap.size, 1, none⟩ = some (I64 b) := by simpa using hT1.cell 1
          clear hw1 sta ho hA hrs hss hlt2 st0 hv5
          go_wp2_with fail
          refine (rbOf_any w1 FB g l hb1 (a, b) hz (by omega)).mono ?_
          rintro e w3 ⟨A3, c3, rfl, hl3, hm3, _, q3⟩
          obtain ⟨o, hfo⟩ : ∃ o, findV (a, b) l = o := ⟨_, rfl⟩
          rw [hfo] at hl3 ⊢
          obtain ⟨u, hu⟩ : ∃ u, o.getD verZero = u := ⟨_, rfl⟩
          obtain ⟨is, his⟩ : ∃ is, o.isSome = is := ⟨_, rfl⟩
          rw [hu] at hl3 ⊢
          rw [his]
          have HFO := Lib.hid hfo
          have HU := Lib.hid hu
          have HIS := Lib.hid his
          clear hu his hfo
          have hV := Blk.new w3 41 zeroC
          have h1V := ver_one u.1.1 u.1.2 u.2.1 u.2.2.1 (.slice A3 u.2.2.2.length c3) rfl
          obtain ⟨w4, hw4⟩ : ∃ w4, w4 = (w3.alloc (.cells zeroC 41)).setRow w3.heap.size #[I64 u.1.1, I64 u.1.2, .bool u.2.1, I64 u.2.2.1, .slice A3 u.2.2.2.length c3] := ⟨_, rfl⟩
          have q34 : Nw w3 w4 := by rw [hw4]; exact ((Fr.refl (fun _ => False) w3).alloc _).setRow (.inr (Nat.le_refl _)) _
          have HW4 := Lib.hid hw4
          clear hw4
          have q14 : Nw w1 w4 := q3.tr q34
          have hb4 := hb1.fr q14 (fun _ _ h => h)
          have hs4 := hs1.fr q14 (fun _ _ h => h)
          have hT4 := hT1.fr q14 (fun h => h)
          have i4 := i1.fr q14 (fun h => h) (fun _ _ h => h)
          have f4 := f1.tr (Nw.on q14)
          have x4 := i4.failed
          have bad : (¬ (findV (a, b) l = none ∧ st' ≠ none ∧ (decV l ((a, b), m, t, rs)).2.1 = 0)) → res = none := fun hh => by
            have e1 : bkN (k + 1) (some ([], s1)) = none := by
              show bkStep (bkN k (some ([], s1))) = none
              rw [HN.out]
              exact HNo.out hh
            rw [HB.out, bkN_none e1 hlt]
          have BAD := Lib.hid bad
          clear bad y0 y1 hT1
          cases st' with
          | none =>
            go_wp2_with (refine wpList_store_row rfl 41 _ _ rfl w3.heap.size _ rfl rfl 41 _ hV rver_size rfl h1V ?_; rw [← HW4.out])
            go_ret2
            rw [BAD.out (fun hh => hh.2.1 rfl)]
            exact ⟨f4, rfl⟩
          | some bs =>
            cases is
            · have hon : findV (a, b) l = none := by
                rw [HFO.out]
                have h1 := HIS.out
                cases o with
                | none => rfl
                | some x => cases h1
              have HON := Lib.hid hon
              clear hon
              obtain ⟨d, hd⟩ : ∃ d, decV l ((a, b), m, t, rs) = d := ⟨_, rfl⟩
              have hdec := rbDecide_any w4 FB _ g l hb4 ((a, b), m, t, rs) A c hs4 (fun j hj hf2 => by have := hbl j hf2; omega) HVZ.out hz (by omega)
              rw [hd] at hdec
              have HD := Lib.hid hd
              clear hd
              go_wp2_with (first | (refine wpList_store_row rfl 41 _ _ rfl w3.heap.size _ rfl rfl 41 _ hV rver_size rfl h1V ?_; rw [← HW4.out]) | (refine wpList_load_row rfl 41 _ rfl wB.heap.size rfl 41 _ (0, 0) _ hT4 Try.underlying41 rfl rver_size ?_))
              refine hdec.mono ?_
              rintro e w5 ⟨A5, c5, F5, rfl, hl5, hm5, _, hb5, f5, n5⟩
              have hD := Blk.new w5 41 zeroC
              have h1D := ver_one d.1.1.1 d.1.1.2 d.1.2.1 d.1.2.2.1 (.slice A5 d.1.2.2.2.length c5) rfl
              obtain ⟨w6, hw6⟩ : ∃ w6, w6 = (w5.alloc (.cells zeroC 41)).setRow w5.heap.size #[I64 d.1.1.1, I64 d.1.1.2, .bool d.1.2.1, I64 d.1.2.2.1, .slice A5 d.1.2.2.2.length c5] := ⟨_, rfl⟩
              have q56 : Nw w5 w6 := by rw [hw6]; exact ((Fr.refl (fun _ => False) w5).alloc _).setRow (.inr (Nat.le_refl _)) _
              have HW6 := Lib.hid hw6
              clear hw6
              have h4s := q14.size
              have hBs := hf.size
              have f6 : Fr (· = gr) w w6 := (f4.trans f5 fun j hj => .inr (hFB j hj)).tr (Nw.on q56)
              by_cases he : d.2.1 = 0
              · have HE := Lib.hid he
                go_wp2_with (refine wpList_store_row rfl 41 _ _ rfl w5.heap.size _ rfl rfl 41 _ hD rver_size rfl h1D ?_; rw [← HW6.out])
                go_roundw
                case rel =>
                  refine ⟨k + 1, by omega, by go_num, d.2.2, some bs, F5, ?_, hb5.fr q56 (fun _ _ h => h), fun j hj => ?_, (i4.fr f5 (fun hf2 => ?_) (fun j hj hf2 => ?_)).fr q56 (fun h => h) (fun _ _ h => h), f6⟩
                  · show bkStep (bkN k (some ([], s1))) = _
                    rw [HN.out, HY.out HON.out (by simp) (by rw [HD.out]; exact HE.out), HD.out]
                  · rcases n5 j hj with h1 | h1
                    · exact hFB j h1
                    · omega
                  · have := hFB _ hf2; omega
                  · have := hFB _ hf2; have := hF j hj; omega
                case measure => simp [intOf]; omega
              · have HE := Lib.hid he
                go_wp2_with (refine wpList_store_row rfl 41 _ _ rfl w5.heap.size _ rfl rfl 41 _ hD rver_size rfl h1D ?_; rw [← HW6.out])
                go_ret2
                rw [BAD.out (fun hh => HE.out (by rw [← HD.out]; exact hh.2.2))]
                exact ⟨f6, rfl⟩
            · go_wp2_with (refine wpList_store_row rfl 41 _ _ rfl w3.heap.size _ rfl rfl 41 _ hV rver_size rfl h1V ?_; rw [← HW4.out])
              go_ret2
              have hon : findV (a, b) l ≠ none := by
                rw [HFO.out]
                have h1 := HIS.out
                cases o with
                | none => cases h1
                | some x => simp
              rw [BAD.out (fun hh => hon hh.1)]
              exact ⟨f4, rfl⟩
    · have hkn : k = n := by omega
      subst hkn
      have HB2 : res = if st = none then none else some (l, st) := by rw [HB.out, hN]
      have HB3 := Lib.hid HB2
      clear HB2 hN hnone
      cases st with
      | none =>
        go_wp2_with fail
        go_ret2
        rw [HB3.out]
        exact ⟨hf, rfl⟩
      | some bs =>
        go_wp2_with fail
        go_ret2
        rw [HB3.out]
        exact ⟨hf, g, FB, rfl, hb, hr, hFB⟩
end Go.Proofs.Ytgmcjfjdjnoljaa
