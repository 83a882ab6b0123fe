/- Lemmas of the walks: NdC. (Laid together by shake.py.) -/
import Derived.Deep.CutBlock
import Derived.Test.YtippdjaakcgeoaaNa03
import Derived.Test.YtippdjaakcgeoaaNa13
set_option linter.unusedVariables false
set_option linter.unusedSimpArgs false
namespace Go.Proofs.Ytippdjaakcgeoaa
open Go Go.RowKit
set_option linter.unusedVariables false
set_option linter.unusedSimpArgs false

set_option maxRecDepth 100000 in
set_option maxHeartbeats 16000000 in
theorem once_walk (W : World) (A : Option Addr) (c : Nat) (ds : List DeedN) (h : Sl W (· < W.heap.size) A (deedsN ds)) (he : ∀ x ∈ ds, DeedNIn W (· < W.heap.size) x) (hl : ds.length ≤ 1125899906842624) :
    Calls Try.prog 3 #[.slice A ds.length c] W fun e w' => e = .returned (.bool true) ∧ Nw W w' := by
  have hli := fun w0 (q : Nw W w0) => light_any w0 (· < W.heap.size) A c ds (h.fr q (fun _ _ h => h)) (fun x hx => (he x hx).nw q) hl
  have HE := Lib.hid he
  clear he
  go_enter Try.func3, Try.ntmps3
  go_upto_region 3 with (go_at_call 6; refine (awake_any W).mono ?_; rintro e w1 ⟨rfl, q1⟩)
  go_upto_region 5 with (go_at_call 7; refine (hli w1 q1).mono ?_; rintro e w2 ⟨fb, rfl, hfew, q2⟩)
  · go_ret
    exact ⟨rfl, q1.tr q2⟩
  have hfb : (!fb) = false := by assumption
  obtain rfl : fb = true := by simpa using hfb
  have few := hfew rfl
  have a2 : Aw W w2 (fun _ => 0) := ⟨q1.tr q2, fun _ _ => rfl, fun _ _ => rfl⟩
  clear hfew hfb hli q1 q2
  have hnw := nNew w2 (fun _ => 0) 1 (by decide)
  have hnc := fun w3 col3 => nNew w3 col3 2 (by decide)
  go_upto_region 6 with (first | (go_at_call 8; refine (hnc w3 col3).mono ?_; rintro e w4 ⟨gc, col4, rfl, x4, c4, q4⟩) | (go_at_call 8; refine hnw.mono ?_; rintro e w3 ⟨gn, col3, rfl, x3, n3, q3⟩))
  have a4 := (a2.step x3 (by decide)).step x4 (by decide)
  have n4 := n3.ext x4 (by decide) (by decide) (by decide)
  clear hnw hnc a2 x3 n3 q3 x4 q4
  go_wp2_with fail
  go_loopw [5, 6, 7, 8] (fun v5 v6 v7 i wr => onceR W gn gc ds v5 v6 v7 i wr) (fun _ _ _ i _ => ds.length - (intOf i).toNat)
  case atStart => exact ⟨0, col4, _, _, none, 0, [], none, 0, [], none, 0, [], Nat.zero_le _, rfl, rfl, rfl, rfl, a4, n4.more (Nat.zero_le _), c4.more (Nat.zero_le _), LstC.nil _ _ _, LstC.nil _ _ _, LstC.nil _ _ _, NetOk.start _, CalmOk.start, Nat.zero_le _, Nat.zero_le _, Nat.zero_le _⟩
  case round =>
    clear a4 n4 c4
    obtain ⟨k, col, p, q, Aa, ca, al, Ap, cp, pu, At, ct, tl, hk, rfl, rfl, rfl, rfl, aw, nn, nc, la, lp, lt, hok, hcalm, zla, zlp, zlt⟩ := hrel
    obtain ⟨w0, hw0⟩ : ∃ w0, w0 = wr := ⟨_, rfl⟩
    rw [← hw0] at aw nn nc la lp lt ⊢
    clear hw0
    by_cases hlt : k < ds.length
    · have hi0 : (k : Int) < (ds.length : Int) := by omega
      obtain ⟨b, o, rfl, _, hbW, hc0⟩ := h.deedN hlt
      have din := HE.out _ (List.getElem_mem hlt)
      have dfew := few.2 _ (List.getElem_mem hlt)
      have dlen := deedT_take ds k hlt
      obtain ⟨d, hd⟩ : ∃ d, ds[k] = d := ⟨_, rfl⟩
      rw [hd] at hc0 din dfew dlen
      have hc : ∀ j u, (deedNL d)[j]? = some u → w0.cell? ⟨b, o + k * 4 + j, none⟩ = some u := fun j u hu => (aw.nw.cell (p := ⟨b, o + k * 4 + j, none⟩) hbW (fun h => h)).trans (hc0 j u hu)
      have way := din.way
      have wdst := din.dst_
      obtain ⟨N0, hN0⟩ : ∃ N0, N0 = k + deedT (ds.take k) := ⟨_, rfl⟩
      rw [← hN0] at nn nc zla zlp zlt
      obtain ⟨nd, hnd⟩ : ∃ nd, nd = d.l.l.length := ⟨_, rfl⟩
      rw [← hnd] at dlen
      have hT0 : deedT (ds.take (k + 1)) ≤ deedT ds := deedT_le ds (k + 1)
      have hfew1 := few.1
      have hN400 : N0 + 1 + nd ≤ 400 := by omega
      have hNN : k + 1 + deedT (ds.take (k + 1)) = N0 + 1 + nd := by omega
      have HNN := Lib.hid hNN
      have HND := Lib.hid hnd
      obtain ⟨E, hE⟩ : ∃ E, E = w0.heap.size := ⟨_, rfl⟩
      obtain ⟨V0, hV0⟩ : ∃ V, V = w0.alloc (.cells #[I64 0, I64 0, I64 0, .slice none 0 0] 29) := ⟨_, rfl⟩
      have q0 : Nw w0 V0 := by rw [hV0]; exact (Fr.refl (fun _ => False) _).alloc _
      have y0 : Blk V0 E 29 #[I64 0, I64 0, I64 0, .slice none 0 0] := by rw [hV0, hE]; exact Blk.new _ _ _
      have th := Blk.there (l := [I64 0, I64 0, I64 0, .slice none 0 0]) y0 0 4 (by show 0 + 4 ≤ 4; omega)
      have one := deedNA_one d
      obtain ⟨V1, hV1⟩ : ∃ V, V = V0.setCells E 0 [I64 d.kind, I64 d.src, I64 d.dst, .slice d.l.a d.l.l.length d.l.c] := ⟨_, rfl⟩
      have y1 : Blk V1 E 29 (deedNA d) := by rw [hV1]; exact Blk.setCells (l := [I64 0, I64 0, I64 0, .slice none 0 0]) y0 0 [I64 d.kind, I64 d.src, I64 d.dst, .slice d.l.a d.l.l.length d.l.c]
      have m1 : Fr (· = E) V0 V1 := by rw [hV1]; exact (Fr.refl (· = E) _).setCells _ _
      have q1 : Nw w0 V1 := q0.new m1 (fun b hb => by omega)
      have s1 : OS W V1 col gn gc N0 N0 p q Aa ca al Ap cp pu At ct tl E d := ⟨aw.tr q1, nn.nw q1 (by decide), nc.nw q1 (by decide), la.nw q1, lp.nw q1, lt.nw q1, y1, aw.cln E (by omega)⟩
      have e0 : V1.cell? ⟨E, 0, none⟩ = some (I64 d.kind) := by simpa using y1.cell 0
      have HEE := Lib.hid hE
      have HV0 := Lib.hid hV0
      have HV1 := Lib.hid hV1
      have HDD := Lib.hid hd
      have DFEW := Lib.hid dfew
      have DIN := Lib.hid din
      clear hE hV0 hV1 hd y0 m1 q0 q1 y1 aw nn nc la lp lt hN0 hnd hNN dlen hT0 hfew1 hc0 dfew
      go_upto_block 2 with (first | (refine wl_load_cells rfl 29 _ rfl b (o + k * 4) rfl _ _ hc Try.underlying29 rfl (by kernel_rfl) ?_) | (rw [← HV0.out, ← HEE.out]; refine wpList_store_mid rfl 29 _ _ rfl E 0 #[I64 d.kind, I64 d.src, I64 d.dst, .slice d.l.a d.l.l.length d.l.c] rfl rfl th (by kernel_rfl) one ?_; rw [← HV1.out]) | (go_at_call 9; refine (pick_any _ d.kind 9 (by omega) (by omega) DIN.out.kind).mono ?_; rintro e w3 ⟨⟨kk, hkk, rfl⟩, rfl⟩))
      go_cut [5, 6, 7] (fun v5 v6 v7 wx => OnceAt W gn gc (N0 + 1 + nd) E d v5 v6 v7 wx)
      case first =>
        have e1 : V1.cell? ⟨E, 1, none⟩ = some (I64 d.src) := by simpa using s1.blk.cell 1
        have e2 : V1.cell? ⟨E, 2, none⟩ = some (I64 d.dst) := by simpa using s1.blk.cell 2
        have e3 : V1.cell? ⟨E, 3, none⟩ = some (.slice d.l.a d.l.l.length d.l.c) := by simpa using s1.blk.cell 3
        by_cases k4 : kk = 4
        · subst k4
          cases hp : p (d.src, d.dst) with
          | nil =>
            have hdl : Calls Try.prog 10 #[.pointer (some ⟨gn, 0, none⟩), I64 d.src, I64 d.dst] V1 fun e w' => ∃ x : LetM, e = .returned (.tuple #[.agg (letA x), .bool false]) ∧ Nw V1 w' := (nDeliver0 (by decide) s1.n d.src d.dst way hp).mono fun e w' h => ⟨letMZ, h.1, h.2⟩
            go_upto_region 26 with (first | (go_at_call 10; refine hdl.mono ?_; rintro e w4 ⟨x, rfl, q4⟩; obtain ⟨D, hD⟩ : ∃ D, D = w4.heap.size := ⟨_, rfl⟩; obtain ⟨T0, hV0⟩ : ∃ V, V = w4.alloc (.cells #[U8V 0, I64 0, I64 0, I64 0, I64 0, I64 0, I64 0, I64 0, .bool false, .slice none 0 0, I64 0, I64 0, .slice none 0 0, .slice none 0 0, .slice none 0 0, .slice none 0 0, I64 0, I64 0, I64 0, .slice none 0 0] 40) := ⟨_, rfl⟩; have q0 : Nw w4 T0 := (by rw [hV0]; exact (Fr.refl (fun _ => False) _).alloc _); have y0 : Blk T0 D 40 #[U8V 0, I64 0, I64 0, I64 0, I64 0, I64 0, I64 0, I64 0, .bool false, .slice none 0 0, I64 0, I64 0, .slice none 0 0, .slice none 0 0, .slice none 0 0, .slice none 0 0, I64 0, I64 0, I64 0, .slice none 0 0] := (by rw [hV0, hD]; exact Blk.new _ _ _); have th := Blk.there (l := [U8V 0, I64 0, I64 0, I64 0, I64 0, I64 0, I64 0, I64 0, .bool false, .slice none 0 0, I64 0, I64 0, .slice none 0 0, .slice none 0 0, .slice none 0 0, .slice none 0 0, I64 0, I64 0, I64 0, .slice none 0 0]) y0 0 20 (by show 0 + 20 ≤ 20; omega); have one := letA_one x; obtain ⟨T1, hV1⟩ : ∃ V, V = T0.setCells D 0 [U8V x.kind, I64 x.group, I64 x.src, I64 x.dst, I64 x.term, I64 x.index, I64 x.logt, I64 x.commit, .bool x.ok, .slice x.ents.a x.ents.l.length x.ents.c, I64 x.base.index, I64 x.base.term, .slice x.base.cfg.v.a x.base.cfg.v.l.length x.base.cfg.v.c, .slice x.base.cfg.o.a x.base.cfg.o.l.length x.base.cfg.o.c, .slice x.base.cfg.l.a x.base.cfg.l.l.length x.base.cfg.l.c, .slice x.base.cfg.w.a x.base.cfg.w.l.length x.base.cfg.w.c, I64 x.size, I64 x.at_, I64 x.tag, .slice x.bytes.a x.bytes.l.length x.bytes.c] := ⟨_, rfl⟩; have yT1 : Blk T1 D 40 #[U8V x.kind, I64 x.group, I64 x.src, I64 x.dst, I64 x.term, I64 x.index, I64 x.logt, I64 x.commit, .bool x.ok, .slice x.ents.a x.ents.l.length x.ents.c, I64 x.base.index, I64 x.base.term, .slice x.base.cfg.v.a x.base.cfg.v.l.length x.base.cfg.v.c, .slice x.base.cfg.o.a x.base.cfg.o.l.length x.base.cfg.o.c, .slice x.base.cfg.l.a x.base.cfg.l.l.length x.base.cfg.l.c, .slice x.base.cfg.w.a x.base.cfg.w.l.length x.base.cfg.w.c, I64 x.size, I64 x.at_, I64 x.tag, .slice x.bytes.a x.bytes.l.length x.bytes.c] := (by rw [hV1]; exact Blk.setCells (l := [U8V 0, I64 0, I64 0, I64 0, I64 0, I64 0, I64 0, I64 0, .bool false, .slice none 0 0, I64 0, I64 0, .slice none 0 0, .slice none 0 0, .slice none 0 0, .slice none 0 0, I64 0, I64 0, I64 0, .slice none 0 0]) y0 0 [U8V x.kind, I64 x.group, I64 x.src, I64 x.dst, I64 x.term, I64 x.index, I64 x.logt, I64 x.commit, .bool x.ok, .slice x.ents.a x.ents.l.length x.ents.c, I64 x.base.index, I64 x.base.term, .slice x.base.cfg.v.a x.base.cfg.v.l.length x.base.cfg.v.c, .slice x.base.cfg.o.a x.base.cfg.o.l.length x.base.cfg.o.c, .slice x.base.cfg.l.a x.base.cfg.l.l.length x.base.cfg.l.c, .slice x.base.cfg.w.a x.base.cfg.w.l.length x.base.cfg.w.c, I64 x.size, I64 x.at_, I64 x.tag, .slice x.bytes.a x.bytes.l.length x.bytes.c]); have m1 : Fr (· = D) T0 T1 := (by rw [hV1]; exact (Fr.refl (· = D) _).setCells _ _); have qT1 : Nw w4 T1 := q0.new m1 (fun b hb => by omega); have HDT1 := Lib.hid hD; have HV0T1 := Lib.hid hV0; have HV1T1 := Lib.hid hV1; clear hD hV0 hV1 m1 q0 y0) | (rw [← HV0T1.out, ← HDT1.out]; refine wpList_store_mid rfl 40 _ _ rfl D 0 #[U8V x.kind, I64 x.group, I64 x.src, I64 x.dst, I64 x.term, I64 x.index, I64 x.logt, I64 x.commit, .bool x.ok, .slice x.ents.a x.ents.l.length x.ents.c, I64 x.base.index, I64 x.base.term, .slice x.base.cfg.v.a x.base.cfg.v.l.length x.base.cfg.v.c, .slice x.base.cfg.o.a x.base.cfg.o.l.length x.base.cfg.o.c, .slice x.base.cfg.l.a x.base.cfg.l.l.length x.base.cfg.l.c, .slice x.base.cfg.w.a x.base.cfg.w.l.length x.base.cfg.w.c, I64 x.size, I64 x.at_, I64 x.tag, .slice x.bytes.a x.bytes.l.length x.bytes.c] rfl rfl th (by kernel_rfl) one ?_; rw [← HV1T1.out]))
            have s4 := s1.nw (q4.tr qT1)
            cases hq : q (1, 2) with
            | nil =>
              have hd0 : Calls Try.prog 10 #[.pointer (some ⟨gc, 0, none⟩), I64 1, I64 2] T1 fun e w' => ∃ x : LetM, e = .returned (.tuple #[.agg (letA x), .bool false]) ∧ Nw T1 w' := (nDeliver0 (by decide) (s4).c 1 2 way12 hq).mono fun e w' h => ⟨letMZ, h.1, h.2⟩
              go_wp2_with (first | (go_at_call 10; refine hd0.mono ?_; rintro e w6 ⟨x2, rfl, q6⟩; obtain ⟨D2, hD⟩ : ∃ D, D = w6.heap.size := ⟨_, rfl⟩; obtain ⟨U0, hV0⟩ : ∃ V, V = w6.alloc (.cells #[U8V 0, I64 0, I64 0, I64 0, I64 0, I64 0, I64 0, I64 0, .bool false, .slice none 0 0, I64 0, I64 0, .slice none 0 0, .slice none 0 0, .slice none 0 0, .slice none 0 0, I64 0, I64 0, I64 0, .slice none 0 0] 40) := ⟨_, rfl⟩; have q0 : Nw w6 U0 := (by rw [hV0]; exact (Fr.refl (fun _ => False) _).alloc _); have y0 : Blk U0 D2 40 #[U8V 0, I64 0, I64 0, I64 0, I64 0, I64 0, I64 0, I64 0, .bool false, .slice none 0 0, I64 0, I64 0, .slice none 0 0, .slice none 0 0, .slice none 0 0, .slice none 0 0, I64 0, I64 0, I64 0, .slice none 0 0] := (by rw [hV0, hD]; exact Blk.new _ _ _); have th := Blk.there (l := [U8V 0, I64 0, I64 0, I64 0, I64 0, I64 0, I64 0, I64 0, .bool false, .slice none 0 0, I64 0, I64 0, .slice none 0 0, .slice none 0 0, .slice none 0 0, .slice none 0 0, I64 0, I64 0, I64 0, .slice none 0 0]) y0 0 20 (by show 0 + 20 ≤ 20; omega); have one := letA_one x2; obtain ⟨U1, hV1⟩ : ∃ V, V = U0.setCells D2 0 [U8V x2.kind, I64 x2.group, I64 x2.src, I64 x2.dst, I64 x2.term, I64 x2.index, I64 x2.logt, I64 x2.commit, .bool x2.ok, .slice x2.ents.a x2.ents.l.length x2.ents.c, I64 x2.base.index, I64 x2.base.term, .slice x2.base.cfg.v.a x2.base.cfg.v.l.length x2.base.cfg.v.c, .slice x2.base.cfg.o.a x2.base.cfg.o.l.length x2.base.cfg.o.c, .slice x2.base.cfg.l.a x2.base.cfg.l.l.length x2.base.cfg.l.c, .slice x2.base.cfg.w.a x2.base.cfg.w.l.length x2.base.cfg.w.c, I64 x2.size, I64 x2.at_, I64 x2.tag, .slice x2.bytes.a x2.bytes.l.length x2.bytes.c] := ⟨_, rfl⟩; have yU1 : Blk U1 D2 40 #[U8V x2.kind, I64 x2.group, I64 x2.src, I64 x2.dst, I64 x2.term, I64 x2.index, I64 x2.logt, I64 x2.commit, .bool x2.ok, .slice x2.ents.a x2.ents.l.length x2.ents.c, I64 x2.base.index, I64 x2.base.term, .slice x2.base.cfg.v.a x2.base.cfg.v.l.length x2.base.cfg.v.c, .slice x2.base.cfg.o.a x2.base.cfg.o.l.length x2.base.cfg.o.c, .slice x2.base.cfg.l.a x2.base.cfg.l.l.length x2.base.cfg.l.c, .slice x2.base.cfg.w.a x2.base.cfg.w.l.length x2.base.cfg.w.c, I64 x2.size, I64 x2.at_, I64 x2.tag, .slice x2.bytes.a x2.bytes.l.length x2.bytes.c] := (by rw [hV1]; exact Blk.setCells (l := [U8V 0, I64 0, I64 0, I64 0, I64 0, I64 0, I64 0, I64 0, .bool false, .slice none 0 0, I64 0, I64 0, .slice none 0 0, .slice none 0 0, .slice none 0 0, .slice none 0 0, I64 0, I64 0, I64 0, .slice none 0 0]) y0 0 [U8V x2.kind, I64 x2.group, I64 x2.src, I64 x2.dst, I64 x2.term, I64 x2.index, I64 x2.logt, I64 x2.commit, .bool x2.ok, .slice x2.ents.a x2.ents.l.length x2.ents.c, I64 x2.base.index, I64 x2.base.term, .slice x2.base.cfg.v.a x2.base.cfg.v.l.length x2.base.cfg.v.c, .slice x2.base.cfg.o.a x2.base.cfg.o.l.length x2.base.cfg.o.c, .slice x2.base.cfg.l.a x2.base.cfg.l.l.length x2.base.cfg.l.c, .slice x2.base.cfg.w.a x2.base.cfg.w.l.length x2.base.cfg.w.c, I64 x2.size, I64 x2.at_, I64 x2.tag, .slice x2.bytes.a x2.bytes.l.length x2.bytes.c]); have m1 : Fr (· = D2) U0 U1 := (by rw [hV1]; exact (Fr.refl (· = D2) _).setCells _ _); have qU1 : Nw w6 U1 := q0.new m1 (fun b hb => by omega); have HDU1 := Lib.hid hD; have HV0U1 := Lib.hid hV0; have HV1U1 := Lib.hid hV1; clear hD hV0 hV1 m1 q0 y0) | (rw [← HV0U1.out, ← HDU1.out]; refine wpList_store_mid rfl 40 _ _ rfl D2 0 #[U8V x2.kind, I64 x2.group, I64 x2.src, I64 x2.dst, I64 x2.term, I64 x2.index, I64 x2.logt, I64 x2.commit, .bool x2.ok, .slice x2.ents.a x2.ents.l.length x2.ents.c, I64 x2.base.index, I64 x2.base.term, .slice x2.base.cfg.v.a x2.base.cfg.v.l.length x2.base.cfg.v.c, .slice x2.base.cfg.o.a x2.base.cfg.o.l.length x2.base.cfg.o.c, .slice x2.base.cfg.l.a x2.base.cfg.l.l.length x2.base.cfg.l.c, .slice x2.base.cfg.w.a x2.base.cfg.w.l.length x2.base.cfg.w.c, I64 x2.size, I64 x2.at_, I64 x2.tag, .slice x2.bytes.a x2.bytes.l.length x2.bytes.c] rfl rfl th (by kernel_rfl) one ?_; rw [← HV1U1.out]))
              go_meet
              exact ⟨col, p, q, Aa, ca, al, Ap, cp, pu, At, ct, tl, rfl, rfl, rfl, ⟨((s4).nw (q6.tr qU1)).aw, ((s4).nw (q6.tr qU1)).n.more (by omega), ((s4).nw (q6.tr qU1)).c.more (by omega), ((s4).nw (q6.tr qU1)).la, ((s4).nw (q6.tr qU1)).lp, ((s4).nw (q6.tr qU1)).lt, ((s4).nw (q6.tr qU1)).blk, ((s4).nw (q6.tr qU1)).cE⟩, hok, hcalm, by omega, by omega, by omega⟩
            | cons z r =>
              have hd1 := nDeliver1 (by decide) (s4).c (by omega) 1 2 way12 hq
              go_upto_region 28 with (first | (go_at_call 10; refine hd1.mono ?_; rintro e w6 ⟨x2, rfl, ex2, i6, z6, x6, n6⟩; obtain ⟨D2, hD⟩ : ∃ D, D = w6.heap.size := ⟨_, rfl⟩; obtain ⟨U0, hV0⟩ : ∃ V, V = w6.alloc (.cells #[U8V 0, I64 0, I64 0, I64 0, I64 0, I64 0, I64 0, I64 0, .bool false, .slice none 0 0, I64 0, I64 0, .slice none 0 0, .slice none 0 0, .slice none 0 0, .slice none 0 0, I64 0, I64 0, I64 0, .slice none 0 0] 40) := ⟨_, rfl⟩; have q0 : Nw w6 U0 := (by rw [hV0]; exact (Fr.refl (fun _ => False) _).alloc _); have y0 : Blk U0 D2 40 #[U8V 0, I64 0, I64 0, I64 0, I64 0, I64 0, I64 0, I64 0, .bool false, .slice none 0 0, I64 0, I64 0, .slice none 0 0, .slice none 0 0, .slice none 0 0, .slice none 0 0, I64 0, I64 0, I64 0, .slice none 0 0] := (by rw [hV0, hD]; exact Blk.new _ _ _); have th := Blk.there (l := [U8V 0, I64 0, I64 0, I64 0, I64 0, I64 0, I64 0, I64 0, .bool false, .slice none 0 0, I64 0, I64 0, .slice none 0 0, .slice none 0 0, .slice none 0 0, .slice none 0 0, I64 0, I64 0, I64 0, .slice none 0 0]) y0 0 20 (by show 0 + 20 ≤ 20; omega); have one := letA_one x2; obtain ⟨U1, hV1⟩ : ∃ V, V = U0.setCells D2 0 [U8V x2.kind, I64 x2.group, I64 x2.src, I64 x2.dst, I64 x2.term, I64 x2.index, I64 x2.logt, I64 x2.commit, .bool x2.ok, .slice x2.ents.a x2.ents.l.length x2.ents.c, I64 x2.base.index, I64 x2.base.term, .slice x2.base.cfg.v.a x2.base.cfg.v.l.length x2.base.cfg.v.c, .slice x2.base.cfg.o.a x2.base.cfg.o.l.length x2.base.cfg.o.c, .slice x2.base.cfg.l.a x2.base.cfg.l.l.length x2.base.cfg.l.c, .slice x2.base.cfg.w.a x2.base.cfg.w.l.length x2.base.cfg.w.c, I64 x2.size, I64 x2.at_, I64 x2.tag, .slice x2.bytes.a x2.bytes.l.length x2.bytes.c] := ⟨_, rfl⟩; have yU1 : Blk U1 D2 40 #[U8V x2.kind, I64 x2.group, I64 x2.src, I64 x2.dst, I64 x2.term, I64 x2.index, I64 x2.logt, I64 x2.commit, .bool x2.ok, .slice x2.ents.a x2.ents.l.length x2.ents.c, I64 x2.base.index, I64 x2.base.term, .slice x2.base.cfg.v.a x2.base.cfg.v.l.length x2.base.cfg.v.c, .slice x2.base.cfg.o.a x2.base.cfg.o.l.length x2.base.cfg.o.c, .slice x2.base.cfg.l.a x2.base.cfg.l.l.length x2.base.cfg.l.c, .slice x2.base.cfg.w.a x2.base.cfg.w.l.length x2.base.cfg.w.c, I64 x2.size, I64 x2.at_, I64 x2.tag, .slice x2.bytes.a x2.bytes.l.length x2.bytes.c] := (by rw [hV1]; exact Blk.setCells (l := [U8V 0, I64 0, I64 0, I64 0, I64 0, I64 0, I64 0, I64 0, .bool false, .slice none 0 0, I64 0, I64 0, .slice none 0 0, .slice none 0 0, .slice none 0 0, .slice none 0 0, I64 0, I64 0, I64 0, .slice none 0 0]) y0 0 [U8V x2.kind, I64 x2.group, I64 x2.src, I64 x2.dst, I64 x2.term, I64 x2.index, I64 x2.logt, I64 x2.commit, .bool x2.ok, .slice x2.ents.a x2.ents.l.length x2.ents.c, I64 x2.base.index, I64 x2.base.term, .slice x2.base.cfg.v.a x2.base.cfg.v.l.length x2.base.cfg.v.c, .slice x2.base.cfg.o.a x2.base.cfg.o.l.length x2.base.cfg.o.c, .slice x2.base.cfg.l.a x2.base.cfg.l.l.length x2.base.cfg.l.c, .slice x2.base.cfg.w.a x2.base.cfg.w.l.length x2.base.cfg.w.c, I64 x2.size, I64 x2.at_, I64 x2.tag, .slice x2.bytes.a x2.bytes.l.length x2.bytes.c]); have m1 : Fr (· = D2) U0 U1 := (by rw [hV1]; exact (Fr.refl (· = D2) _).setCells _ _); have qU1 : Nw w6 U1 := q0.new m1 (fun b hb => by omega); have HDU1 := Lib.hid hD; have HV0U1 := Lib.hid hV0; have HV1U1 := Lib.hid hV1; clear hD hV0 hV1 m1 q0 y0) | (rw [← HV0U1.out, ← HDU1.out]; refine wpList_store_mid rfl 40 _ _ rfl D2 0 #[U8V x2.kind, I64 x2.group, I64 x2.src, I64 x2.dst, I64 x2.term, I64 x2.index, I64 x2.logt, I64 x2.commit, .bool x2.ok, .slice x2.ents.a x2.ents.l.length x2.ents.c, I64 x2.base.index, I64 x2.base.term, .slice x2.base.cfg.v.a x2.base.cfg.v.l.length x2.base.cfg.v.c, .slice x2.base.cfg.o.a x2.base.cfg.o.l.length x2.base.cfg.o.c, .slice x2.base.cfg.l.a x2.base.cfg.l.l.length x2.base.cfg.l.c, .slice x2.base.cfg.w.a x2.base.cfg.w.l.length x2.base.cfg.w.c, I64 x2.size, I64 x2.at_, I64 x2.tag, .slice x2.bytes.a x2.bytes.l.length x2.bytes.c] rfl rfl th (by kernel_rfl) one ?_; rw [← HV1U1.out]))
              have t6 := ((s4).s2 x6 n6).nw qU1
              have i7 : LetIn U1 (CB U1 col 0) x2 := (i6.nw qU1).mono fun k hk _ => ⟨hk.1, by have := hk.2; have := qU1.size; omega⟩
              have lD2 : ∀ p u, ([U8V x2.kind, I64 x2.group, I64 x2.src, I64 x2.dst, I64 x2.term, I64 x2.index, I64 x2.logt, I64 x2.commit, .bool x2.ok, .slice x2.ents.a x2.ents.l.length x2.ents.c, I64 x2.base.index, I64 x2.base.term, .slice x2.base.cfg.v.a x2.base.cfg.v.l.length x2.base.cfg.v.c, .slice x2.base.cfg.o.a x2.base.cfg.o.l.length x2.base.cfg.o.c, .slice x2.base.cfg.l.a x2.base.cfg.l.l.length x2.base.cfg.l.c, .slice x2.base.cfg.w.a x2.base.cfg.w.l.length x2.base.cfg.w.c, I64 x2.size, I64 x2.at_, I64 x2.tag, .slice x2.bytes.a x2.bytes.l.length x2.bytes.c] : List Value)[p]? = some u → U1.cell? ⟨D2, 0 + p, none⟩ = some u := Blk.cells_at (l := [U8V x2.kind, I64 x2.group, I64 x2.src, I64 x2.dst, I64 x2.term, I64 x2.index, I64 x2.logt, I64 x2.commit, .bool x2.ok, .slice x2.ents.a x2.ents.l.length x2.ents.c, I64 x2.base.index, I64 x2.base.term, .slice x2.base.cfg.v.a x2.base.cfg.v.l.length x2.base.cfg.v.c, .slice x2.base.cfg.o.a x2.base.cfg.o.l.length x2.base.cfg.o.c, .slice x2.base.cfg.l.a x2.base.cfg.l.l.length x2.base.cfg.l.c, .slice x2.base.cfg.w.a x2.base.cfg.w.l.length x2.base.cfg.w.c, I64 x2.size, I64 x2.at_, I64 x2.tag, .slice x2.bytes.a x2.bytes.l.length x2.bytes.c]) yU1 0
              go_wp2_with (first | (refine wl_load_cells rfl 40 _ rfl D2 0 rfl _ _ lD2 Try.underlying40 rfl (by kernel_rfl) ?_) | (refine wl_build rfl 27 1 _ 20 [letL x2] (.agg #[U8V 0, I64 0, I64 0, I64 0, I64 0, I64 0, I64 0, I64 0, .bool false, .slice none 0 0, I64 0, I64 0, .slice none 0 0, .slice none 0 0, .slice none 0 0, .slice none 0 0, I64 0, I64 0, I64 0, .slice none 0 0]) rfl Try.underlying27 (by kernel_rfl) rfl (by decide) (by decide) (by simp) (by decide) rfl ?_; intro g8 w8 hg8 hw8; obtain ⟨q8, s8⟩ := lets_slN [x2] hg8 hw8; have t8 := t6.nw q8; clear hg8 hw8) | (at_builtin; refine wl_append2 rfl _ _ _ rfl 256 (.agg #[U8V 0, I64 0, I64 0, I64 0, I64 0, I64 0, I64 0, I64 0, .bool false, .slice none 0 0, I64 0, I64 0, .slice none 0 0, .slice none 0 0, .slice none 0 0, .slice none 0 0, I64 0, I64 0, I64 0, .slice none 0 0]) Try.underlying27 info_let rfl (by decide) rfl t8.lt.own rfl s8 (by rfl) (letsC_cell _) (by omega) (by unfold maxLen; omega) ?_; intro B' c' w9 hap))
              go_meet
              obtain ⟨col9, x9, l9⟩ := LstC.app (by decide) t8.lt hap (l2 := [x2]) rfl (fun y hy => by rw [List.mem_singleton.1 hy]; exact (i7.nw q8).mono fun k hk _ => ⟨hk.1, by have := hk.2; have := q8.size; omega⟩) (fun y hy => by rw [List.mem_singleton.1 hy]; exact z6)
              have t9 := t8.s5 x9 l9
              have hl9 : (tl ++ [x2]).length = tl.length + 1 := by rw [List.length_append]; rfl
              exact ⟨col9, p, setP q (1, 2) r, Aa, ca, al, Ap, cp, pu, B', c', (tl ++ [x2]), rfl, rfl, by rw [hl9], ⟨(t9).aw, (t9).n.more (by omega), (t9).c.more (by omega), (t9).la, (t9).lp, (t9).lt, (t9).blk, (t9).cE⟩, hok, by rw [List.map_append, List.map_singleton, ex2]; exact hcalm.head hq, by omega, by omega, by omega ⟩
          | cons y l =>
            have hdl := nDeliver1 (by decide) s1.n (by omega) d.src d.dst way hp
            go_upto_region 24 with (first | (go_at_call 10; refine hdl.mono ?_; rintro e w4 ⟨x, rfl, ex, i4, z4, x4, n4⟩; obtain ⟨D, hD⟩ : ∃ D, D = w4.heap.size := ⟨_, rfl⟩; obtain ⟨T0, hV0⟩ : ∃ V, V = w4.alloc (.cells #[U8V 0, I64 0, I64 0, I64 0, I64 0, I64 0, I64 0, I64 0, .bool false, .slice none 0 0, I64 0, I64 0, .slice none 0 0, .slice none 0 0, .slice none 0 0, .slice none 0 0, I64 0, I64 0, I64 0, .slice none 0 0] 40) := ⟨_, rfl⟩; have q0 : Nw w4 T0 := (by rw [hV0]; exact (Fr.refl (fun _ => False) _).alloc _); have y0 : Blk T0 D 40 #[U8V 0, I64 0, I64 0, I64 0, I64 0, I64 0, I64 0, I64 0, .bool false, .slice none 0 0, I64 0, I64 0, .slice none 0 0, .slice none 0 0, .slice none 0 0, .slice none 0 0, I64 0, I64 0, I64 0, .slice none 0 0] := (by rw [hV0, hD]; exact Blk.new _ _ _); have th := Blk.there (l := [U8V 0, I64 0, I64 0, I64 0, I64 0, I64 0, I64 0, I64 0, .bool false, .slice none 0 0, I64 0, I64 0, .slice none 0 0, .slice none 0 0, .slice none 0 0, .slice none 0 0, I64 0, I64 0, I64 0, .slice none 0 0]) y0 0 20 (by show 0 + 20 ≤ 20; omega); have one := letA_one x; obtain ⟨T1, hV1⟩ : ∃ V, V = T0.setCells D 0 [U8V x.kind, I64 x.group, I64 x.src, I64 x.dst, I64 x.term, I64 x.index, I64 x.logt, I64 x.commit, .bool x.ok, .slice x.ents.a x.ents.l.length x.ents.c, I64 x.base.index, I64 x.base.term, .slice x.base.cfg.v.a x.base.cfg.v.l.length x.base.cfg.v.c, .slice x.base.cfg.o.a x.base.cfg.o.l.length x.base.cfg.o.c, .slice x.base.cfg.l.a x.base.cfg.l.l.length x.base.cfg.l.c, .slice x.base.cfg.w.a x.base.cfg.w.l.length x.base.cfg.w.c, I64 x.size, I64 x.at_, I64 x.tag, .slice x.bytes.a x.bytes.l.length x.bytes.c] := ⟨_, rfl⟩; have yT1 : Blk T1 D 40 #[U8V x.kind, I64 x.group, I64 x.src, I64 x.dst, I64 x.term, I64 x.index, I64 x.logt, I64 x.commit, .bool x.ok, .slice x.ents.a x.ents.l.length x.ents.c, I64 x.base.index, I64 x.base.term, .slice x.base.cfg.v.a x.base.cfg.v.l.length x.base.cfg.v.c, .slice x.base.cfg.o.a x.base.cfg.o.l.length x.base.cfg.o.c, .slice x.base.cfg.l.a x.base.cfg.l.l.length x.base.cfg.l.c, .slice x.base.cfg.w.a x.base.cfg.w.l.length x.base.cfg.w.c, I64 x.size, I64 x.at_, I64 x.tag, .slice x.bytes.a x.bytes.l.length x.bytes.c] := (by rw [hV1]; exact Blk.setCells (l := [U8V 0, I64 0, I64 0, I64 0, I64 0, I64 0, I64 0, I64 0, .bool false, .slice none 0 0, I64 0, I64 0, .slice none 0 0, .slice none 0 0, .slice none 0 0, .slice none 0 0, I64 0, I64 0, I64 0, .slice none 0 0]) y0 0 [U8V x.kind, I64 x.group, I64 x.src, I64 x.dst, I64 x.term, I64 x.index, I64 x.logt, I64 x.commit, .bool x.ok, .slice x.ents.a x.ents.l.length x.ents.c, I64 x.base.index, I64 x.base.term, .slice x.base.cfg.v.a x.base.cfg.v.l.length x.base.cfg.v.c, .slice x.base.cfg.o.a x.base.cfg.o.l.length x.base.cfg.o.c, .slice x.base.cfg.l.a x.base.cfg.l.l.length x.base.cfg.l.c, .slice x.base.cfg.w.a x.base.cfg.w.l.length x.base.cfg.w.c, I64 x.size, I64 x.at_, I64 x.tag, .slice x.bytes.a x.bytes.l.length x.bytes.c]); have m1 : Fr (· = D) T0 T1 := (by rw [hV1]; exact (Fr.refl (· = D) _).setCells _ _); have qT1 : Nw w4 T1 := q0.new m1 (fun b hb => by omega); have HDT1 := Lib.hid hD; have HV0T1 := Lib.hid hV0; have HV1T1 := Lib.hid hV1; clear hD hV0 hV1 m1 q0 y0) | (rw [← HV0T1.out, ← HDT1.out]; refine wpList_store_mid rfl 40 _ _ rfl D 0 #[U8V x.kind, I64 x.group, I64 x.src, I64 x.dst, I64 x.term, I64 x.index, I64 x.logt, I64 x.commit, .bool x.ok, .slice x.ents.a x.ents.l.length x.ents.c, I64 x.base.index, I64 x.base.term, .slice x.base.cfg.v.a x.base.cfg.v.l.length x.base.cfg.v.c, .slice x.base.cfg.o.a x.base.cfg.o.l.length x.base.cfg.o.c, .slice x.base.cfg.l.a x.base.cfg.l.l.length x.base.cfg.l.c, .slice x.base.cfg.w.a x.base.cfg.w.l.length x.base.cfg.w.c, I64 x.size, I64 x.at_, I64 x.tag, .slice x.bytes.a x.bytes.l.length x.bytes.c] rfl rfl th (by kernel_rfl) one ?_; rw [← HV1T1.out]))
            have s4 := (s1.s1 x4 n4).nw qT1
            have hon := hok.on (d.src, d.dst) y (by rw [hp]; exact List.mem_cons_self)
            have hin9 := hok.sent (d.src, d.dst) y (by rw [hp]; exact List.mem_cons_self)
            injection hon with ho1 ho2
            have hx1 : x.src = d.src := (congrArg LetF.src ex).trans ho1
            have hx2 : x.dst = d.dst := (congrArg LetF.dst ex).trans ho2
            have i5 : LetIn T1 (CB T1 col 0) x := (i4.nw qT1).mono fun k hk _ => ⟨hk.1, by have := hk.2; have := qT1.size; omega⟩
            have hsn := sent_any T1 _ _ Aa ca al x s4.la.sl s4.la.each i5 s4.la.sz (by omega)
            rw [ex, decide_eq_true hin9] at hsn
            have lD : ∀ p u, ([U8V x.kind, I64 x.group, I64 x.src, I64 x.dst, I64 x.term, I64 x.index, I64 x.logt, I64 x.commit, .bool x.ok, .slice x.ents.a x.ents.l.length x.ents.c, I64 x.base.index, I64 x.base.term, .slice x.base.cfg.v.a x.base.cfg.v.l.length x.base.cfg.v.c, .slice x.base.cfg.o.a x.base.cfg.o.l.length x.base.cfg.o.c, .slice x.base.cfg.l.a x.base.cfg.l.l.length x.base.cfg.l.c, .slice x.base.cfg.w.a x.base.cfg.w.l.length x.base.cfg.w.c, I64 x.size, I64 x.at_, I64 x.tag, .slice x.bytes.a x.bytes.l.length x.bytes.c] : List Value)[p]? = some u → T1.cell? ⟨D, 0 + p, none⟩ = some u := Blk.cells_at (l := [U8V x.kind, I64 x.group, I64 x.src, I64 x.dst, I64 x.term, I64 x.index, I64 x.logt, I64 x.commit, .bool x.ok, .slice x.ents.a x.ents.l.length x.ents.c, I64 x.base.index, I64 x.base.term, .slice x.base.cfg.v.a x.base.cfg.v.l.length x.base.cfg.v.c, .slice x.base.cfg.o.a x.base.cfg.o.l.length x.base.cfg.o.c, .slice x.base.cfg.l.a x.base.cfg.l.l.length x.base.cfg.l.c, .slice x.base.cfg.w.a x.base.cfg.w.l.length x.base.cfg.w.c, I64 x.size, I64 x.at_, I64 x.tag, .slice x.bytes.a x.bytes.l.length x.bytes.c]) yT1 0
            have f2 : ∀ w5, Nw T1 w5 → w5.cell? ⟨D, 2, none⟩ = some (I64 d.src) := fun w5 q5 => by
              have := (yT1.fr q5 (fun h => h)).cell 2
              rw [hx1] at this
              simpa using this
            have f3 : ∀ w5, Nw T1 w5 → w5.cell? ⟨D, 3, none⟩ = some (I64 d.dst) := fun w5 q5 => by
              have := (yT1.fr q5 (fun h => h)).cell 3
              rw [hx2] at this
              simpa using this
            have g1 : ∀ w5, Nw T1 w5 → w5.cell? ⟨E, 1, none⟩ = some (I64 d.src) := fun w5 q5 => by simpa using (s4.blk.fr q5 (fun h => h)).cell 1
            have g2 : ∀ w5, Nw T1 w5 → w5.cell? ⟨E, 2, none⟩ = some (I64 d.dst) := fun w5 q5 => by simpa using (s4.blk.fr q5 (fun h => h)).cell 2
            have HF := Lib.hid (And.intro f2 (And.intro f3 (And.intro g1 g2)))
            clear hx1 hx2 ho1 ho2 f2 f3 g1 g2 hin9
            go_upto_region 26 with (first | (refine wl_cells_want (by kernel_rfl) 40 _ rfl D 0 rfl _ _ lD Try.underlying40 rfl (by kernel_rfl) ?_) | (go_at_call 11; refine hsn.mono ?_; rintro e w5 ⟨rfl, q5⟩; obtain ⟨F2, F3, G1, G2⟩ := HF.out; have k2 := F2 w5 q5; have k3 := F3 w5 q5; have k4 := G1 w5 q5; have k5 := G2 w5 q5; clear F2 F3 G1 G2))
            have s5 := s4.nw q5
            cases hq : q (1, 2) with
            | nil =>
              have hd0 : Calls Try.prog 10 #[.pointer (some ⟨gc, 0, none⟩), I64 1, I64 2] w5 fun e w' => ∃ x : LetM, e = .returned (.tuple #[.agg (letA x), .bool false]) ∧ Nw w5 w' := (nDeliver0 (by decide) (s5).c 1 2 way12 hq).mono fun e w' h => ⟨letMZ, h.1, h.2⟩
              go_wp2_with (first | (go_at_call 10; refine hd0.mono ?_; rintro e w6 ⟨x2, rfl, q6⟩; obtain ⟨D2, hD⟩ : ∃ D, D = w6.heap.size := ⟨_, rfl⟩; obtain ⟨U0, hV0⟩ : ∃ V, V = w6.alloc (.cells #[U8V 0, I64 0, I64 0, I64 0, I64 0, I64 0, I64 0, I64 0, .bool false, .slice none 0 0, I64 0, I64 0, .slice none 0 0, .slice none 0 0, .slice none 0 0, .slice none 0 0, I64 0, I64 0, I64 0, .slice none 0 0] 40) := ⟨_, rfl⟩; have q0 : Nw w6 U0 := (by rw [hV0]; exact (Fr.refl (fun _ => False) _).alloc _); have y0 : Blk U0 D2 40 #[U8V 0, I64 0, I64 0, I64 0, I64 0, I64 0, I64 0, I64 0, .bool false, .slice none 0 0, I64 0, I64 0, .slice none 0 0, .slice none 0 0, .slice none 0 0, .slice none 0 0, I64 0, I64 0, I64 0, .slice none 0 0] := (by rw [hV0, hD]; exact Blk.new _ _ _); have th := Blk.there (l := [U8V 0, I64 0, I64 0, I64 0, I64 0, I64 0, I64 0, I64 0, .bool false, .slice none 0 0, I64 0, I64 0, .slice none 0 0, .slice none 0 0, .slice none 0 0, .slice none 0 0, I64 0, I64 0, I64 0, .slice none 0 0]) y0 0 20 (by show 0 + 20 ≤ 20; omega); have one := letA_one x2; obtain ⟨U1, hV1⟩ : ∃ V, V = U0.setCells D2 0 [U8V x2.kind, I64 x2.group, I64 x2.src, I64 x2.dst, I64 x2.term, I64 x2.index, I64 x2.logt, I64 x2.commit, .bool x2.ok, .slice x2.ents.a x2.ents.l.length x2.ents.c, I64 x2.base.index, I64 x2.base.term, .slice x2.base.cfg.v.a x2.base.cfg.v.l.length x2.base.cfg.v.c, .slice x2.base.cfg.o.a x2.base.cfg.o.l.length x2.base.cfg.o.c, .slice x2.base.cfg.l.a x2.base.cfg.l.l.length x2.base.cfg.l.c, .slice x2.base.cfg.w.a x2.base.cfg.w.l.length x2.base.cfg.w.c, I64 x2.size, I64 x2.at_, I64 x2.tag, .slice x2.bytes.a x2.bytes.l.length x2.bytes.c] := ⟨_, rfl⟩; have yU1 : Blk U1 D2 40 #[U8V x2.kind, I64 x2.group, I64 x2.src, I64 x2.dst, I64 x2.term, I64 x2.index, I64 x2.logt, I64 x2.commit, .bool x2.ok, .slice x2.ents.a x2.ents.l.length x2.ents.c, I64 x2.base.index, I64 x2.base.term, .slice x2.base.cfg.v.a x2.base.cfg.v.l.length x2.base.cfg.v.c, .slice x2.base.cfg.o.a x2.base.cfg.o.l.length x2.base.cfg.o.c, .slice x2.base.cfg.l.a x2.base.cfg.l.l.length x2.base.cfg.l.c, .slice x2.base.cfg.w.a x2.base.cfg.w.l.length x2.base.cfg.w.c, I64 x2.size, I64 x2.at_, I64 x2.tag, .slice x2.bytes.a x2.bytes.l.length x2.bytes.c] := (by rw [hV1]; exact Blk.setCells (l := [U8V 0, I64 0, I64 0, I64 0, I64 0, I64 0, I64 0, I64 0, .bool false, .slice none 0 0, I64 0, I64 0, .slice none 0 0, .slice none 0 0, .slice none 0 0, .slice none 0 0, I64 0, I64 0, I64 0, .slice none 0 0]) y0 0 [U8V x2.kind, I64 x2.group, I64 x2.src, I64 x2.dst, I64 x2.term, I64 x2.index, I64 x2.logt, I64 x2.commit, .bool x2.ok, .slice x2.ents.a x2.ents.l.length x2.ents.c, I64 x2.base.index, I64 x2.base.term, .slice x2.base.cfg.v.a x2.base.cfg.v.l.length x2.base.cfg.v.c, .slice x2.base.cfg.o.a x2.base.cfg.o.l.length x2.base.cfg.o.c, .slice x2.base.cfg.l.a x2.base.cfg.l.l.length x2.base.cfg.l.c, .slice x2.base.cfg.w.a x2.base.cfg.w.l.length x2.base.cfg.w.c, I64 x2.size, I64 x2.at_, I64 x2.tag, .slice x2.bytes.a x2.bytes.l.length x2.bytes.c]); have m1 : Fr (· = D2) U0 U1 := (by rw [hV1]; exact (Fr.refl (· = D2) _).setCells _ _); have qU1 : Nw w6 U1 := q0.new m1 (fun b hb => by omega); have HDU1 := Lib.hid hD; have HV0U1 := Lib.hid hV0; have HV1U1 := Lib.hid hV1; clear hD hV0 hV1 m1 q0 y0) | (rw [← HV0U1.out, ← HDU1.out]; refine wpList_store_mid rfl 40 _ _ rfl D2 0 #[U8V x2.kind, I64 x2.group, I64 x2.src, I64 x2.dst, I64 x2.term, I64 x2.index, I64 x2.logt, I64 x2.commit, .bool x2.ok, .slice x2.ents.a x2.ents.l.length x2.ents.c, I64 x2.base.index, I64 x2.base.term, .slice x2.base.cfg.v.a x2.base.cfg.v.l.length x2.base.cfg.v.c, .slice x2.base.cfg.o.a x2.base.cfg.o.l.length x2.base.cfg.o.c, .slice x2.base.cfg.l.a x2.base.cfg.l.l.length x2.base.cfg.l.c, .slice x2.base.cfg.w.a x2.base.cfg.w.l.length x2.base.cfg.w.c, I64 x2.size, I64 x2.at_, I64 x2.tag, .slice x2.bytes.a x2.bytes.l.length x2.bytes.c] rfl rfl th (by kernel_rfl) one ?_; rw [← HV1U1.out]))
              go_meet
              exact ⟨col, setP p (d.src, d.dst) l, q, Aa, ca, al, Ap, cp, pu, At, ct, tl, rfl, rfl, rfl, ⟨((s5).nw (q6.tr qU1)).aw, ((s5).nw (q6.tr qU1)).n.more (by omega), ((s5).nw (q6.tr qU1)).c.more (by omega), ((s5).nw (q6.tr qU1)).la, ((s5).nw (q6.tr qU1)).lp, ((s5).nw (q6.tr qU1)).lt, ((s5).nw (q6.tr qU1)).blk, ((s5).nw (q6.tr qU1)).cE⟩, hok.tail _ hp, hcalm, by omega, by omega, by omega⟩
            | cons z r =>
              have hd1 := nDeliver1 (by decide) (s5).c (by omega) 1 2 way12 hq
              go_upto_region 28 with (first | (go_at_call 10; refine hd1.mono ?_; rintro e w6 ⟨x2, rfl, ex2, i6, z6, x6, n6⟩; obtain ⟨D2, hD⟩ : ∃ D, D = w6.heap.size := ⟨_, rfl⟩; obtain ⟨U0, hV0⟩ : ∃ V, V = w6.alloc (.cells #[U8V 0, I64 0, I64 0, I64 0, I64 0, I64 0, I64 0, I64 0, .bool false, .slice none 0 0, I64 0, I64 0, .slice none 0 0, .slice none 0 0, .slice none 0 0, .slice none 0 0, I64 0, I64 0, I64 0, .slice none 0 0] 40) := ⟨_, rfl⟩; have q0 : Nw w6 U0 := (by rw [hV0]; exact (Fr.refl (fun _ => False) _).alloc _); have y0 : Blk U0 D2 40 #[U8V 0, I64 0, I64 0, I64 0, I64 0, I64 0, I64 0, I64 0, .bool false, .slice none 0 0, I64 0, I64 0, .slice none 0 0, .slice none 0 0, .slice none 0 0, .slice none 0 0, I64 0, I64 0, I64 0, .slice none 0 0] := (by rw [hV0, hD]; exact Blk.new _ _ _); have th := Blk.there (l := [U8V 0, I64 0, I64 0, I64 0, I64 0, I64 0, I64 0, I64 0, .bool false, .slice none 0 0, I64 0, I64 0, .slice none 0 0, .slice none 0 0, .slice none 0 0, .slice none 0 0, I64 0, I64 0, I64 0, .slice none 0 0]) y0 0 20 (by show 0 + 20 ≤ 20; omega); have one := letA_one x2; obtain ⟨U1, hV1⟩ : ∃ V, V = U0.setCells D2 0 [U8V x2.kind, I64 x2.group, I64 x2.src, I64 x2.dst, I64 x2.term, I64 x2.index, I64 x2.logt, I64 x2.commit, .bool x2.ok, .slice x2.ents.a x2.ents.l.length x2.ents.c, I64 x2.base.index, I64 x2.base.term, .slice x2.base.cfg.v.a x2.base.cfg.v.l.length x2.base.cfg.v.c, .slice x2.base.cfg.o.a x2.base.cfg.o.l.length x2.base.cfg.o.c, .slice x2.base.cfg.l.a x2.base.cfg.l.l.length x2.base.cfg.l.c, .slice x2.base.cfg.w.a x2.base.cfg.w.l.length x2.base.cfg.w.c, I64 x2.size, I64 x2.at_, I64 x2.tag, .slice x2.bytes.a x2.bytes.l.length x2.bytes.c] := ⟨_, rfl⟩; have yU1 : Blk U1 D2 40 #[U8V x2.kind, I64 x2.group, I64 x2.src, I64 x2.dst, I64 x2.term, I64 x2.index, I64 x2.logt, I64 x2.commit, .bool x2.ok, .slice x2.ents.a x2.ents.l.length x2.ents.c, I64 x2.base.index, I64 x2.base.term, .slice x2.base.cfg.v.a x2.base.cfg.v.l.length x2.base.cfg.v.c, .slice x2.base.cfg.o.a x2.base.cfg.o.l.length x2.base.cfg.o.c, .slice x2.base.cfg.l.a x2.base.cfg.l.l.length x2.base.cfg.l.c, .slice x2.base.cfg.w.a x2.base.cfg.w.l.length x2.base.cfg.w.c, I64 x2.size, I64 x2.at_, I64 x2.tag, .slice x2.bytes.a x2.bytes.l.length x2.bytes.c] := (by rw [hV1]; exact Blk.setCells (l := [U8V 0, I64 0, I64 0, I64 0, I64 0, I64 0, I64 0, I64 0, .bool false, .slice none 0 0, I64 0, I64 0, .slice none 0 0, .slice none 0 0, .slice none 0 0, .slice none 0 0, I64 0, I64 0, I64 0, .slice none 0 0]) y0 0 [U8V x2.kind, I64 x2.group, I64 x2.src, I64 x2.dst, I64 x2.term, I64 x2.index, I64 x2.logt, I64 x2.commit, .bool x2.ok, .slice x2.ents.a x2.ents.l.length x2.ents.c, I64 x2.base.index, I64 x2.base.term, .slice x2.base.cfg.v.a x2.base.cfg.v.l.length x2.base.cfg.v.c, .slice x2.base.cfg.o.a x2.base.cfg.o.l.length x2.base.cfg.o.c, .slice x2.base.cfg.l.a x2.base.cfg.l.l.length x2.base.cfg.l.c, .slice x2.base.cfg.w.a x2.base.cfg.w.l.length x2.base.cfg.w.c, I64 x2.size, I64 x2.at_, I64 x2.tag, .slice x2.bytes.a x2.bytes.l.length x2.bytes.c]); have m1 : Fr (· = D2) U0 U1 := (by rw [hV1]; exact (Fr.refl (· = D2) _).setCells _ _); have qU1 : Nw w6 U1 := q0.new m1 (fun b hb => by omega); have HDU1 := Lib.hid hD; have HV0U1 := Lib.hid hV0; have HV1U1 := Lib.hid hV1; clear hD hV0 hV1 m1 q0 y0) | (rw [← HV0U1.out, ← HDU1.out]; refine wpList_store_mid rfl 40 _ _ rfl D2 0 #[U8V x2.kind, I64 x2.group, I64 x2.src, I64 x2.dst, I64 x2.term, I64 x2.index, I64 x2.logt, I64 x2.commit, .bool x2.ok, .slice x2.ents.a x2.ents.l.length x2.ents.c, I64 x2.base.index, I64 x2.base.term, .slice x2.base.cfg.v.a x2.base.cfg.v.l.length x2.base.cfg.v.c, .slice x2.base.cfg.o.a x2.base.cfg.o.l.length x2.base.cfg.o.c, .slice x2.base.cfg.l.a x2.base.cfg.l.l.length x2.base.cfg.l.c, .slice x2.base.cfg.w.a x2.base.cfg.w.l.length x2.base.cfg.w.c, I64 x2.size, I64 x2.at_, I64 x2.tag, .slice x2.bytes.a x2.bytes.l.length x2.bytes.c] rfl rfl th (by kernel_rfl) one ?_; rw [← HV1U1.out]))
              have t6 := ((s5).s2 x6 n6).nw qU1
              have i7 : LetIn U1 (CB U1 col 0) x2 := (i6.nw qU1).mono fun k hk _ => ⟨hk.1, by have := hk.2; have := qU1.size; omega⟩
              have lD2 : ∀ p u, ([U8V x2.kind, I64 x2.group, I64 x2.src, I64 x2.dst, I64 x2.term, I64 x2.index, I64 x2.logt, I64 x2.commit, .bool x2.ok, .slice x2.ents.a x2.ents.l.length x2.ents.c, I64 x2.base.index, I64 x2.base.term, .slice x2.base.cfg.v.a x2.base.cfg.v.l.length x2.base.cfg.v.c, .slice x2.base.cfg.o.a x2.base.cfg.o.l.length x2.base.cfg.o.c, .slice x2.base.cfg.l.a x2.base.cfg.l.l.length x2.base.cfg.l.c, .slice x2.base.cfg.w.a x2.base.cfg.w.l.length x2.base.cfg.w.c, I64 x2.size, I64 x2.at_, I64 x2.tag, .slice x2.bytes.a x2.bytes.l.length x2.bytes.c] : List Value)[p]? = some u → U1.cell? ⟨D2, 0 + p, none⟩ = some u := Blk.cells_at (l := [U8V x2.kind, I64 x2.group, I64 x2.src, I64 x2.dst, I64 x2.term, I64 x2.index, I64 x2.logt, I64 x2.commit, .bool x2.ok, .slice x2.ents.a x2.ents.l.length x2.ents.c, I64 x2.base.index, I64 x2.base.term, .slice x2.base.cfg.v.a x2.base.cfg.v.l.length x2.base.cfg.v.c, .slice x2.base.cfg.o.a x2.base.cfg.o.l.length x2.base.cfg.o.c, .slice x2.base.cfg.l.a x2.base.cfg.l.l.length x2.base.cfg.l.c, .slice x2.base.cfg.w.a x2.base.cfg.w.l.length x2.base.cfg.w.c, I64 x2.size, I64 x2.at_, I64 x2.tag, .slice x2.bytes.a x2.bytes.l.length x2.bytes.c]) yU1 0
              go_wp2_with (first | (refine wl_load_cells rfl 40 _ rfl D2 0 rfl _ _ lD2 Try.underlying40 rfl (by kernel_rfl) ?_) | (refine wl_build rfl 27 1 _ 20 [letL x2] (.agg #[U8V 0, I64 0, I64 0, I64 0, I64 0, I64 0, I64 0, I64 0, .bool false, .slice none 0 0, I64 0, I64 0, .slice none 0 0, .slice none 0 0, .slice none 0 0, .slice none 0 0, I64 0, I64 0, I64 0, .slice none 0 0]) rfl Try.underlying27 (by kernel_rfl) rfl (by decide) (by decide) (by simp) (by decide) rfl ?_; intro g8 w8 hg8 hw8; obtain ⟨q8, s8⟩ := lets_slN [x2] hg8 hw8; have t8 := t6.nw q8; clear hg8 hw8) | (at_builtin; refine wl_append2 rfl _ _ _ rfl 256 (.agg #[U8V 0, I64 0, I64 0, I64 0, I64 0, I64 0, I64 0, I64 0, .bool false, .slice none 0 0, I64 0, I64 0, .slice none 0 0, .slice none 0 0, .slice none 0 0, .slice none 0 0, I64 0, I64 0, I64 0, .slice none 0 0]) Try.underlying27 info_let rfl (by decide) rfl t8.lt.own rfl s8 (by rfl) (letsC_cell _) (by omega) (by unfold maxLen; omega) ?_; intro B' c' w9 hap))
              go_meet
              obtain ⟨col9, x9, l9⟩ := LstC.app (by decide) t8.lt hap (l2 := [x2]) rfl (fun y hy => by rw [List.mem_singleton.1 hy]; exact (i7.nw q8).mono fun k hk _ => ⟨hk.1, by have := hk.2; have := q8.size; omega⟩) (fun y hy => by rw [List.mem_singleton.1 hy]; exact z6)
              have t9 := t8.s5 x9 l9
              have hl9 : (tl ++ [x2]).length = tl.length + 1 := by rw [List.length_append]; rfl
              exact ⟨col9, setP p (d.src, d.dst) l, setP q (1, 2) r, Aa, ca, al, Ap, cp, pu, B', c', (tl ++ [x2]), rfl, rfl, by rw [hl9], ⟨(t9).aw, (t9).n.more (by omega), (t9).c.more (by omega), (t9).la, (t9).lp, (t9).lt, (t9).blk, (t9).cE⟩, hok.tail _ hp, by rw [List.map_append, List.map_singleton, ex2]; exact hcalm.head hq, by omega, by omega, by omega ⟩
        by_cases k5 : kk = 5
        · subst k5
          cases hp : p (d.src, d.dst) with
          | nil =>
            have hlo := nLose0 (by decide) s1.n d.src d.dst way hp
            have hNo := hok
            go_wp2_with (go_at_call 12; refine hlo.mono ?_; rintro e w4 ⟨rfl, q4⟩)
            go_meet
            exact ⟨col, p, q, Aa, ca, al, Ap, cp, pu, At, ct, tl, rfl, rfl, rfl, ⟨(s1.nw q4).aw, (s1.nw q4).n.more (by omega), (s1.nw q4).c.more (by omega), (s1.nw q4).la, (s1.nw q4).lp, (s1.nw q4).lt, (s1.nw q4).blk, (s1.nw q4).cE⟩, hok, hcalm, by omega, by omega, by omega⟩
          | cons y l =>
            have hlo := nLose1 (by decide) s1.n (by omega) d.src d.dst way hp
            go_wp2_with (go_at_call 12; refine hlo.mono ?_; rintro e w4 ⟨rfl, x4, n4⟩)
            go_meet
            exact ⟨col, setP p (d.src, d.dst) l, q, Aa, ca, al, Ap, cp, pu, At, ct, tl, rfl, rfl, rfl, ⟨(s1.s1 x4 n4).aw, (s1.s1 x4 n4).n.more (by omega), (s1.s1 x4 n4).c.more (by omega), (s1.s1 x4 n4).la, (s1.s1 x4 n4).lp, (s1.s1 x4 n4).lt, (s1.s1 x4 n4).blk, (s1.s1 x4 n4).cE⟩, hok.tail _ hp, hcalm, by omega, by omega, by omega⟩
        by_cases k6 : kk = 6
        · subst k6
          have hlo := nTwice (by decide) s1.n (by omega) d.src d.dst way
          go_wp2_with (go_at_call 13; refine hlo.mono ?_; rintro e w4 ⟨rfl, col4, x4, n4⟩)
          go_meet
          exact ⟨col4, (twP p (d.src, d.dst)).1, q, Aa, ca, al, Ap, cp, pu, At, ct, tl, rfl, rfl, rfl, ⟨(s1.s1 x4 n4).aw, (s1.s1 x4 n4).n.more (by omega), (s1.s1 x4 n4).c.more (by omega), (s1.s1 x4 n4).la, (s1.s1 x4 n4).lp, (s1.s1 x4 n4).lt, (s1.s1 x4 n4).blk, (s1.s1 x4 n4).cE⟩, hok.tw _, hcalm, by omega, by omega, by omega⟩
        by_cases k7 : kk = 7
        · subst k7
          have hlo := nForward (by decide) s1.n (by omega) d.src d.dst way
          go_wp2_with (go_at_call 14; refine hlo.mono ?_; rintro e w4 ⟨rfl, col4, x4, n4⟩)
          go_meet
          exact ⟨col4, (fwP p (d.src, d.dst)).1, q, Aa, ca, al, Ap, cp, pu, At, ct, tl, rfl, rfl, rfl, ⟨(s1.s1 x4 n4).aw, (s1.s1 x4 n4).n.more (by omega), (s1.s1 x4 n4).c.more (by omega), (s1.s1 x4 n4).la, (s1.s1 x4 n4).lp, (s1.s1 x4 n4).lt, (s1.s1 x4 n4).blk, (s1.s1 x4 n4).cE⟩, hok.fw _, hcalm, by omega, by omega, by omega⟩
        by_cases k8 : kk = 8
        · subst k8
          have htk := nTake (by decide) s1.n d.dst wdst 6 (by decide) (by decide)
          obtain ⟨hok8, hin8⟩ := hok.take d.dst 5
          go_upto_region 37 with (go_at_call 15; refine htk.mono ?_; rintro e w4 ⟨A6, c6, ys, rfl, hy200, ey, col4, x4, n4, l6⟩)
          have s4 := s1.s1 x4 n4
          have HIN := Lib.hid hin8
          clear hin8 htk
          go_wp2_with fail
          go_loopw [15] (fun i wr => ∃ k2 : Nat, k2 ≤ ys.length ∧ i = .int .i64 (k2 : Nat) ∧ Nw w4 wr) (fun i _ => ys.length - (intOf i).toNat)
          case atStart => exact ⟨0, Nat.zero_le _, rfl, Fr.refl _ _⟩
          case round =>
            obtain ⟨k2, hk2, rfl, hq2⟩ := hrel
            by_cases hlt2 : k2 < ys.length
            · have hj0 : (k2 : Int) < (ys.length : Int) := by omega
              obtain ⟨b2, o2, rfl, _, _, hc2⟩ := (l6.own.sl.fr hq2 (fun _ _ h => h)).let_ hlt2
              have xi := ((l6.each _ (List.getElem_mem hlt2)).nw hq2).mono (F' := CB wr col4 0) (fun k hk _ => ⟨hk.1, by have := hk.2; have := hq2.size; omega⟩)
              have hmem : ys[k2].x ∈ (takeP p d.dst 5).1 := by rw [← ey]; exact List.mem_map.2 ⟨_, List.getElem_mem hlt2, rfl⟩
              obtain ⟨x, hx⟩ : ∃ x, ys[k2] = x := ⟨_, rfl⟩
              rw [hx] at hc2 xi hmem
              obtain ⟨h8, h9⟩ := HIN.out _ hmem
              have hdst : x.dst = d.dst := h9
              have sW := s4.nw hq2
              have hsn : ∀ m : Later wr, Calls Try.prog 11 #[.slice Aa al.length ca, .agg #[U8V x.kind, I64 x.group, I64 x.src, I64 x.dst, I64 x.term, I64 x.index, I64 x.logt, I64 x.commit, .bool x.ok, .slice x.ents.a x.ents.l.length x.ents.c, I64 x.base.index, I64 x.base.term, .slice x.base.cfg.v.a x.base.cfg.v.l.length x.base.cfg.v.c, .slice x.base.cfg.o.a x.base.cfg.o.l.length x.base.cfg.o.c, .slice x.base.cfg.l.a x.base.cfg.l.l.length x.base.cfg.l.c, .slice x.base.cfg.w.a x.base.cfg.w.l.length x.base.cfg.w.c, I64 x.size, I64 x.at_, I64 x.tag, .slice x.bytes.a x.bytes.l.length x.bytes.c]] m.at_ fun e w' => e = .returned (.bool true) ∧ Nw m.at_ w' := fun m => by
                have h7 := sent_any m.at_ (CB wr col4 3) (CB wr col4 0) Aa ca al x (sW.la.sl.fr m.nw (fun _ _ h => h)) (fun y hy => (sW.la.each y hy).nw m.nw) (xi.nw m.nw) sW.la.sz (by omega)
                rw [decide_eq_true h8] at h7
                exact h7
              have xk : ∀ w', (∃ n : Later wr, w' = n.at_) → ∀ p u, ([U8V x.kind, I64 x.group, I64 x.src, I64 x.dst, I64 x.term, I64 x.index, I64 x.logt, I64 x.commit, .bool x.ok, .slice x.ents.a x.ents.l.length x.ents.c, I64 x.base.index, I64 x.base.term, .slice x.base.cfg.v.a x.base.cfg.v.l.length x.base.cfg.v.c, .slice x.base.cfg.o.a x.base.cfg.o.l.length x.base.cfg.o.c, .slice x.base.cfg.l.a x.base.cfg.l.l.length x.base.cfg.l.c, .slice x.base.cfg.w.a x.base.cfg.w.l.length x.base.cfg.w.c, I64 x.size, I64 x.at_, I64 x.tag, .slice x.bytes.a x.bytes.l.length x.bytes.c] : List Value)[p]? = some u → w'.cell? ⟨b2, o2 + k2 * 20 + p, none⟩ = some u := fun w' hw p u hu => Later.cells hc2 w' hw p u hu
              have k3 : ∀ n : Later wr, n.at_.cell? ⟨b2, o2 + k2 * 20 + 3, none⟩ = some (I64 d.dst) := fun n => by rw [← hdst]; exact Later.cells hc2 n.at_ ⟨n, rfl⟩ 3 _ rfl
              have ke : ∀ n : Later wr, n.at_.cell? ⟨E, 2, none⟩ = some (I64 d.dst) := fun n => by simpa using (sW.blk.fr n.nw (fun h => h)).cell 2
              have XK := Lib.hid xk
              have HSN := Lib.hid hsn
              clear hx xk hsn hc2 hmem h8 h9 hdst sW xi
              go_upto_region 40 with (fail)
              refine wp_region_later (by kernel_rfl) (by kernel_rfl) ?_
              iterate 4 (go_big_quiet_step (fail))
              refine quiet_load_cells (by kernel_rfl) 40 _ rfl b2 (o2 + k2 * 20) rfl _ _ XK.out Try.underlying40 rfl (by kernel_rfl) ?_
              simp only [Act.put, List.setIfInBounds_toArray, List.set_cons_succ, List.set_cons_zero]
              repeat (go_big_quiet_step ((go_at_call 11; exact Later.call (HSN.out _))))
              refine wpQuiet_later fun w5 q5 => ?_
              go_wp2_with fail
              go_roundw
              case rel => exact ⟨k2 + 1, hlt2, by go_num, hq2.tr q5⟩
              case measure => simp [intOf]; omega
            · obtain rfl : ys.length = k2 := by omega
              go_wp2_with fail
              go_meet
              exact ⟨col4, (takeP p d.dst 5).2, q, Aa, ca, al, Ap, cp, pu, At, ct, tl, rfl, rfl, rfl, ⟨(s4.nw hq2).aw, (s4.nw hq2).n.more (by omega), (s4.nw hq2).c.more (by omega), (s4.nw hq2).la, (s4.nw hq2).lp, (s4.nw hq2).lt, (s4.nw hq2).blk, (s4.nw hq2).cE⟩, hok8, hcalm, by omega, by omega, by omega⟩
        have i4 : ¬ (kk : Int) = 4 := by omega
        have i5 : ¬ (kk : Int) = 5 := by omega
        have i6 : ¬ (kk : Int) = 6 := by omega
        have i7 : ¬ (kk : Int) = 7 := by omega
        have i8 : ¬ (kk : Int) = 8 := by omega
        have b4 : ((kk : Int) == 4) = false := by simp [i4]
        have b5 : ((kk : Int) == 5) = false := by simp [i5]
        have b6 : ((kk : Int) == 6) = false := by simp [i6]
        have b7 : ((kk : Int) == 7) = false := by simp [i7]
        have b8 : ((kk : Int) == 8) = false := by simp [i8]
        have hD0 : ∀ w9 col9, Aw W w9 col9 → Sl w9 (CB w9 col9 0) d.l.a (letsC d.l.l) ∧ ∀ x ∈ d.l.l, LetIn w9 (CB w9 col9 0) x := fun w9 col9 a9 =>
          ⟨(DIN.out.lets.ls.sl.fr a9.nw (fun _ _ h => h)).mono fun k hk hl => ⟨a9.z k hk, hl⟩, fun x hx => ((DIN.out.lets.each x hx).nw a9.nw).mono fun k hk hl => ⟨a9.z k hk, hl⟩⟩
        have hZ0 : ∀ x ∈ d.l.l, LetSz x := fun x hx => (DFEW.out x hx).sz (by omega)
        have hnd := HND.out
        have HD0 := Lib.hid hD0
        have HZ0 := Lib.hid hZ0
        obtain ⟨hd1, hd2⟩ := hD0 V1 col s1.aw
        clear hD0 hZ0
        go_upto_region 13 with (at_builtin; refine wl_append2 rfl _ _ _ rfl 256 (.agg #[U8V 0, I64 0, I64 0, I64 0, I64 0, I64 0, I64 0, I64 0, .bool false, .slice none 0 0, I64 0, I64 0, .slice none 0 0, .slice none 0 0, .slice none 0 0, .slice none 0 0, I64 0, I64 0, I64 0, .slice none 0 0]) Try.underlying27 info_let rfl (by decide) rfl s1.la.own rfl hd1 (letsC_len _) (letsC_cell _) (by omega) (by unfold maxLen; omega) ?_; intro B3 c3 w4 hap)
        obtain ⟨col4, x4, l4⟩ := LstC.app (by decide) s1.la hap rfl hd2 HZ0.out
        have s4 := s1.s3 x4 l4
        have e34 : w4.cell? ⟨E, 3, none⟩ = some (.slice d.l.a d.l.l.length d.l.c) := by simpa using s4.blk.cell 3
        obtain ⟨hd3, hd4⟩ := HD0.out w4 col4 s4.aw
        have hsd := nSend (by decide) s4.n (by omega) (CB w4 col4 0) d.l.a d.l.c d.l.l hd3 hd4 HZ0.out (by omega) (fun k hk e => by have h9 := hk.1; rw [e] at h9; cases h9)
        go_upto_region 14 with (go_at_call 16; refine hsd.mono ?_; rintro e w5 ⟨rfl, col5, x5, n5⟩)
        have s5 := s4.s1 x5 n5
        have hok5 : NetOk (sendP p (d.l.l.map LetM.x)).1 ((al ++ d.l.l).map LetM.x) := (hok.more (fun x hx => by rw [List.map_append]; exact List.mem_append_left _ hx)).send _ (fun x hx => by rw [List.map_append]; exact List.mem_append_right _ hx)
        obtain ⟨p5, hp5⟩ : ∃ p5, p5 = (sendP p (d.l.l.map LetM.x)).1 := ⟨_, rfl⟩
        rw [← hp5] at s5 hok5
        obtain ⟨al5, hal5⟩ : ∃ al5, al5 = al ++ d.l.l := ⟨_, rfl⟩
        have hlen5 : al5.length = al.length + d.l.l.length := by rw [hal5, List.length_append]
        rw [← hal5] at s5 hok5
        have HOK := Lib.hid hok5
        have HL5 := Lib.hid hlen5
        clear hd1 hd2 hd3 hd4 hsd hap x4 l4 s4 e34 x5 n5 hp5 hok5 hal5 hlen5 s1 e0 e1 e2 e3 hok
        go_wp2_with fail
        go_loopw [6, 16] (fun v6 i wr => onceJ W gn gc (N0 + d.l.l.length) N0 p5 B3 c3 al5 At ct tl E d v6 i wr) (fun _ i _ => d.l.l.length - (intOf i).toNat)
        case atStart => exact ⟨0, col5, q, Ap, cp, pu, Nat.zero_le _, rfl, rfl, s5, hcalm, zlp⟩
        case round =>
          clear s5 hcalm
          obtain ⟨k2, col2, q2, Ap2, cp2, pu2, hk2, rfl, rfl, s2, hcalm2, zlp2⟩ := hrel
          have ew : wr.cell? ⟨E, 3, none⟩ = some (.slice d.l.a d.l.l.length d.l.c) := by simpa using s2.blk.cell 3
          by_cases hlt2 : k2 < d.l.l.length
          · have hj0 : (k2 : Int) < (d.l.l.length : Int) := by omega
            obtain ⟨hs2, hi2⟩ := HD0.out wr col2 s2.aw
            obtain ⟨b2, o2, ha2, _, _, hc2⟩ := hs2.let_ hlt2
            rw [ha2] at ew
            have HA2 := Lib.hid ha2
            clear ha2
            have xi := hi2 _ (List.getElem_mem hlt2)
            have xz := HZ0.out _ (List.getElem_mem hlt2)
            obtain ⟨x, hx⟩ : ∃ x, d.l.l[k2] = x := ⟨_, rfl⟩
            rw [hx] at hc2 xi xz
            have hcp := copy_let wr _ x xi xz
            have hwr : ∀ k, wr.heap.size ≤ k → col2 k = 0 := s2.aw.cln
            have HWR := Lib.hid hwr
            clear hx hwr hs2 hi2
            go_upto_region 18 with (first | (refine wl_load_cells rfl 40 _ rfl b2 (o2 + k2 * 20) rfl _ _ hc2 Try.underlying40 rfl (by kernel_rfl) ?_) | (go_at_call 17; refine hcp.mono ?_; rintro e w6 ⟨y, rfl, ey, iy, q6⟩; obtain ⟨D, hD⟩ : ∃ D, D = w6.heap.size := ⟨_, rfl⟩; obtain ⟨T0, hV0⟩ : ∃ V, V = w6.alloc (.cells #[U8V 0, I64 0, I64 0, I64 0, I64 0, I64 0, I64 0, I64 0, .bool false, .slice none 0 0, I64 0, I64 0, .slice none 0 0, .slice none 0 0, .slice none 0 0, .slice none 0 0, I64 0, I64 0, I64 0, .slice none 0 0] 40) := ⟨_, rfl⟩; have q0 : Nw w6 T0 := (by rw [hV0]; exact (Fr.refl (fun _ => False) _).alloc _); have y0 : Blk T0 D 40 #[U8V 0, I64 0, I64 0, I64 0, I64 0, I64 0, I64 0, I64 0, .bool false, .slice none 0 0, I64 0, I64 0, .slice none 0 0, .slice none 0 0, .slice none 0 0, .slice none 0 0, I64 0, I64 0, I64 0, .slice none 0 0] := (by rw [hV0, hD]; exact Blk.new _ _ _); have th := Blk.there (l := [U8V 0, I64 0, I64 0, I64 0, I64 0, I64 0, I64 0, I64 0, .bool false, .slice none 0 0, I64 0, I64 0, .slice none 0 0, .slice none 0 0, .slice none 0 0, .slice none 0 0, I64 0, I64 0, I64 0, .slice none 0 0]) y0 0 20 (by show 0 + 20 ≤ 20; omega); have one := letA_one y; obtain ⟨T1, hV1⟩ : ∃ V, V = T0.setCells D 0 [U8V y.kind, I64 y.group, I64 y.src, I64 y.dst, I64 y.term, I64 y.index, I64 y.logt, I64 y.commit, .bool y.ok, .slice y.ents.a y.ents.l.length y.ents.c, I64 y.base.index, I64 y.base.term, .slice y.base.cfg.v.a y.base.cfg.v.l.length y.base.cfg.v.c, .slice y.base.cfg.o.a y.base.cfg.o.l.length y.base.cfg.o.c, .slice y.base.cfg.l.a y.base.cfg.l.l.length y.base.cfg.l.c, .slice y.base.cfg.w.a y.base.cfg.w.l.length y.base.cfg.w.c, I64 y.size, I64 y.at_, I64 y.tag, .slice y.bytes.a y.bytes.l.length y.bytes.c] := ⟨_, rfl⟩; have yT1 : Blk T1 D 40 #[U8V y.kind, I64 y.group, I64 y.src, I64 y.dst, I64 y.term, I64 y.index, I64 y.logt, I64 y.commit, .bool y.ok, .slice y.ents.a y.ents.l.length y.ents.c, I64 y.base.index, I64 y.base.term, .slice y.base.cfg.v.a y.base.cfg.v.l.length y.base.cfg.v.c, .slice y.base.cfg.o.a y.base.cfg.o.l.length y.base.cfg.o.c, .slice y.base.cfg.l.a y.base.cfg.l.l.length y.base.cfg.l.c, .slice y.base.cfg.w.a y.base.cfg.w.l.length y.base.cfg.w.c, I64 y.size, I64 y.at_, I64 y.tag, .slice y.bytes.a y.bytes.l.length y.bytes.c] := (by rw [hV1]; exact Blk.setCells (l := [U8V 0, I64 0, I64 0, I64 0, I64 0, I64 0, I64 0, I64 0, .bool false, .slice none 0 0, I64 0, I64 0, .slice none 0 0, .slice none 0 0, .slice none 0 0, .slice none 0 0, I64 0, I64 0, I64 0, .slice none 0 0]) y0 0 [U8V y.kind, I64 y.group, I64 y.src, I64 y.dst, I64 y.term, I64 y.index, I64 y.logt, I64 y.commit, .bool y.ok, .slice y.ents.a y.ents.l.length y.ents.c, I64 y.base.index, I64 y.base.term, .slice y.base.cfg.v.a y.base.cfg.v.l.length y.base.cfg.v.c, .slice y.base.cfg.o.a y.base.cfg.o.l.length y.base.cfg.o.c, .slice y.base.cfg.l.a y.base.cfg.l.l.length y.base.cfg.l.c, .slice y.base.cfg.w.a y.base.cfg.w.l.length y.base.cfg.w.c, I64 y.size, I64 y.at_, I64 y.tag, .slice y.bytes.a y.bytes.l.length y.bytes.c]); have m1 : Fr (· = D) T0 T1 := (by rw [hV1]; exact (Fr.refl (· = D) _).setCells _ _); have qT1 : Nw w6 T1 := q0.new m1 (fun b hb => by omega); have HDT1 := Lib.hid hD; have HV0T1 := Lib.hid hV0; have HV1T1 := Lib.hid hV1; clear hD hV0 hV1 m1 q0 y0) | (rw [← HV0T1.out, ← HDT1.out]; refine wpList_store_mid rfl 40 _ _ rfl D 0 #[U8V y.kind, I64 y.group, I64 y.src, I64 y.dst, I64 y.term, I64 y.index, I64 y.logt, I64 y.commit, .bool y.ok, .slice y.ents.a y.ents.l.length y.ents.c, I64 y.base.index, I64 y.base.term, .slice y.base.cfg.v.a y.base.cfg.v.l.length y.base.cfg.v.c, .slice y.base.cfg.o.a y.base.cfg.o.l.length y.base.cfg.o.c, .slice y.base.cfg.l.a y.base.cfg.l.l.length y.base.cfg.l.c, .slice y.base.cfg.w.a y.base.cfg.w.l.length y.base.cfg.w.c, I64 y.size, I64 y.at_, I64 y.tag, .slice y.bytes.a y.bytes.l.length y.bytes.c] rfl rfl th (by kernel_rfl) one ?_; rw [← HV1T1.out]))
            have c2 : T1.cell? ⟨D, 2, none⟩ = some (I64 y.src) := by simpa using yT1.cell 2
            have f2 := yT1.frozen 2
            have yT2 := yT1.set_ 2 (I64 1)
            obtain ⟨T2, hT2⟩ : ∃ T, T = T1.setCell ⟨D, 2, none⟩ (I64 1) := ⟨_, rfl⟩
            rw [← hT2] at yT2
            have c3 : T2.cell? ⟨D, 3, none⟩ = some (I64 y.dst) := by simpa using yT2.cell 3
            have f3 := yT2.frozen 3
            have yT3 := yT2.set_ 3 (I64 2)
            obtain ⟨T3, hT3⟩ : ∃ T, T = T2.setCell ⟨D, 3, none⟩ (I64 2) := ⟨_, rfl⟩
            rw [← hT3] at yT3
            obtain ⟨y2, hy2⟩ : ∃ y2 : LetM, y2 = { y with src := 1, dst := 2 } := ⟨_, rfl⟩
            have y3 : Blk T3 D 40 #[U8V y2.kind, I64 y2.group, I64 y2.src, I64 y2.dst, I64 y2.term, I64 y2.index, I64 y2.logt, I64 y2.commit, .bool y2.ok, .slice y2.ents.a y2.ents.l.length y2.ents.c, I64 y2.base.index, I64 y2.base.term, .slice y2.base.cfg.v.a y2.base.cfg.v.l.length y2.base.cfg.v.c, .slice y2.base.cfg.o.a y2.base.cfg.o.l.length y2.base.cfg.o.c, .slice y2.base.cfg.l.a y2.base.cfg.l.l.length y2.base.cfg.l.c, .slice y2.base.cfg.w.a y2.base.cfg.w.l.length y2.base.cfg.w.c, I64 y2.size, I64 y2.at_, I64 y2.tag, .slice y2.bytes.a y2.bytes.l.length y2.bytes.c] := by rw [hy2]; exact yT3
            have m3 : Fr (· = D) T1 T3 := by
              rw [hT3, hT2]
              exact ((Fr.refl (· = D) T1).set1 2 _).set1 3 _
            have q3 : Nw w6 T3 := qT1.new m3 (fun b hb => by have := HDT1.out; omega)
            have iy3 : LetIn T3 (CB T3 col2 0) y2 := by
              have h9 := (iy.nw q3).mono (F' := CB T3 col2 0) fun k hk hl => ⟨HWR.out k hk, hl⟩
              rw [hy2]
              exact ⟨h9.kind, h9.ents, h9.each, h9.cfg, h9.bytes⟩
            have zy : LetSz y2 := by
              have h9 := LetSz.of_eq ey xz
              rw [hy2]
              exact ⟨h9.ents, h9.each, h9.cfg, h9.bytes⟩
            have ysrc : (y2.x.src, y2.x.dst) = (1, 2) := by rw [hy2]
            have s3 := s2.nw (q6.tr q3)
            have hDw : wr.heap.size ≤ D := by have := HDT1.out; have := q6.size; omega
            have cD : col2 D = 0 := HWR.out D hDw
            have lD : ∀ p u, ([U8V y2.kind, I64 y2.group, I64 y2.src, I64 y2.dst, I64 y2.term, I64 y2.index, I64 y2.logt, I64 y2.commit, .bool y2.ok, .slice y2.ents.a y2.ents.l.length y2.ents.c, I64 y2.base.index, I64 y2.base.term, .slice y2.base.cfg.v.a y2.base.cfg.v.l.length y2.base.cfg.v.c, .slice y2.base.cfg.o.a y2.base.cfg.o.l.length y2.base.cfg.o.c, .slice y2.base.cfg.l.a y2.base.cfg.l.l.length y2.base.cfg.l.c, .slice y2.base.cfg.w.a y2.base.cfg.w.l.length y2.base.cfg.w.c, I64 y2.size, I64 y2.at_, I64 y2.tag, .slice y2.bytes.a y2.bytes.l.length y2.bytes.c] : List Value)[p]? = some u → T3.cell? ⟨D, 0 + p, none⟩ = some u := Blk.cells_at (l := [U8V y2.kind, I64 y2.group, I64 y2.src, I64 y2.dst, I64 y2.term, I64 y2.index, I64 y2.logt, I64 y2.commit, .bool y2.ok, .slice y2.ents.a y2.ents.l.length y2.ents.c, I64 y2.base.index, I64 y2.base.term, .slice y2.base.cfg.v.a y2.base.cfg.v.l.length y2.base.cfg.v.c, .slice y2.base.cfg.o.a y2.base.cfg.o.l.length y2.base.cfg.o.c, .slice y2.base.cfg.l.a y2.base.cfg.l.l.length y2.base.cfg.l.c, .slice y2.base.cfg.w.a y2.base.cfg.w.l.length y2.base.cfg.w.c, I64 y2.size, I64 y2.at_, I64 y2.tag, .slice y2.bytes.a y2.bytes.l.length y2.bytes.c]) y3 0
            obtain ⟨r, hr⟩ : ∃ r, r = (sendP q2 [y2.x]).2 := ⟨_, rfl⟩
            obtain ⟨q9, hq9⟩ : ∃ q9, q9 = (sendP q2 [y2.x]).1 := ⟨_, rfl⟩
            have hcs := hcalm2.sent y2.x ysrc
            rw [← hr, ← hq9] at hcs
            have hsd : ∀ w8 g8, Nw T3 w8 → T3.heap.size ≤ g8 → Sl w8 (· = g8) (some ⟨g8, 0, none⟩) (letsC [y2]) → Calls Try.prog 16 #[.pointer (some ⟨gc, 0, none⟩), .slice (some ⟨g8, 0, none⟩) 1 1] w8 fun e w' => e = .returned (I64 (r : Nat)) ∧ ∃ col', Ext w8 w' col2 col' 2 ∧ NetC w' col' 2 gc (N0 + k2 + 1) q9 := fun w8 g8 q8 hg8 s8 => by
              rw [hr, hq9]
              exact nSend (by decide) (s3.nw q8).c (by omega) (CB w8 col2 0) (some ⟨g8, 0, none⟩) 1 [y2] (s8.mono fun k hk hl => ⟨HWR.out k (by have := q6.size; have := q3.size; omega), hl⟩) (fun z hz => by rw [List.mem_singleton.1 hz]; exact (iy3.nw q8).mono fun k hk hl => ⟨hk.1, hl⟩) (fun z hz => by rw [List.mem_singleton.1 hz]; exact zy) (by simp) (fun k hk e => by have h9 := hk.1; rw [e] at h9; cases h9)
            have HCS := Lib.hid hcs
            have HSD := Lib.hid hsd
            have HT2 := Lib.hid hT2
            have HT3 := Lib.hid hT3
            clear hcs hsd hr hq9 hT2 hT3 hy2 yT2 yT3 m3 iy ysrc hc2 hcp hcalm2 s2 xi xz
            go_upto_region 19 with (fail)
            rw [← HT2.out]
            go_upto_region 20 with (fail)
            rw [← HT3.out]
            clear c2 f2 c3 f3
            by_cases hr1 : r = 1
            · subst hr1
              go_upto_region 21 with (first | (refine wl_load_cells rfl 40 _ rfl D 0 rfl _ _ lD Try.underlying40 rfl (by kernel_rfl) ?_) | (refine wl_build rfl 27 1 _ 20 [letL y2] (.agg #[U8V 0, I64 0, I64 0, I64 0, I64 0, I64 0, I64 0, I64 0, .bool false, .slice none 0 0, I64 0, I64 0, .slice none 0 0, .slice none 0 0, .slice none 0 0, .slice none 0 0, I64 0, I64 0, I64 0, .slice none 0 0]) rfl Try.underlying27 (by kernel_rfl) rfl (by decide) (by decide) (by simp) (by decide) rfl ?_; intro g8 w8 hg8 hw8; obtain ⟨q8, s8⟩ := lets_slN [y2] hg8 hw8; have hg9 : T3.heap.size ≤ g8 := (by omega); clear hg8 hw8) | (go_at_call 16; refine (HSD.out w8 g8 q8 hg9 s8).mono ?_; rintro e w9 ⟨rfl, col9, x9, n9⟩))
              have s9 := (s3.nw q8).s2 x9 n9
              have b9 := blk_ext (y3.fr q8 (fun h => h)) cD x9 (by decide)
              have lD9 : ∀ p u, ([U8V y2.kind, I64 y2.group, I64 y2.src, I64 y2.dst, I64 y2.term, I64 y2.index, I64 y2.logt, I64 y2.commit, .bool y2.ok, .slice y2.ents.a y2.ents.l.length y2.ents.c, I64 y2.base.index, I64 y2.base.term, .slice y2.base.cfg.v.a y2.base.cfg.v.l.length y2.base.cfg.v.c, .slice y2.base.cfg.o.a y2.base.cfg.o.l.length y2.base.cfg.o.c, .slice y2.base.cfg.l.a y2.base.cfg.l.l.length y2.base.cfg.l.c, .slice y2.base.cfg.w.a y2.base.cfg.w.l.length y2.base.cfg.w.c, I64 y2.size, I64 y2.at_, I64 y2.tag, .slice y2.bytes.a y2.bytes.l.length y2.bytes.c] : List Value)[p]? = some u → w9.cell? ⟨D, 0 + p, none⟩ = some u := Blk.cells_at (l := [U8V y2.kind, I64 y2.group, I64 y2.src, I64 y2.dst, I64 y2.term, I64 y2.index, I64 y2.logt, I64 y2.commit, .bool y2.ok, .slice y2.ents.a y2.ents.l.length y2.ents.c, I64 y2.base.index, I64 y2.base.term, .slice y2.base.cfg.v.a y2.base.cfg.v.l.length y2.base.cfg.v.c, .slice y2.base.cfg.o.a y2.base.cfg.o.l.length y2.base.cfg.o.c, .slice y2.base.cfg.l.a y2.base.cfg.l.l.length y2.base.cfg.l.c, .slice y2.base.cfg.w.a y2.base.cfg.w.l.length y2.base.cfg.w.c, I64 y2.size, I64 y2.at_, I64 y2.tag, .slice y2.bytes.a y2.bytes.l.length y2.bytes.c]) b9.1 0
              have iy9 := let_ext ((iy3.nw q8).mono (F' := CB w8 col2 0) fun k hk hl => ⟨hk.1, hl⟩) x9 (by decide)
              clear lD
              go_wp2_with (first | (refine wl_load_cells rfl 40 _ rfl D 0 rfl _ _ lD9 Try.underlying40 rfl (by kernel_rfl) ?_) | (refine wl_build rfl 27 1 _ 20 [letL y2] (.agg #[U8V 0, I64 0, I64 0, I64 0, I64 0, I64 0, I64 0, I64 0, .bool false, .slice none 0 0, I64 0, I64 0, .slice none 0 0, .slice none 0 0, .slice none 0 0, .slice none 0 0, I64 0, I64 0, I64 0, .slice none 0 0]) rfl Try.underlying27 (by kernel_rfl) rfl (by decide) (by decide) (by simp) (by decide) rfl ?_; intro g10 w10 hg10 hw10; obtain ⟨q10, s10⟩ := lets_slN [y2] hg10 hw10; have t10 := s9.nw q10; clear hg10 hw10) | (at_builtin; refine wl_append2 rfl _ _ _ rfl 256 (.agg #[U8V 0, I64 0, I64 0, I64 0, I64 0, I64 0, I64 0, I64 0, .bool false, .slice none 0 0, I64 0, I64 0, .slice none 0 0, .slice none 0 0, .slice none 0 0, .slice none 0 0, I64 0, I64 0, I64 0, .slice none 0 0]) Try.underlying27 info_let rfl (by decide) rfl t10.lp.own rfl s10 (by rfl) (letsC_cell _) (by omega) (by unfold maxLen; omega) ?_; intro B' c' w11 hap))
              go_roundw
              case rel =>
                obtain ⟨col11, x11, l11⟩ := LstC.app (by decide) t10.lp hap (l2 := [y2]) rfl (fun z hz => by rw [List.mem_singleton.1 hz]; exact (iy9.nw q10).mono fun k hk hl => ⟨hk.1, hl⟩) (fun z hz => by rw [List.mem_singleton.1 hz]; exact zy)
                have t11 := t10.s4 x11 l11
                have hcs := HCS.out
                rw [if_pos trivial] at hcs
                exact ⟨k2 + 1, col11, q9, B', c', pu2 ++ [y2], hlt2, by go_num, by rw [List.length_append]; rfl, t11, by rw [List.map_append, List.map_singleton]; exact hcs, by rw [List.length_append]; show pu2.length + 1 ≤ _; omega⟩
              case measure => simp [intOf]; omega
            · have hri : ¬ (r : Int) = 1 := by omega
              go_wp2_with (first | (refine wl_load_cells rfl 40 _ rfl D 0 rfl _ _ lD Try.underlying40 rfl (by kernel_rfl) ?_) | (refine wl_build rfl 27 1 _ 20 [letL y2] (.agg #[U8V 0, I64 0, I64 0, I64 0, I64 0, I64 0, I64 0, I64 0, .bool false, .slice none 0 0, I64 0, I64 0, .slice none 0 0, .slice none 0 0, .slice none 0 0, .slice none 0 0, I64 0, I64 0, I64 0, .slice none 0 0]) rfl Try.underlying27 (by kernel_rfl) rfl (by decide) (by decide) (by simp) (by decide) rfl ?_; intro g8 w8 hg8 hw8; obtain ⟨q8, s8⟩ := lets_slN [y2] hg8 hw8; have hg9 : T3.heap.size ≤ g8 := (by omega); clear hg8 hw8) | (go_at_call 16; refine (HSD.out w8 g8 q8 hg9 s8).mono ?_; rintro e w9 ⟨rfl, col9, x9, n9⟩))
              go_roundw
              case rel =>
                have s9 := (s3.nw q8).s2 x9 n9
                have hcs := HCS.out
                rw [if_neg hr1] at hcs
                exact ⟨k2 + 1, col9, q9, Ap2, cp2, pu2, hlt2, by go_num, rfl, s9, hcs, by omega⟩
              case measure => simp [intOf]; omega
          · obtain rfl : d.l.l.length = k2 := by omega
            go_wp2_with fail
            go_meet
            have hl5 := HL5.out
            exact ⟨col2, p5, q2, B3, c3, al5, Ap2, cp2, pu2, At, ct, tl, by rw [hl5], rfl, rfl, ⟨(s2).aw, (s2).n.more (by omega), (s2).c.more (by omega), (s2).la, (s2).lp, (s2).lt, (s2).blk, (s2).cE⟩, HOK.out, hcalm2, by omega, by omega, by omega⟩
      case rest =>
        obtain ⟨wx, hwx⟩ : ∃ wx, wx = wc := ⟨_, rfl⟩
        rw [← hwx] at hcut ⊢
        clear hwx s1 e0
        obtain ⟨col2, p2, q2, Aa2, ca2, al2, Ap2, cp2, pu2, At2, ct2, tl2, rfl, rfl, rfl, s2, hok2, hcalm2, z1, z2, z3⟩ := hcut
        have e1 : wx.cell? ⟨E, 1, none⟩ = some (I64 d.src) := by simpa using s2.blk.cell 1
        have e2 : wx.cell? ⟨E, 2, none⟩ = some (I64 d.dst) := by simpa using s2.blk.cell 2
        have hwt := nWaiting (by decide) s2.n d.src d.dst way
        have hm := hok2.most (d.src, d.dst)
        have HM := Lib.hid hm
        clear hm
        go_wp2_with (go_at_call 18; refine hwt.mono ?_; rintro e w5 ⟨Aw5, cw5, ys, rfl, ey, o5, hd5, z5, q5, b5⟩; have hys : ¬ (40 : Int) < (ys.length : Int) := (by have := HM.out; rw [← ey, List.length_map] at this; omega))
        go_roundw
        case rel =>
          have s3 := s2.nw q5
          have hN := HNN.out
          rw [← hN] at z1 z2 z3
          refine ⟨k + 1, col2, p2, q2, Aa2, ca2, al2, Ap2, cp2, pu2, At2, ct2, tl2, hlt, by go_num, rfl, rfl, rfl, s3.aw, ?_, ?_, s3.la, s3.lp, s3.lt, hok2, hcalm2, z1, z2, z3⟩
          · rw [hN]; exact s3.n
          · rw [hN]; exact s3.c
        case measure => simp [intOf]; omega
    · obtain rfl : ds.length = k := by omega
      have hT := deedT_le ds ds.length
      have hf1 := few.1
      obtain ⟨hl1, hl2⟩ := hcalm.last
      have htk := nTake (by decide) nc 2 (by omega) 6 (by decide) (by decide)
      rw [hl1] at htk
      have hrel0 : RelN (takeP q 2 5).2 [] := fun n => by rw [hl2]; rfl
      obtain ⟨qz, hqz⟩ : ∃ qz, qz = (takeP q 2 5).2 := ⟨_, rfl⟩
      rw [← hqz] at htk hrel0
      have HC := Lib.hid hcalm
      clear hcalm hok nn la hl1 hl2 hqz
      obtain ⟨M, hM⟩ : ∃ M, M = ds.length + deedT (ds.take ds.length) := ⟨_, rfl⟩
      rw [← hM] at zla zlp zlt
      have hM4 : M ≤ 400 := by omega
      clear hM hT hf1
      go_upto_region 45 with (first | (go_at_call 15; refine htk.mono ?_; rintro e w5 ⟨A6, c6, ys, rfl, hy200, ey, col5, x5, n5, l6⟩; have lt5 := lt.ext x5 (by decide) (by decide); have lp5 := lp.ext x5 (by decide) (by decide)) | (at_builtin; refine wl_append2 rfl _ _ _ rfl 256 (.agg #[U8V 0, I64 0, I64 0, I64 0, I64 0, I64 0, I64 0, I64 0, .bool false, .slice none 0 0, I64 0, I64 0, .slice none 0 0, .slice none 0 0, .slice none 0 0, .slice none 0 0, I64 0, I64 0, I64 0, .slice none 0 0]) Try.underlying27 info_let rfl (by decide) rfl lt5.own rfl l6.own.sl (letsC_len _) (letsC_cell _) (by omega) (by unfold maxLen; omega) ?_; intro B' c' w6 hap))
      have a5 := aw.step x5 (by decide)
      obtain ⟨col6, x6, lt6⟩ := LstC.app (by decide) lt5 hap rfl l6.each l6.sz
      have a6 := a5.step x6 (by decide)
      have n6 := n5.ext x6 (by decide) (by decide) (by decide)
      have lp6 := lp5.ext x6 (by decide) (by decide)
      have heq : pu.map LetM.x = (tl ++ ys).map LetM.x := by rw [List.map_append, ey]; exact HC.out.eq
      have hsm := same_lets w6 (fun _ => True) (fun _ => True) Ap B' cp c' pu (tl ++ ys) (lp6.sl.mono (fun _ _ _ => trivial)) (lt6.sl.mono (fun _ _ _ => trivial)) (fun x hx => (lp6.each x hx).mono (fun _ _ _ => trivial)) (fun x hx => (lt6.each x hx).mono (fun _ _ _ => trivial)) lp6.sz (by omega)
      rw [List.length_append, decide_eq_true heq] at hsm
      have hmn := fun w7 (q7 : Nw w6 w7) => nMany (by decide) (n6.nw q7 (by decide)) [] hrel0 (by simp)
      clear heq hap
      go_wp2_with (first | (go_at_call 19; refine hsm.mono ?_; rintro e w7 ⟨rfl, q7⟩) | (go_at_call 20; refine (hmn w7 q7).mono ?_; rintro e w8 ⟨rfl, q8⟩))
      go_ret
      exact ⟨rfl, ((a6.tr q7).tr q8).nw⟩
end Go.Proofs.Ytippdjaakcgeoaa
