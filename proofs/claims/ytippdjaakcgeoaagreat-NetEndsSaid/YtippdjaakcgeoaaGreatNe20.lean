/- Lemmas of the walks: RaB. (Laid together by shake.py.) -/
import Derived.Test.YtippdjaakcgeoaaGreatNe04
import Derived.Test.YtippdjaakcgeoaaGreatNe07
import Derived.Test.YtippdjaakcgeoaaGreatNe13
import Derived.Test.YtippdjaakcgeoaaGreatNe14
import Derived.Test.YtippdjaakcgeoaaGreatNe18
import Derived.Test.YtippdjaakcgeoaaGreatNe19
set_option linter.unusedVariables false
set_option linter.unusedSimpArgs false
namespace Go.Proofs.YtippdjaakcgeoaaGreat
open Go Go.RowKit
set_option linter.unusedVariables false
set_option linter.unusedSimpArgs false

abbrev AcT := Option Addr × Nat × Nat
def tkS1 (V : World) (col : Nat → Nat) (cn gn N : Nat) (p : Nm → List LetF) (d : DeedN) (t : AcT) (w9 : World) : Prop := (fun (t : AcT) w9 => ∃ col1 ys, List.length ys = t.2.1 ∧ ys.map LetM.x = (takeP p d.dst 5).1 ∧ ys.length ≤ 200 ∧ Ext V w9 col col1 cn ∧ NetC w9 col1 cn gn N (takeP p d.dst 5).2 ∧ LstC w9 col1 8 t.1 t.2.2 ys) t w9
def tkS2 (V : World) (col : Nat → Nat) (cn cd gn gd N : Nat) (d : DeedN) (t b : AcT) (w9 : World) : Prop := (fun (t b : AcT) w9 => ∃ (colf : Nat → Nat) (ys zs : List LetM), ys.length = t.2.1 ∧ zs.length = b.2.1 ∧ ys.map LetM.x = zs.map LetM.x ∧ ys.length ≤ 200 ∧ Sl w9 (fun _ => True) t.1 (letsC ys) ∧ Sl w9 (fun _ => True) b.1 (letsC zs) ∧ (∀ y ∈ ys, LetIn w9 (fun _ => True) y ∧ LetSz y) ∧ (∀ z ∈ zs, LetIn w9 (fun _ => True) z) ∧ ExtS (fun c => c = cn ∨ c = cd ∨ c = 9) V w9 col colf ∧ Duo w9 colf cn cd gn gd (N + 1 + d.l.l.length)) t b w9
set_option maxRecDepth 100000 in
set_option maxHeartbeats 16000000 in
theorem act_any (w : World) (col : Nat → Nat) (cn cd gn gd N : Nat) (hcn : cn ≠ 0) (hcd : cd ≠ 0) (hcc : cn ≠ cd) (h9n : cn ≠ 9) (h9d : cd ≠ 9) (h8 : cn ≠ 8) (h8d : cd ≠ 8) (hN : N < 80000000) (h : Duo w col cn cd gn gd N) (hcl : ∀ k, w.heap.size ≤ k → col k = 0) (d : DeedN) (hk : -9223372036854775808 ≤ d.kind ∧ d.kind ≤ 9223372036854775807) (way : NmWf (d.src, d.dst))
    (hsl : Sl w (CB w col 0) d.l.a (letsC d.l.l)) (hlt : ∀ x ∈ d.l.l, LetIn w (CB w col 0) x) (hlz : ∀ x ∈ d.l.l, LetSz x) (hln : d.l.l.length ≤ 10000) :
    Calls Tryz.prog 14 #[.pointer (some ⟨gn, 0, none⟩), .pointer (some ⟨gd, 0, none⟩), .agg (deedNA d)] w fun e w' => e = .returned (.bool true) ∧ ∃ col', ExtS (fun c => c = cn ∨ c = cd ∨ c = 9) w w' col col' ∧ Duo w' col' cn cd gn gd (N + 1 + d.l.l.length) := by
  obtain ⟨p, Lx, hn, hd, hr⟩ := h
  have hok : ∀ n, ∀ x ∈ p n, letOk x = true := fun n => (hn.ok n).1
  have wdst : -9223372036854775808 ≤ d.dst ∧ d.dst ≤ 9223372036854775807 := by
    have := way.2
    simpa [Lit.wf, IntKind.min, IntKind.max, IntKind.signed, IntKind.bits] using this
  obtain ⟨E, hE⟩ : ∃ E, E = w.heap.size := ⟨_, rfl⟩
  obtain ⟨V, hV⟩ : ∃ V, V = w.alloc (.cells #[I64 d.kind, I64 d.src, I64 d.dst, .slice d.l.a d.l.l.length d.l.c] 35) := ⟨_, rfl⟩
  have qV : Nw w V := by rw [hV]; exact (Fr.refl (fun _ => False) _).alloc _
  have sE : Blk V E 35 (deedNA d) := by rw [hV, hE]; exact Blk.new _ _ _
  have cE : col E = 0 := hcl E (by omega)
  have hclV : ∀ k, V.heap.size ≤ k → col k = 0 := fun k hk => hcl k (Nat.le_trans qV.size hk)
  have nV := hn.nw qV hcn
  have dV := hd.nw qV hcd
  have slV : Sl V (CB V col 0) d.l.a (letsC d.l.l) := (hsl.fr qV (fun _ _ h => h)).mono fun k hk hl => ⟨hk.1, hl⟩
  have liV : ∀ x ∈ d.l.l, LetIn V (CB V col 0) x := fun x hx => ((hlt x hx).nw qV).mono fun k hk hl => ⟨hk.1, hl⟩
  have e0 : V.cell? ⟨E, 0, none⟩ = some (I64 d.kind) := by simpa using sE.cell 0
  have e1V : V.cell? ⟨E, 1, none⟩ = some (I64 d.src) := by simpa using sE.cell 1
  have e2V : V.cell? ⟨E, 2, none⟩ = some (I64 d.dst) := by simpa using sE.cell 2
  have e3V : V.cell? ⟨E, 3, none⟩ = some (.slice d.l.a d.l.l.length d.l.c) := by simpa using sE.cell 3
  have hEN : ∀ w9, Nw V w9 → Blk w9 E 35 (deedNA d) := fun w9 q => sE.fr q (fun h => h)
  have HE := Lib.hid hE
  have HV := Lib.hid hV
  have HR := Lib.hid hr
  have HOK := Lib.hid hok
  clear hE hV hr hok hn hd hsl hlt hcl
  go_enter Tryz.func14, Tryz.ntmps14
  go_upto_region 1 with (fail)
  rw [← HE.out, ← HV.out]
  go_upto_region 2 with (go_at_call 11; refine (pick_any _ d.kind 9 (by omega) (by omega) hk).mono ?_; rintro e w3 ⟨⟨kk, hkk, rfl⟩, rfl⟩)
  by_cases k4 : kk = 4
  · subst k4
    cases hp : p (d.src, d.dst) with
    | nil =>
      have hdl : Calls Tryz.prog 21 #[.pointer (some ⟨gn, 0, none⟩), I64 d.src, I64 d.dst] V fun e w' => ∃ x : LetM, x = letMZ ∧ e = .returned (.tuple #[.agg (letA x), .bool false]) ∧ Nw V w' := (nDeliver0 hcn nV d.src d.dst way hp).mono fun e w' h => ⟨letMZ, rfl, h.1, h.2⟩
      go_upto_region 4 with (first | (go_at_call 21; refine hdl.mono ?_; rintro e w4 ⟨x, hxz, rfl, q4⟩; have HXZ := Lib.hid hxz; clear hxz; obtain ⟨D, hD⟩ : ∃ D, D = w4.heap.size := ⟨_, rfl⟩; obtain ⟨T0, hV0⟩ : ∃ V, V = w4.alloc (.cells #[U8V 0, I64 0, I64 0, I64 0, I64 0, I64 0, I64 0, I64 0, .bool false, .slice none 0 0, I64 0, I64 0, .slice none 0 0, .slice none 0 0, .slice none 0 0, .slice none 0 0, I64 0, I64 0, I64 0, .slice none 0 0] 50) := ⟨_, rfl⟩; have q0 : Nw w4 T0 := (by rw [hV0]; exact (Fr.refl (fun _ => False) _).alloc _); have y0 : Blk T0 D 50 #[U8V 0, I64 0, I64 0, I64 0, I64 0, I64 0, I64 0, I64 0, .bool false, .slice none 0 0, I64 0, I64 0, .slice none 0 0, .slice none 0 0, .slice none 0 0, .slice none 0 0, I64 0, I64 0, I64 0, .slice none 0 0] := (by rw [hV0, hD]; exact Blk.new _ _ _); have th := Blk.there (l := [U8V 0, I64 0, I64 0, I64 0, I64 0, I64 0, I64 0, I64 0, .bool false, .slice none 0 0, I64 0, I64 0, .slice none 0 0, .slice none 0 0, .slice none 0 0, .slice none 0 0, I64 0, I64 0, I64 0, .slice none 0 0]) y0 0 20 (by show 0 + 20 ≤ 20; omega); have one := letA_one x; obtain ⟨T1, hV1⟩ : ∃ V, V = T0.setCells D 0 [U8V x.kind, I64 x.group, I64 x.src, I64 x.dst, I64 x.term, I64 x.index, I64 x.logt, I64 x.commit, .bool x.ok, .slice x.ents.a x.ents.l.length x.ents.c, I64 x.base.index, I64 x.base.term, .slice x.base.cfg.v.a x.base.cfg.v.l.length x.base.cfg.v.c, .slice x.base.cfg.o.a x.base.cfg.o.l.length x.base.cfg.o.c, .slice x.base.cfg.l.a x.base.cfg.l.l.length x.base.cfg.l.c, .slice x.base.cfg.w.a x.base.cfg.w.l.length x.base.cfg.w.c, I64 x.size, I64 x.at_, I64 x.tag, .slice x.bytes.a x.bytes.l.length x.bytes.c] := ⟨_, rfl⟩; have yT1 : Blk T1 D 50 #[U8V x.kind, I64 x.group, I64 x.src, I64 x.dst, I64 x.term, I64 x.index, I64 x.logt, I64 x.commit, .bool x.ok, .slice x.ents.a x.ents.l.length x.ents.c, I64 x.base.index, I64 x.base.term, .slice x.base.cfg.v.a x.base.cfg.v.l.length x.base.cfg.v.c, .slice x.base.cfg.o.a x.base.cfg.o.l.length x.base.cfg.o.c, .slice x.base.cfg.l.a x.base.cfg.l.l.length x.base.cfg.l.c, .slice x.base.cfg.w.a x.base.cfg.w.l.length x.base.cfg.w.c, I64 x.size, I64 x.at_, I64 x.tag, .slice x.bytes.a x.bytes.l.length x.bytes.c] := (by rw [hV1]; exact Blk.setCells (l := [U8V 0, I64 0, I64 0, I64 0, I64 0, I64 0, I64 0, I64 0, .bool false, .slice none 0 0, I64 0, I64 0, .slice none 0 0, .slice none 0 0, .slice none 0 0, .slice none 0 0, I64 0, I64 0, I64 0, .slice none 0 0]) y0 0 [U8V x.kind, I64 x.group, I64 x.src, I64 x.dst, I64 x.term, I64 x.index, I64 x.logt, I64 x.commit, .bool x.ok, .slice x.ents.a x.ents.l.length x.ents.c, I64 x.base.index, I64 x.base.term, .slice x.base.cfg.v.a x.base.cfg.v.l.length x.base.cfg.v.c, .slice x.base.cfg.o.a x.base.cfg.o.l.length x.base.cfg.o.c, .slice x.base.cfg.l.a x.base.cfg.l.l.length x.base.cfg.l.c, .slice x.base.cfg.w.a x.base.cfg.w.l.length x.base.cfg.w.c, I64 x.size, I64 x.at_, I64 x.tag, .slice x.bytes.a x.bytes.l.length x.bytes.c]); have m1 : Fr (· = D) T0 T1 := (by rw [hV1]; exact (Fr.refl (· = D) _).setCells _ _); have qT1 : Nw w4 T1 := q0.new m1 (fun b hb => by omega); have HDT1 := Lib.hid hD; have HV0T1 := Lib.hid hV0; have HV1T1 := Lib.hid hV1; clear hD hV0 hV1 m1 q0 y0) | (rw [← HV0T1.out, ← HDT1.out]; refine wpList_store_mid rfl 50 _ _ rfl D 0 #[U8V x.kind, I64 x.group, I64 x.src, I64 x.dst, I64 x.term, I64 x.index, I64 x.logt, I64 x.commit, .bool x.ok, .slice x.ents.a x.ents.l.length x.ents.c, I64 x.base.index, I64 x.base.term, .slice x.base.cfg.v.a x.base.cfg.v.l.length x.base.cfg.v.c, .slice x.base.cfg.o.a x.base.cfg.o.l.length x.base.cfg.o.c, .slice x.base.cfg.l.a x.base.cfg.l.l.length x.base.cfg.l.c, .slice x.base.cfg.w.a x.base.cfg.w.l.length x.base.cfg.w.c, I64 x.size, I64 x.at_, I64 x.tag, .slice x.bytes.a x.bytes.l.length x.bytes.c] rfl rfl th (by kernel_rfl) one ?_; rw [← HV1T1.out]))
      have qT := q4.tr qT1
      have fE : ∀ w9, Nw T1 w9 → Blk w9 E 35 (deedNA d) := fun w9 q => hEN w9 (qT.tr q)
      have dT := dV.nw qT hcd
      have e1T : T1.cell? ⟨E, 1, none⟩ = some (I64 d.src) := by simpa using (fE T1 (Fr.refl _ _)).cell 1
      have e2T : T1.cell? ⟨E, 2, none⟩ = some (I64 d.dst) := by simpa using (fE T1 (Fr.refl _ _)).cell 2
      have hdm : Calls Tryz.prog 53 #[.pointer (some ⟨gd, 0, none⟩), I64 d.src, I64 d.dst] T1 fun e w' => ∃ x : LetM, x = letMZ ∧ e = .returned (.tuple #[.agg (letA x), .bool false]) ∧ Nw T1 w' := (vDeliver0 dT (by omega) d.src d.dst (by rw [← HR.out]; exact hp)).mono fun e w' h => ⟨letMZ, rfl, h.1, h.2⟩
      have hDV : V.heap.size ≤ D := by have := HDT1.out; have := q4.size; omega
      clear th one
      go_upto_region 5 with (first | (go_at_call 53; refine hdm.mono ?_; rintro e w6 ⟨x2, hxz2, rfl, q6⟩; have HXZ2 := Lib.hid hxz2; clear hxz2; obtain ⟨D2, hD⟩ : ∃ D, D = w6.heap.size := ⟨_, rfl⟩; obtain ⟨U0, hV0⟩ : ∃ V, V = w6.alloc (.cells #[U8V 0, I64 0, I64 0, I64 0, I64 0, I64 0, I64 0, I64 0, .bool false, .slice none 0 0, I64 0, I64 0, .slice none 0 0, .slice none 0 0, .slice none 0 0, .slice none 0 0, I64 0, I64 0, I64 0, .slice none 0 0] 50) := ⟨_, rfl⟩; have q0 : Nw w6 U0 := (by rw [hV0]; exact (Fr.refl (fun _ => False) _).alloc _); have y0 : Blk U0 D2 50 #[U8V 0, I64 0, I64 0, I64 0, I64 0, I64 0, I64 0, I64 0, .bool false, .slice none 0 0, I64 0, I64 0, .slice none 0 0, .slice none 0 0, .slice none 0 0, .slice none 0 0, I64 0, I64 0, I64 0, .slice none 0 0] := (by rw [hV0, hD]; exact Blk.new _ _ _); have th := Blk.there (l := [U8V 0, I64 0, I64 0, I64 0, I64 0, I64 0, I64 0, I64 0, .bool false, .slice none 0 0, I64 0, I64 0, .slice none 0 0, .slice none 0 0, .slice none 0 0, .slice none 0 0, I64 0, I64 0, I64 0, .slice none 0 0]) y0 0 20 (by show 0 + 20 ≤ 20; omega); have one := letA_one x2; obtain ⟨U1, hV1⟩ : ∃ V, V = U0.setCells D2 0 [U8V x2.kind, I64 x2.group, I64 x2.src, I64 x2.dst, I64 x2.term, I64 x2.index, I64 x2.logt, I64 x2.commit, .bool x2.ok, .slice x2.ents.a x2.ents.l.length x2.ents.c, I64 x2.base.index, I64 x2.base.term, .slice x2.base.cfg.v.a x2.base.cfg.v.l.length x2.base.cfg.v.c, .slice x2.base.cfg.o.a x2.base.cfg.o.l.length x2.base.cfg.o.c, .slice x2.base.cfg.l.a x2.base.cfg.l.l.length x2.base.cfg.l.c, .slice x2.base.cfg.w.a x2.base.cfg.w.l.length x2.base.cfg.w.c, I64 x2.size, I64 x2.at_, I64 x2.tag, .slice x2.bytes.a x2.bytes.l.length x2.bytes.c] := ⟨_, rfl⟩; have yU1 : Blk U1 D2 50 #[U8V x2.kind, I64 x2.group, I64 x2.src, I64 x2.dst, I64 x2.term, I64 x2.index, I64 x2.logt, I64 x2.commit, .bool x2.ok, .slice x2.ents.a x2.ents.l.length x2.ents.c, I64 x2.base.index, I64 x2.base.term, .slice x2.base.cfg.v.a x2.base.cfg.v.l.length x2.base.cfg.v.c, .slice x2.base.cfg.o.a x2.base.cfg.o.l.length x2.base.cfg.o.c, .slice x2.base.cfg.l.a x2.base.cfg.l.l.length x2.base.cfg.l.c, .slice x2.base.cfg.w.a x2.base.cfg.w.l.length x2.base.cfg.w.c, I64 x2.size, I64 x2.at_, I64 x2.tag, .slice x2.bytes.a x2.bytes.l.length x2.bytes.c] := (by rw [hV1]; exact Blk.setCells (l := [U8V 0, I64 0, I64 0, I64 0, I64 0, I64 0, I64 0, I64 0, .bool false, .slice none 0 0, I64 0, I64 0, .slice none 0 0, .slice none 0 0, .slice none 0 0, .slice none 0 0, I64 0, I64 0, I64 0, .slice none 0 0]) y0 0 [U8V x2.kind, I64 x2.group, I64 x2.src, I64 x2.dst, I64 x2.term, I64 x2.index, I64 x2.logt, I64 x2.commit, .bool x2.ok, .slice x2.ents.a x2.ents.l.length x2.ents.c, I64 x2.base.index, I64 x2.base.term, .slice x2.base.cfg.v.a x2.base.cfg.v.l.length x2.base.cfg.v.c, .slice x2.base.cfg.o.a x2.base.cfg.o.l.length x2.base.cfg.o.c, .slice x2.base.cfg.l.a x2.base.cfg.l.l.length x2.base.cfg.l.c, .slice x2.base.cfg.w.a x2.base.cfg.w.l.length x2.base.cfg.w.c, I64 x2.size, I64 x2.at_, I64 x2.tag, .slice x2.bytes.a x2.bytes.l.length x2.bytes.c]); have m1 : Fr (· = D2) U0 U1 := (by rw [hV1]; exact (Fr.refl (· = D2) _).setCells _ _); have qU1 : Nw w6 U1 := q0.new m1 (fun b hb => by omega); have HDU1 := Lib.hid hD; have HV0U1 := Lib.hid hV0; have HV1U1 := Lib.hid hV1; clear hD hV0 hV1 m1 q0 y0) | (rw [← HV0U1.out, ← HDU1.out]; refine wpList_store_mid rfl 50 _ _ rfl D2 0 #[U8V x2.kind, I64 x2.group, I64 x2.src, I64 x2.dst, I64 x2.term, I64 x2.index, I64 x2.logt, I64 x2.commit, .bool x2.ok, .slice x2.ents.a x2.ents.l.length x2.ents.c, I64 x2.base.index, I64 x2.base.term, .slice x2.base.cfg.v.a x2.base.cfg.v.l.length x2.base.cfg.v.c, .slice x2.base.cfg.o.a x2.base.cfg.o.l.length x2.base.cfg.o.c, .slice x2.base.cfg.l.a x2.base.cfg.l.l.length x2.base.cfg.l.c, .slice x2.base.cfg.w.a x2.base.cfg.w.l.length x2.base.cfg.w.c, I64 x2.size, I64 x2.at_, I64 x2.tag, .slice x2.bytes.a x2.bytes.l.length x2.bytes.c] rfl rfl th (by kernel_rfl) one ?_; rw [← HV1U1.out]))
      have yD := yT1.fr (q6.tr qU1) (fun h => h)
      have hsm := same_let U1 (fun _ => True) (fun _ => True) x x2 (by rw [HXZ.out]; exact LetIn.zero _ _) (by rw [HXZ2.out]; exact LetIn.zero _ _) (by rw [HXZ.out]; exact LetSz.zero)
      rw [decide_eq_true (by rw [HXZ.out, HXZ2.out])] at hsm
      have lD : ∀ p u, ([U8V x.kind, I64 x.group, I64 x.src, I64 x.dst, I64 x.term, I64 x.index, I64 x.logt, I64 x.commit, .bool x.ok, .slice x.ents.a x.ents.l.length x.ents.c, I64 x.base.index, I64 x.base.term, .slice x.base.cfg.v.a x.base.cfg.v.l.length x.base.cfg.v.c, .slice x.base.cfg.o.a x.base.cfg.o.l.length x.base.cfg.o.c, .slice x.base.cfg.l.a x.base.cfg.l.l.length x.base.cfg.l.c, .slice x.base.cfg.w.a x.base.cfg.w.l.length x.base.cfg.w.c, I64 x.size, I64 x.at_, I64 x.tag, .slice x.bytes.a x.bytes.l.length x.bytes.c] : List Value)[p]? = some u → U1.cell? ⟨D, 0 + p, none⟩ = some u := Blk.cells_at (l := [U8V x.kind, I64 x.group, I64 x.src, I64 x.dst, I64 x.term, I64 x.index, I64 x.logt, I64 x.commit, .bool x.ok, .slice x.ents.a x.ents.l.length x.ents.c, I64 x.base.index, I64 x.base.term, .slice x.base.cfg.v.a x.base.cfg.v.l.length x.base.cfg.v.c, .slice x.base.cfg.o.a x.base.cfg.o.l.length x.base.cfg.o.c, .slice x.base.cfg.l.a x.base.cfg.l.l.length x.base.cfg.l.c, .slice x.base.cfg.w.a x.base.cfg.w.l.length x.base.cfg.w.c, I64 x.size, I64 x.at_, I64 x.tag, .slice x.bytes.a x.bytes.l.length x.bytes.c]) yD 0
      have lD2 : ∀ p u, ([U8V x2.kind, I64 x2.group, I64 x2.src, I64 x2.dst, I64 x2.term, I64 x2.index, I64 x2.logt, I64 x2.commit, .bool x2.ok, .slice x2.ents.a x2.ents.l.length x2.ents.c, I64 x2.base.index, I64 x2.base.term, .slice x2.base.cfg.v.a x2.base.cfg.v.l.length x2.base.cfg.v.c, .slice x2.base.cfg.o.a x2.base.cfg.o.l.length x2.base.cfg.o.c, .slice x2.base.cfg.l.a x2.base.cfg.l.l.length x2.base.cfg.l.c, .slice x2.base.cfg.w.a x2.base.cfg.w.l.length x2.base.cfg.w.c, I64 x2.size, I64 x2.at_, I64 x2.tag, .slice x2.bytes.a x2.bytes.l.length x2.bytes.c] : List Value)[p]? = some u → U1.cell? ⟨D2, 0 + p, none⟩ = some u := Blk.cells_at (l := [U8V x2.kind, I64 x2.group, I64 x2.src, I64 x2.dst, I64 x2.term, I64 x2.index, I64 x2.logt, I64 x2.commit, .bool x2.ok, .slice x2.ents.a x2.ents.l.length x2.ents.c, I64 x2.base.index, I64 x2.base.term, .slice x2.base.cfg.v.a x2.base.cfg.v.l.length x2.base.cfg.v.c, .slice x2.base.cfg.o.a x2.base.cfg.o.l.length x2.base.cfg.o.c, .slice x2.base.cfg.l.a x2.base.cfg.l.l.length x2.base.cfg.l.c, .slice x2.base.cfg.w.a x2.base.cfg.w.l.length x2.base.cfg.w.c, I64 x2.size, I64 x2.at_, I64 x2.tag, .slice x2.bytes.a x2.bytes.l.length x2.bytes.c]) yU1 0
      clear th one
      go_wp2_with (first | (refine wl_cells_want (by kernel_rfl) 50 _ rfl D 0 rfl _ _ lD Tryz.underlying50 rfl (by kernel_rfl) ?_) | (refine wl_cells_want (by kernel_rfl) 50 _ rfl D2 0 rfl _ _ lD2 Tryz.underlying50 rfl (by kernel_rfl) ?_) | (go_at_call 38; refine hsm.mono ?_; rintro e w8 ⟨rfl, q8⟩))
      go_ret
      have Q := (q4.tr qT1).tr ((q6.tr qU1).tr q8)
      exact ⟨rfl, col, ExtS.nw (qV.tr Q) _ _, p, Lx, (nV.nw Q hcn).more (by omega), (dV.nw Q hcd).more (by omega), HR.out⟩
    | cons y l =>
      have hdl := nDeliver1 hcn nV (by omega) d.src d.dst way hp
      go_upto_region 4 with (first | (go_at_call 21; refine hdl.mono ?_; rintro e w4 ⟨x, rfl, ex, i4, z4, x4, n4⟩; obtain ⟨D, hD⟩ : ∃ D, D = w4.heap.size := ⟨_, rfl⟩; obtain ⟨T0, hV0⟩ : ∃ V, V = w4.alloc (.cells #[U8V 0, I64 0, I64 0, I64 0, I64 0, I64 0, I64 0, I64 0, .bool false, .slice none 0 0, I64 0, I64 0, .slice none 0 0, .slice none 0 0, .slice none 0 0, .slice none 0 0, I64 0, I64 0, I64 0, .slice none 0 0] 50) := ⟨_, rfl⟩; have q0 : Nw w4 T0 := (by rw [hV0]; exact (Fr.refl (fun _ => False) _).alloc _); have y0 : Blk T0 D 50 #[U8V 0, I64 0, I64 0, I64 0, I64 0, I64 0, I64 0, I64 0, .bool false, .slice none 0 0, I64 0, I64 0, .slice none 0 0, .slice none 0 0, .slice none 0 0, .slice none 0 0, I64 0, I64 0, I64 0, .slice none 0 0] := (by rw [hV0, hD]; exact Blk.new _ _ _); have th := Blk.there (l := [U8V 0, I64 0, I64 0, I64 0, I64 0, I64 0, I64 0, I64 0, .bool false, .slice none 0 0, I64 0, I64 0, .slice none 0 0, .slice none 0 0, .slice none 0 0, .slice none 0 0, I64 0, I64 0, I64 0, .slice none 0 0]) y0 0 20 (by show 0 + 20 ≤ 20; omega); have one := letA_one x; obtain ⟨T1, hV1⟩ : ∃ V, V = T0.setCells D 0 [U8V x.kind, I64 x.group, I64 x.src, I64 x.dst, I64 x.term, I64 x.index, I64 x.logt, I64 x.commit, .bool x.ok, .slice x.ents.a x.ents.l.length x.ents.c, I64 x.base.index, I64 x.base.term, .slice x.base.cfg.v.a x.base.cfg.v.l.length x.base.cfg.v.c, .slice x.base.cfg.o.a x.base.cfg.o.l.length x.base.cfg.o.c, .slice x.base.cfg.l.a x.base.cfg.l.l.length x.base.cfg.l.c, .slice x.base.cfg.w.a x.base.cfg.w.l.length x.base.cfg.w.c, I64 x.size, I64 x.at_, I64 x.tag, .slice x.bytes.a x.bytes.l.length x.bytes.c] := ⟨_, rfl⟩; have yT1 : Blk T1 D 50 #[U8V x.kind, I64 x.group, I64 x.src, I64 x.dst, I64 x.term, I64 x.index, I64 x.logt, I64 x.commit, .bool x.ok, .slice x.ents.a x.ents.l.length x.ents.c, I64 x.base.index, I64 x.base.term, .slice x.base.cfg.v.a x.base.cfg.v.l.length x.base.cfg.v.c, .slice x.base.cfg.o.a x.base.cfg.o.l.length x.base.cfg.o.c, .slice x.base.cfg.l.a x.base.cfg.l.l.length x.base.cfg.l.c, .slice x.base.cfg.w.a x.base.cfg.w.l.length x.base.cfg.w.c, I64 x.size, I64 x.at_, I64 x.tag, .slice x.bytes.a x.bytes.l.length x.bytes.c] := (by rw [hV1]; exact Blk.setCells (l := [U8V 0, I64 0, I64 0, I64 0, I64 0, I64 0, I64 0, I64 0, .bool false, .slice none 0 0, I64 0, I64 0, .slice none 0 0, .slice none 0 0, .slice none 0 0, .slice none 0 0, I64 0, I64 0, I64 0, .slice none 0 0]) y0 0 [U8V x.kind, I64 x.group, I64 x.src, I64 x.dst, I64 x.term, I64 x.index, I64 x.logt, I64 x.commit, .bool x.ok, .slice x.ents.a x.ents.l.length x.ents.c, I64 x.base.index, I64 x.base.term, .slice x.base.cfg.v.a x.base.cfg.v.l.length x.base.cfg.v.c, .slice x.base.cfg.o.a x.base.cfg.o.l.length x.base.cfg.o.c, .slice x.base.cfg.l.a x.base.cfg.l.l.length x.base.cfg.l.c, .slice x.base.cfg.w.a x.base.cfg.w.l.length x.base.cfg.w.c, I64 x.size, I64 x.at_, I64 x.tag, .slice x.bytes.a x.bytes.l.length x.bytes.c]); have m1 : Fr (· = D) T0 T1 := (by rw [hV1]; exact (Fr.refl (· = D) _).setCells _ _); have qT1 : Nw w4 T1 := q0.new m1 (fun b hb => by omega); have HDT1 := Lib.hid hD; have HV0T1 := Lib.hid hV0; have HV1T1 := Lib.hid hV1; clear hD hV0 hV1 m1 q0 y0) | (rw [← HV0T1.out, ← HDT1.out]; refine wpList_store_mid rfl 50 _ _ rfl D 0 #[U8V x.kind, I64 x.group, I64 x.src, I64 x.dst, I64 x.term, I64 x.index, I64 x.logt, I64 x.commit, .bool x.ok, .slice x.ents.a x.ents.l.length x.ents.c, I64 x.base.index, I64 x.base.term, .slice x.base.cfg.v.a x.base.cfg.v.l.length x.base.cfg.v.c, .slice x.base.cfg.o.a x.base.cfg.o.l.length x.base.cfg.o.c, .slice x.base.cfg.l.a x.base.cfg.l.l.length x.base.cfg.l.c, .slice x.base.cfg.w.a x.base.cfg.w.l.length x.base.cfg.w.c, I64 x.size, I64 x.at_, I64 x.tag, .slice x.bytes.a x.bytes.l.length x.bytes.c] rfl rfl th (by kernel_rfl) one ?_; rw [← HV1T1.out]))
      have e4 := ExtS.tr (x4.s (D := fun c => c = cn ∨ c = cd ∨ c = 9) (.inl rfl)) (ExtS.nw qT1 col _)
      have hE4 := (blk_exts sE cE e4 (fun e => by rcases e with e | e | e <;> omega)).1
      have fE : ∀ w9, Nw T1 w9 → Blk w9 E 35 (deedNA d) := fun w9 q => hE4.fr q (fun h => h)
      have dT := (dV.ext x4 hcd (fun e => hcc e.symm) hcn).nw qT1 hcd
      have e1T : T1.cell? ⟨E, 1, none⟩ = some (I64 d.src) := by simpa using (fE T1 (Fr.refl _ _)).cell 1
      have e2T : T1.cell? ⟨E, 2, none⟩ = some (I64 d.dst) := by simpa using (fE T1 (Fr.refl _ _)).cell 2
      have hdm := vDeliver1 hcd dT (by omega) d.src d.dst (by rw [← HR.out]; exact hp)
      have hDV : V.heap.size ≤ D := by have := HDT1.out; have := x4.size; omega
      clear th one
      go_upto_region 5 with (first | (go_at_call 53; refine hdm.mono ?_; rintro e w6 ⟨x2, col6, rfl, ex2, i6, z6, x6, d6⟩; obtain ⟨D2, hD⟩ : ∃ D, D = w6.heap.size := ⟨_, rfl⟩; obtain ⟨U0, hV0⟩ : ∃ V, V = w6.alloc (.cells #[U8V 0, I64 0, I64 0, I64 0, I64 0, I64 0, I64 0, I64 0, .bool false, .slice none 0 0, I64 0, I64 0, .slice none 0 0, .slice none 0 0, .slice none 0 0, .slice none 0 0, I64 0, I64 0, I64 0, .slice none 0 0] 50) := ⟨_, rfl⟩; have q0 : Nw w6 U0 := (by rw [hV0]; exact (Fr.refl (fun _ => False) _).alloc _); have y0 : Blk U0 D2 50 #[U8V 0, I64 0, I64 0, I64 0, I64 0, I64 0, I64 0, I64 0, .bool false, .slice none 0 0, I64 0, I64 0, .slice none 0 0, .slice none 0 0, .slice none 0 0, .slice none 0 0, I64 0, I64 0, I64 0, .slice none 0 0] := (by rw [hV0, hD]; exact Blk.new _ _ _); have th := Blk.there (l := [U8V 0, I64 0, I64 0, I64 0, I64 0, I64 0, I64 0, I64 0, .bool false, .slice none 0 0, I64 0, I64 0, .slice none 0 0, .slice none 0 0, .slice none 0 0, .slice none 0 0, I64 0, I64 0, I64 0, .slice none 0 0]) y0 0 20 (by show 0 + 20 ≤ 20; omega); have one := letA_one x2; obtain ⟨U1, hV1⟩ : ∃ V, V = U0.setCells D2 0 [U8V x2.kind, I64 x2.group, I64 x2.src, I64 x2.dst, I64 x2.term, I64 x2.index, I64 x2.logt, I64 x2.commit, .bool x2.ok, .slice x2.ents.a x2.ents.l.length x2.ents.c, I64 x2.base.index, I64 x2.base.term, .slice x2.base.cfg.v.a x2.base.cfg.v.l.length x2.base.cfg.v.c, .slice x2.base.cfg.o.a x2.base.cfg.o.l.length x2.base.cfg.o.c, .slice x2.base.cfg.l.a x2.base.cfg.l.l.length x2.base.cfg.l.c, .slice x2.base.cfg.w.a x2.base.cfg.w.l.length x2.base.cfg.w.c, I64 x2.size, I64 x2.at_, I64 x2.tag, .slice x2.bytes.a x2.bytes.l.length x2.bytes.c] := ⟨_, rfl⟩; have yU1 : Blk U1 D2 50 #[U8V x2.kind, I64 x2.group, I64 x2.src, I64 x2.dst, I64 x2.term, I64 x2.index, I64 x2.logt, I64 x2.commit, .bool x2.ok, .slice x2.ents.a x2.ents.l.length x2.ents.c, I64 x2.base.index, I64 x2.base.term, .slice x2.base.cfg.v.a x2.base.cfg.v.l.length x2.base.cfg.v.c, .slice x2.base.cfg.o.a x2.base.cfg.o.l.length x2.base.cfg.o.c, .slice x2.base.cfg.l.a x2.base.cfg.l.l.length x2.base.cfg.l.c, .slice x2.base.cfg.w.a x2.base.cfg.w.l.length x2.base.cfg.w.c, I64 x2.size, I64 x2.at_, I64 x2.tag, .slice x2.bytes.a x2.bytes.l.length x2.bytes.c] := (by rw [hV1]; exact Blk.setCells (l := [U8V 0, I64 0, I64 0, I64 0, I64 0, I64 0, I64 0, I64 0, .bool false, .slice none 0 0, I64 0, I64 0, .slice none 0 0, .slice none 0 0, .slice none 0 0, .slice none 0 0, I64 0, I64 0, I64 0, .slice none 0 0]) y0 0 [U8V x2.kind, I64 x2.group, I64 x2.src, I64 x2.dst, I64 x2.term, I64 x2.index, I64 x2.logt, I64 x2.commit, .bool x2.ok, .slice x2.ents.a x2.ents.l.length x2.ents.c, I64 x2.base.index, I64 x2.base.term, .slice x2.base.cfg.v.a x2.base.cfg.v.l.length x2.base.cfg.v.c, .slice x2.base.cfg.o.a x2.base.cfg.o.l.length x2.base.cfg.o.c, .slice x2.base.cfg.l.a x2.base.cfg.l.l.length x2.base.cfg.l.c, .slice x2.base.cfg.w.a x2.base.cfg.w.l.length x2.base.cfg.w.c, I64 x2.size, I64 x2.at_, I64 x2.tag, .slice x2.bytes.a x2.bytes.l.length x2.bytes.c]); have m1 : Fr (· = D2) U0 U1 := (by rw [hV1]; exact (Fr.refl (· = D2) _).setCells _ _); have qU1 : Nw w6 U1 := q0.new m1 (fun b hb => by omega); have HDU1 := Lib.hid hD; have HV0U1 := Lib.hid hV0; have HV1U1 := Lib.hid hV1; clear hD hV0 hV1 m1 q0 y0) | (rw [← HV0U1.out, ← HDU1.out]; refine wpList_store_mid rfl 50 _ _ rfl D2 0 #[U8V x2.kind, I64 x2.group, I64 x2.src, I64 x2.dst, I64 x2.term, I64 x2.index, I64 x2.logt, I64 x2.commit, .bool x2.ok, .slice x2.ents.a x2.ents.l.length x2.ents.c, I64 x2.base.index, I64 x2.base.term, .slice x2.base.cfg.v.a x2.base.cfg.v.l.length x2.base.cfg.v.c, .slice x2.base.cfg.o.a x2.base.cfg.o.l.length x2.base.cfg.o.c, .slice x2.base.cfg.l.a x2.base.cfg.l.l.length x2.base.cfg.l.c, .slice x2.base.cfg.w.a x2.base.cfg.w.l.length x2.base.cfg.w.c, I64 x2.size, I64 x2.at_, I64 x2.tag, .slice x2.bytes.a x2.bytes.l.length x2.bytes.c] rfl rfl th (by kernel_rfl) one ?_; rw [← HV1U1.out]))
      have e6 := ExtS.tr (x6.s (D := fun c => c = cn ∨ c = cd ∨ c = 9) (.inr (.inl rfl))) (ExtS.nw qU1 col6 _)
      have yD := (blk_exts yT1 (hclV D hDV) e6 (fun e => by rcases e with e | e | e <;> omega)).1
      have iT := (((i4.nw qT1).fr x6.fr (fun k hk hh => hcd (hh.1.symm.trans hk.1))).nw qU1).mono (F' := fun _ => True) (fun _ _ _ => trivial)
      have iU := (i6.nw qU1).mono (F' := fun _ => True) (fun _ _ _ => trivial)
      have hsm := same_let U1 (fun _ => True) (fun _ => True) x x2 iT iU z4
      rw [decide_eq_true (by rw [ex, ex2])] at hsm
      have lD : ∀ p u, ([U8V x.kind, I64 x.group, I64 x.src, I64 x.dst, I64 x.term, I64 x.index, I64 x.logt, I64 x.commit, .bool x.ok, .slice x.ents.a x.ents.l.length x.ents.c, I64 x.base.index, I64 x.base.term, .slice x.base.cfg.v.a x.base.cfg.v.l.length x.base.cfg.v.c, .slice x.base.cfg.o.a x.base.cfg.o.l.length x.base.cfg.o.c, .slice x.base.cfg.l.a x.base.cfg.l.l.length x.base.cfg.l.c, .slice x.base.cfg.w.a x.base.cfg.w.l.length x.base.cfg.w.c, I64 x.size, I64 x.at_, I64 x.tag, .slice x.bytes.a x.bytes.l.length x.bytes.c] : List Value)[p]? = some u → U1.cell? ⟨D, 0 + p, none⟩ = some u := Blk.cells_at (l := [U8V x.kind, I64 x.group, I64 x.src, I64 x.dst, I64 x.term, I64 x.index, I64 x.logt, I64 x.commit, .bool x.ok, .slice x.ents.a x.ents.l.length x.ents.c, I64 x.base.index, I64 x.base.term, .slice x.base.cfg.v.a x.base.cfg.v.l.length x.base.cfg.v.c, .slice x.base.cfg.o.a x.base.cfg.o.l.length x.base.cfg.o.c, .slice x.base.cfg.l.a x.base.cfg.l.l.length x.base.cfg.l.c, .slice x.base.cfg.w.a x.base.cfg.w.l.length x.base.cfg.w.c, I64 x.size, I64 x.at_, I64 x.tag, .slice x.bytes.a x.bytes.l.length x.bytes.c]) yD 0
      have lD2 : ∀ p u, ([U8V x2.kind, I64 x2.group, I64 x2.src, I64 x2.dst, I64 x2.term, I64 x2.index, I64 x2.logt, I64 x2.commit, .bool x2.ok, .slice x2.ents.a x2.ents.l.length x2.ents.c, I64 x2.base.index, I64 x2.base.term, .slice x2.base.cfg.v.a x2.base.cfg.v.l.length x2.base.cfg.v.c, .slice x2.base.cfg.o.a x2.base.cfg.o.l.length x2.base.cfg.o.c, .slice x2.base.cfg.l.a x2.base.cfg.l.l.length x2.base.cfg.l.c, .slice x2.base.cfg.w.a x2.base.cfg.w.l.length x2.base.cfg.w.c, I64 x2.size, I64 x2.at_, I64 x2.tag, .slice x2.bytes.a x2.bytes.l.length x2.bytes.c] : List Value)[p]? = some u → U1.cell? ⟨D2, 0 + p, none⟩ = some u := Blk.cells_at (l := [U8V x2.kind, I64 x2.group, I64 x2.src, I64 x2.dst, I64 x2.term, I64 x2.index, I64 x2.logt, I64 x2.commit, .bool x2.ok, .slice x2.ents.a x2.ents.l.length x2.ents.c, I64 x2.base.index, I64 x2.base.term, .slice x2.base.cfg.v.a x2.base.cfg.v.l.length x2.base.cfg.v.c, .slice x2.base.cfg.o.a x2.base.cfg.o.l.length x2.base.cfg.o.c, .slice x2.base.cfg.l.a x2.base.cfg.l.l.length x2.base.cfg.l.c, .slice x2.base.cfg.w.a x2.base.cfg.w.l.length x2.base.cfg.w.c, I64 x2.size, I64 x2.at_, I64 x2.tag, .slice x2.bytes.a x2.bytes.l.length x2.bytes.c]) yU1 0
      clear th one
      go_wp2_with (first | (refine wl_cells_want (by kernel_rfl) 50 _ rfl D 0 rfl _ _ lD Tryz.underlying50 rfl (by kernel_rfl) ?_) | (refine wl_cells_want (by kernel_rfl) 50 _ rfl D2 0 rfl _ _ lD2 Tryz.underlying50 rfl (by kernel_rfl) ?_) | (go_at_call 38; refine hsm.mono ?_; rintro e w8 ⟨rfl, q8⟩))
      go_ret
      have e8 := e6.tr (ExtS.nw q8 col6 _)
      exact ⟨rfl, col6, (ExtS.nw qV col _).tr (e4.tr e8), _, _, (((n4.nw qT1 hcn).ext x6 hcn hcc hcd).nw (qU1.tr q8) hcn).more (by omega), (d6.nw (qU1.tr q8) hcd).more (by omega), relN_set HR.out _ _ (fun z hz => relN_on HR.out (n := (d.src, d.dst)) (by rw [hp]; exact List.mem_cons_of_mem _ hz))⟩
  by_cases k5 : kk = 5
  · subst k5
    go_upto_region 7 with (fail)
    cases hp : p (d.src, d.dst) with
    | nil =>
      have hr := HR.out
      have hok := HOK.out
      have hE1 : ∀ (t : AcT) w9, (fun (t : AcT) w9 => ∃ col1, Ext V w9 col col1 cn ∧ NetC w9 col1 cn gn N p ∧ Nw V w9) t w9 → Blk w9 E 35 (deedNA d) := fun t w9 hh => by
          obtain ⟨col1, x1, _⟩ := hh
          exact (blk_exts sE cE (x1.s (D := (· = cn)) rfl) (fun e => hcn e.symm)).1
      have hE2 : ∀ (t b : AcT) w9, (fun (t b : AcT) w9 => ∃ colf, ExtS (fun c => c = cn ∨ c = cd ∨ c = 9) V w9 col colf ∧ Duo w9 colf cn cd gn gd (N + 1 + d.l.l.length)) t b w9 → Blk w9 E 35 (deedNA d) := fun t b w9 hh => by
          obtain ⟨colf, xf, _⟩ := hh
          exact (blk_exts sE cE xf (fun e => by rcases e with e | e | e <;> omega)).1
      have hE3 := hE2
      refine wp_region_appT (T := AcT) 5 11 12 13 (fun w9 => Nw V w9) (fun (t : AcT) w9 => ∃ col1, Ext V w9 col col1 cn ∧ NetC w9 col1 cn gn N p ∧ Nw V w9) (fun (t b : AcT) w9 => ∃ colf, ExtS (fun c => c = cn ∨ c = cd ∨ c = 9) V w9 col colf ∧ Duo w9 colf cn cd gn gd (N + 1 + d.l.l.length)) (fun (t b : AcT) w9 => ∃ colf, ExtS (fun c => c = cn ∨ c = cd ∨ c = 9) V w9 col colf ∧ Duo w9 colf cn cd gn gd (N + 1 + d.l.l.length)) (fun (t b : AcT) w9 => ∃ colf, ExtS (fun c => c = cn ∨ c = cd ∨ c = 9) V w9 col colf ∧ Duo w9 colf cn cd gn gd (N + 1 + d.l.l.length)) (fun _ => (none, 0, 0)) (by kernel_rfl) (by kernel_rfl) ((Fr.refl (fun _ => False) V).drew) ?_
      apply wpEffT_cons
      focus
        intro B L w9 hL hD hC
        refine .inl ⟨by rfl, ?_⟩
        unfold effAt
        go_simp
        exact ⟨rfl, hC.keep (by kernel_rfl) hD (by rfl) (by rfl) (by rfl) (by rfl)⟩
      simp only [Act.put, List.setIfInBounds_toArray, List.set_cons_zero, List.set_cons_succ]
      apply wpEffT_cons
      focus
        intro B L w9 hL hD hC
        refine .inl ⟨by rfl, ?_⟩
        unfold effAt
        go_simp
        exact ⟨rfl, hC.keep (by kernel_rfl) hD (by rfl) (by rfl) (by rfl) (by rfl)⟩
      simp only [Act.put, List.setIfInBounds_toArray, List.set_cons_zero, List.set_cons_succ]
      apply wpEffT_cons
      focus
        intro B L w9 hL hD hC
        have hE9 : Blk w9 E 35 (deedNA d) := hC.all (fun h => hEN w9 h) (fun a h => hE1 a w9 h) (fun a b h => hE2 a b w9 h) (fun a b h => hE3 a b w9 h) (fun a b h => hE3 a b w9 h)
        have e1 : w9.cell? ⟨E, 1, none⟩ = some (I64 d.src) := by simpa using hE9.cell 1
        have e2 : w9.cell? ⟨E, 2, none⟩ = some (I64 d.dst) := by simpa using hE9.cell 2
        have e3 : w9.cell? ⟨E, 3, none⟩ = some (.slice d.l.a d.l.l.length d.l.c) := by simpa using hE9.cell 3
        refine .inl ⟨by rfl, ?_⟩
        unfold effAt
        go_simp
        exact ⟨rfl, hC.keep (by kernel_rfl) hD (by rfl) (by rfl) (by rfl) (by rfl)⟩
      simp only [Act.put, List.setIfInBounds_toArray, List.set_cons_zero, List.set_cons_succ]
      apply wpEffT_cons
      focus
        intro B L w9 hL hD hC
        refine .inl ⟨by rfl, ?_⟩
        unfold effAt
        go_simp
        exact ⟨rfl, hC.keep (by kernel_rfl) hD (by rfl) (by rfl) (by rfl) (by rfl)⟩
      simp only [Act.put, List.setIfInBounds_toArray, List.set_cons_zero, List.set_cons_succ]
      apply wpEffT_cons
      focus
        intro B L w9 hL hD hC
        have hE9 : Blk w9 E 35 (deedNA d) := hC.all (fun h => hEN w9 h) (fun a h => hE1 a w9 h) (fun a b h => hE2 a b w9 h) (fun a b h => hE3 a b w9 h) (fun a b h => hE3 a b w9 h)
        have e1 : w9.cell? ⟨E, 1, none⟩ = some (I64 d.src) := by simpa using hE9.cell 1
        have e2 : w9.cell? ⟨E, 2, none⟩ = some (I64 d.dst) := by simpa using hE9.cell 2
        have e3 : w9.cell? ⟨E, 3, none⟩ = some (.slice d.l.a d.l.l.length d.l.c) := by simpa using hE9.cell 3
        refine .inl ⟨by rfl, ?_⟩
        unfold effAt
        go_simp
        exact ⟨rfl, hC.keep (by kernel_rfl) hD (by rfl) (by rfl) (by rfl) (by rfl)⟩
      simp only [Act.put, List.setIfInBounds_toArray, List.set_cons_zero, List.set_cons_succ]
      refine wpEffT_free (fun _ => .bool false) ?_ ?_
      focus
        intro B L w9 hL hD hC
        obtain ⟨h1, h2⟩ := hC.call hL (by kernel_rfl) (by kernel_rfl) (by kernel_rfl) (by kernel_rfl) hD (by rfl) (by rfl) (by rfl)
        refine .inl ⟨by rfl, ?_⟩
        unfold effAtT
        go_simp
        refine (nLose0 hcn (nV.nw h1 hcn) d.src d.dst way hp).mono ?_
        rintro e w8 ⟨rfl, q8⟩
        exact ⟨(none, 0, 0), rfl, h2 _ _ (⟨col, Ext.nw (h1.tr q8) _ _, nV.nw (h1.tr q8) hcn, h1.tr q8⟩)⟩
      simp only [Act.put, List.setIfInBounds_toArray, List.set_cons_zero, List.set_cons_succ]
      apply wpEffT_cons
      focus
        intro B L w9 hL hD hC
        refine .inl ⟨by rfl, ?_⟩
        unfold effAt
        go_simp
        exact ⟨rfl, hC.keep (by kernel_rfl) hD (by rfl) (by rfl) (by rfl) (by rfl)⟩
      simp only [Act.put, List.setIfInBounds_toArray, List.set_cons_zero, List.set_cons_succ]
      apply wpEffT_cons
      focus
        intro B L w9 hL hD hC
        refine .inl ⟨by rfl, ?_⟩
        unfold effAt
        go_simp
        exact ⟨rfl, hC.keep (by kernel_rfl) hD (by rfl) (by rfl) (by rfl) (by rfl)⟩
      simp only [Act.put, List.setIfInBounds_toArray, List.set_cons_zero, List.set_cons_succ]
      apply wpEffT_cons
      focus
        intro B L w9 hL hD hC
        have hE9 : Blk w9 E 35 (deedNA d) := hC.all (fun h => hEN w9 h) (fun a h => hE1 a w9 h) (fun a b h => hE2 a b w9 h) (fun a b h => hE3 a b w9 h) (fun a b h => hE3 a b w9 h)
        have e1 : w9.cell? ⟨E, 1, none⟩ = some (I64 d.src) := by simpa using hE9.cell 1
        have e2 : w9.cell? ⟨E, 2, none⟩ = some (I64 d.dst) := by simpa using hE9.cell 2
        have e3 : w9.cell? ⟨E, 3, none⟩ = some (.slice d.l.a d.l.l.length d.l.c) := by simpa using hE9.cell 3
        refine .inl ⟨by rfl, ?_⟩
        unfold effAt
        go_simp
        exact ⟨rfl, hC.keep (by kernel_rfl) hD (by rfl) (by rfl) (by rfl) (by rfl)⟩
      simp only [Act.put, List.setIfInBounds_toArray, List.set_cons_zero, List.set_cons_succ]
      apply wpEffT_cons
      focus
        intro B L w9 hL hD hC
        refine .inl ⟨by rfl, ?_⟩
        unfold effAt
        go_simp
        exact ⟨rfl, hC.keep (by kernel_rfl) hD (by rfl) (by rfl) (by rfl) (by rfl)⟩
      simp only [Act.put, List.setIfInBounds_toArray, List.set_cons_zero, List.set_cons_succ]
      apply wpEffT_cons
      focus
        intro B L w9 hL hD hC
        have hE9 : Blk w9 E 35 (deedNA d) := hC.all (fun h => hEN w9 h) (fun a h => hE1 a w9 h) (fun a b h => hE2 a b w9 h) (fun a b h => hE3 a b w9 h) (fun a b h => hE3 a b w9 h)
        have e1 : w9.cell? ⟨E, 1, none⟩ = some (I64 d.src) := by simpa using hE9.cell 1
        have e2 : w9.cell? ⟨E, 2, none⟩ = some (I64 d.dst) := by simpa using hE9.cell 2
        have e3 : w9.cell? ⟨E, 3, none⟩ = some (.slice d.l.a d.l.l.length d.l.c) := by simpa using hE9.cell 3
        refine .inl ⟨by rfl, ?_⟩
        unfold effAt
        go_simp
        exact ⟨rfl, hC.keep (by kernel_rfl) hD (by rfl) (by rfl) (by rfl) (by rfl)⟩
      simp only [Act.put, List.setIfInBounds_toArray, List.set_cons_zero, List.set_cons_succ]
      refine wpEffT_free (fun _ => .bool false) ?_ ?_
      focus
        intro B L w9 hL hD hC
        obtain ⟨h1, h2⟩ := hC.build hL (hD 5 (by kernel_rfl)) (by kernel_rfl) (by kernel_rfl) (by kernel_rfl) hD (by rfl) (by rfl) (by rfl)
        refine .inl ⟨by rfl, ?_⟩
        unfold effAtT
        go_simp
        obtain ⟨col1, x1, n1, q1⟩ := h1
        refine (vLose0 (dV.nw q1 hcd) (by omega) d.src d.dst (by rw [← hr]; exact hp)).mono ?_
        rintro e w8 ⟨rfl, q8⟩
        exact ⟨(none, 0, 0), rfl, h2 _ _ (⟨col, ExtS.nw (q1.tr q8) _ _, p, Lx, (nV.nw (q1.tr q8) hcn).more (by omega), (dV.nw (q1.tr q8) hcd).more (by omega), hr⟩)⟩
      simp only [Act.put, List.setIfInBounds_toArray, List.set_cons_zero, List.set_cons_succ]
      refine wpEffT_free (fun _ => .bool true) ?_ ?_
      focus
        intro B L w9 hL hD hC
        obtain ⟨h1, h2⟩ := hC.app hL (hD 11 (by kernel_rfl)) (by kernel_rfl) (by kernel_rfl) hD (by rfl) (by rfl)
        refine .inl ⟨by rfl, ?_⟩
        unfold effAtT
        go_simp
        exact ⟨(none, 0, 0), by simp, h2 _ _ h1⟩
      simp only [Act.put, List.setIfInBounds_toArray, List.set_cons_zero, List.set_cons_succ]
      apply wpEffT_cons
      focus
        intro B L w9 hL hD hC
        obtain ⟨h1, h2⟩ := hC.store hL (hD 12 (by kernel_rfl)) (by kernel_rfl) hD
        refine .inl ⟨by rfl, ?_⟩
        unfold effAt
        go_simp
        exact ⟨rfl, h2 _ h1⟩
      simp only [Act.put, List.setIfInBounds_toArray, List.set_cons_zero, List.set_cons_succ]
      refine wpEffT_nil fun B wf hC => ?_
      have hfin := hC.fin (by rfl)
      clear hC
      go_wp2_with fail
      go_ret
      obtain ⟨colf, xf, nf⟩ := hfin
      exact ⟨rfl, colf, ExtS.tr (ExtS.nw qV col _) xf, nf⟩
    | cons y l =>
      have hr := HR.out
      have hok := HOK.out
      have hE1 : ∀ (t : AcT) w9, (fun (t : AcT) w9 => ∃ col1, Ext V w9 col col1 cn ∧ NetC w9 col1 cn gn (N + 1) (setP p (d.src, d.dst) l)) t w9 → Blk w9 E 35 (deedNA d) := fun t w9 hh => by
          obtain ⟨col1, x1, _⟩ := hh
          exact (blk_exts sE cE (x1.s (D := (· = cn)) rfl) (fun e => hcn e.symm)).1
      have hE2 : ∀ (t b : AcT) w9, (fun (t b : AcT) w9 => ∃ colf, ExtS (fun c => c = cn ∨ c = cd ∨ c = 9) V w9 col colf ∧ Duo w9 colf cn cd gn gd (N + 1 + d.l.l.length)) t b w9 → Blk w9 E 35 (deedNA d) := fun t b w9 hh => by
          obtain ⟨colf, xf, _⟩ := hh
          exact (blk_exts sE cE xf (fun e => by rcases e with e | e | e <;> omega)).1
      have hE3 := hE2
      refine wp_region_appT (T := AcT) 5 11 12 13 (fun w9 => Nw V w9) (fun (t : AcT) w9 => ∃ col1, Ext V w9 col col1 cn ∧ NetC w9 col1 cn gn (N + 1) (setP p (d.src, d.dst) l)) (fun (t b : AcT) w9 => ∃ colf, ExtS (fun c => c = cn ∨ c = cd ∨ c = 9) V w9 col colf ∧ Duo w9 colf cn cd gn gd (N + 1 + d.l.l.length)) (fun (t b : AcT) w9 => ∃ colf, ExtS (fun c => c = cn ∨ c = cd ∨ c = 9) V w9 col colf ∧ Duo w9 colf cn cd gn gd (N + 1 + d.l.l.length)) (fun (t b : AcT) w9 => ∃ colf, ExtS (fun c => c = cn ∨ c = cd ∨ c = 9) V w9 col colf ∧ Duo w9 colf cn cd gn gd (N + 1 + d.l.l.length)) (fun _ => (none, 0, 0)) (by kernel_rfl) (by kernel_rfl) ((Fr.refl (fun _ => False) V).drew) ?_
      apply wpEffT_cons
      focus
        intro B L w9 hL hD hC
        refine .inl ⟨by rfl, ?_⟩
        unfold effAt
        go_simp
        exact ⟨rfl, hC.keep (by kernel_rfl) hD (by rfl) (by rfl) (by rfl) (by rfl)⟩
      simp only [Act.put, List.setIfInBounds_toArray, List.set_cons_zero, List.set_cons_succ]
      apply wpEffT_cons
      focus
        intro B L w9 hL hD hC
        refine .inl ⟨by rfl, ?_⟩
        unfold effAt
        go_simp
        exact ⟨rfl, hC.keep (by kernel_rfl) hD (by rfl) (by rfl) (by rfl) (by rfl)⟩
      simp only [Act.put, List.setIfInBounds_toArray, List.set_cons_zero, List.set_cons_succ]
      apply wpEffT_cons
      focus
        intro B L w9 hL hD hC
        have hE9 : Blk w9 E 35 (deedNA d) := hC.all (fun h => hEN w9 h) (fun a h => hE1 a w9 h) (fun a b h => hE2 a b w9 h) (fun a b h => hE3 a b w9 h) (fun a b h => hE3 a b w9 h)
        have e1 : w9.cell? ⟨E, 1, none⟩ = some (I64 d.src) := by simpa using hE9.cell 1
        have e2 : w9.cell? ⟨E, 2, none⟩ = some (I64 d.dst) := by simpa using hE9.cell 2
        have e3 : w9.cell? ⟨E, 3, none⟩ = some (.slice d.l.a d.l.l.length d.l.c) := by simpa using hE9.cell 3
        refine .inl ⟨by rfl, ?_⟩
        unfold effAt
        go_simp
        exact ⟨rfl, hC.keep (by kernel_rfl) hD (by rfl) (by rfl) (by rfl) (by rfl)⟩
      simp only [Act.put, List.setIfInBounds_toArray, List.set_cons_zero, List.set_cons_succ]
      apply wpEffT_cons
      focus
        intro B L w9 hL hD hC
        refine .inl ⟨by rfl, ?_⟩
        unfold effAt
        go_simp
        exact ⟨rfl, hC.keep (by kernel_rfl) hD (by rfl) (by rfl) (by rfl) (by rfl)⟩
      simp only [Act.put, List.setIfInBounds_toArray, List.set_cons_zero, List.set_cons_succ]
      apply wpEffT_cons
      focus
        intro B L w9 hL hD hC
        have hE9 : Blk w9 E 35 (deedNA d) := hC.all (fun h => hEN w9 h) (fun a h => hE1 a w9 h) (fun a b h => hE2 a b w9 h) (fun a b h => hE3 a b w9 h) (fun a b h => hE3 a b w9 h)
        have e1 : w9.cell? ⟨E, 1, none⟩ = some (I64 d.src) := by simpa using hE9.cell 1
        have e2 : w9.cell? ⟨E, 2, none⟩ = some (I64 d.dst) := by simpa using hE9.cell 2
        have e3 : w9.cell? ⟨E, 3, none⟩ = some (.slice d.l.a d.l.l.length d.l.c) := by simpa using hE9.cell 3
        refine .inl ⟨by rfl, ?_⟩
        unfold effAt
        go_simp
        exact ⟨rfl, hC.keep (by kernel_rfl) hD (by rfl) (by rfl) (by rfl) (by rfl)⟩
      simp only [Act.put, List.setIfInBounds_toArray, List.set_cons_zero, List.set_cons_succ]
      refine wpEffT_free (fun _ => .bool true) ?_ ?_
      focus
        intro B L w9 hL hD hC
        obtain ⟨h1, h2⟩ := hC.call hL (by kernel_rfl) (by kernel_rfl) (by kernel_rfl) (by kernel_rfl) hD (by rfl) (by rfl) (by rfl)
        refine .inl ⟨by rfl, ?_⟩
        unfold effAtT
        go_simp
        refine (nLose1 hcn (nV.nw h1 hcn) (by omega) d.src d.dst way hp).mono ?_
        rintro e w8 ⟨rfl, x8, n8⟩
        exact ⟨(none, 0, 0), rfl, h2 _ _ (⟨col, (Ext.nw h1 _ _).tr x8, n8⟩)⟩
      simp only [Act.put, List.setIfInBounds_toArray, List.set_cons_zero, List.set_cons_succ]
      apply wpEffT_cons
      focus
        intro B L w9 hL hD hC
        refine .inl ⟨by rfl, ?_⟩
        unfold effAt
        go_simp
        exact ⟨rfl, hC.keep (by kernel_rfl) hD (by rfl) (by rfl) (by rfl) (by rfl)⟩
      simp only [Act.put, List.setIfInBounds_toArray, List.set_cons_zero, List.set_cons_succ]
      apply wpEffT_cons
      focus
        intro B L w9 hL hD hC
        refine .inl ⟨by rfl, ?_⟩
        unfold effAt
        go_simp
        exact ⟨rfl, hC.keep (by kernel_rfl) hD (by rfl) (by rfl) (by rfl) (by rfl)⟩
      simp only [Act.put, List.setIfInBounds_toArray, List.set_cons_zero, List.set_cons_succ]
      apply wpEffT_cons
      focus
        intro B L w9 hL hD hC
        have hE9 : Blk w9 E 35 (deedNA d) := hC.all (fun h => hEN w9 h) (fun a h => hE1 a w9 h) (fun a b h => hE2 a b w9 h) (fun a b h => hE3 a b w9 h) (fun a b h => hE3 a b w9 h)
        have e1 : w9.cell? ⟨E, 1, none⟩ = some (I64 d.src) := by simpa using hE9.cell 1
        have e2 : w9.cell? ⟨E, 2, none⟩ = some (I64 d.dst) := by simpa using hE9.cell 2
        have e3 : w9.cell? ⟨E, 3, none⟩ = some (.slice d.l.a d.l.l.length d.l.c) := by simpa using hE9.cell 3
        refine .inl ⟨by rfl, ?_⟩
        unfold effAt
        go_simp
        exact ⟨rfl, hC.keep (by kernel_rfl) hD (by rfl) (by rfl) (by rfl) (by rfl)⟩
      simp only [Act.put, List.setIfInBounds_toArray, List.set_cons_zero, List.set_cons_succ]
      apply wpEffT_cons
      focus
        intro B L w9 hL hD hC
        refine .inl ⟨by rfl, ?_⟩
        unfold effAt
        go_simp
        exact ⟨rfl, hC.keep (by kernel_rfl) hD (by rfl) (by rfl) (by rfl) (by rfl)⟩
      simp only [Act.put, List.setIfInBounds_toArray, List.set_cons_zero, List.set_cons_succ]
      apply wpEffT_cons
      focus
        intro B L w9 hL hD hC
        have hE9 : Blk w9 E 35 (deedNA d) := hC.all (fun h => hEN w9 h) (fun a h => hE1 a w9 h) (fun a b h => hE2 a b w9 h) (fun a b h => hE3 a b w9 h) (fun a b h => hE3 a b w9 h)
        have e1 : w9.cell? ⟨E, 1, none⟩ = some (I64 d.src) := by simpa using hE9.cell 1
        have e2 : w9.cell? ⟨E, 2, none⟩ = some (I64 d.dst) := by simpa using hE9.cell 2
        have e3 : w9.cell? ⟨E, 3, none⟩ = some (.slice d.l.a d.l.l.length d.l.c) := by simpa using hE9.cell 3
        refine .inl ⟨by rfl, ?_⟩
        unfold effAt
        go_simp
        exact ⟨rfl, hC.keep (by kernel_rfl) hD (by rfl) (by rfl) (by rfl) (by rfl)⟩
      simp only [Act.put, List.setIfInBounds_toArray, List.set_cons_zero, List.set_cons_succ]
      refine wpEffT_free (fun _ => .bool true) ?_ ?_
      focus
        intro B L w9 hL hD hC
        obtain ⟨h1, h2⟩ := hC.build hL (hD 5 (by kernel_rfl)) (by kernel_rfl) (by kernel_rfl) (by kernel_rfl) hD (by rfl) (by rfl) (by rfl)
        refine .inl ⟨by rfl, ?_⟩
        unfold effAtT
        go_simp
        obtain ⟨col1, x1, n1⟩ := h1
        refine (vLose1 hcd (dV.ext x1 hcd (fun e => hcc e.symm) hcn) (by omega) d.src d.dst (by rw [← hr]; exact hp)).mono ?_
        rintro e w8 ⟨rfl, col8, x8, d8⟩
        exact ⟨(none, 0, 0), rfl, h2 _ _ (⟨_, ((x1).s (D := fun c => c = cn ∨ c = cd ∨ c = 9) (.inl rfl)).tr ((x8).s (.inr (.inl rfl))), _, _, ((n1).ext x8 hcn hcc hcd).more (by omega), (d8).more (by omega), relN_set hr _ _ (fun x hx => relN_on hr (n := (d.src, d.dst)) (by rw [hp]; exact List.mem_cons_of_mem _ hx))⟩)⟩
      simp only [Act.put, List.setIfInBounds_toArray, List.set_cons_zero, List.set_cons_succ]
      refine wpEffT_free (fun _ => .bool true) ?_ ?_
      focus
        intro B L w9 hL hD hC
        obtain ⟨h1, h2⟩ := hC.app hL (hD 11 (by kernel_rfl)) (by kernel_rfl) (by kernel_rfl) hD (by rfl) (by rfl)
        refine .inl ⟨by rfl, ?_⟩
        unfold effAtT
        go_simp
        exact ⟨(none, 0, 0), by simp, h2 _ _ h1⟩
      simp only [Act.put, List.setIfInBounds_toArray, List.set_cons_zero, List.set_cons_succ]
      apply wpEffT_cons
      focus
        intro B L w9 hL hD hC
        obtain ⟨h1, h2⟩ := hC.store hL (hD 12 (by kernel_rfl)) (by kernel_rfl) hD
        refine .inl ⟨by rfl, ?_⟩
        unfold effAt
        go_simp
        exact ⟨rfl, h2 _ h1⟩
      simp only [Act.put, List.setIfInBounds_toArray, List.set_cons_zero, List.set_cons_succ]
      refine wpEffT_nil fun B wf hC => ?_
      have hfin := hC.fin (by rfl)
      clear hC
      go_wp2_with fail
      go_ret
      obtain ⟨colf, xf, nf⟩ := hfin
      exact ⟨rfl, colf, ExtS.tr (ExtS.nw qV col _) xf, nf⟩
  by_cases k6 : kk = 6
  · subst k6
    go_upto_region 9 with (fail)
    have hr := HR.out
    have hok := HOK.out
    have hE1 : ∀ (t : AcT) w9, (fun (t : AcT) w9 => ∃ col1, Ext V w9 col col1 cn ∧ NetC w9 col1 cn gn (N + 1) (twP p (d.src, d.dst)).1) t w9 → Blk w9 E 35 (deedNA d) := fun t w9 hh => by
        obtain ⟨col1, x1, _⟩ := hh
        exact (blk_exts sE cE (x1.s (D := (· = cn)) rfl) (fun e => hcn e.symm)).1
    have hE2 : ∀ (t b : AcT) w9, (fun (t b : AcT) w9 => ∃ colf, ExtS (fun c => c = cn ∨ c = cd ∨ c = 9) V w9 col colf ∧ Duo w9 colf cn cd gn gd (N + 1 + d.l.l.length)) t b w9 → Blk w9 E 35 (deedNA d) := fun t b w9 hh => by
        obtain ⟨colf, xf, _⟩ := hh
        exact (blk_exts sE cE xf (fun e => by rcases e with e | e | e <;> omega)).1
    have hE3 := hE2
    refine wp_region_appT (T := AcT) 5 11 12 13 (fun w9 => Nw V w9) (fun (t : AcT) w9 => ∃ col1, Ext V w9 col col1 cn ∧ NetC w9 col1 cn gn (N + 1) (twP p (d.src, d.dst)).1) (fun (t b : AcT) w9 => ∃ colf, ExtS (fun c => c = cn ∨ c = cd ∨ c = 9) V w9 col colf ∧ Duo w9 colf cn cd gn gd (N + 1 + d.l.l.length)) (fun (t b : AcT) w9 => ∃ colf, ExtS (fun c => c = cn ∨ c = cd ∨ c = 9) V w9 col colf ∧ Duo w9 colf cn cd gn gd (N + 1 + d.l.l.length)) (fun (t b : AcT) w9 => ∃ colf, ExtS (fun c => c = cn ∨ c = cd ∨ c = 9) V w9 col colf ∧ Duo w9 colf cn cd gn gd (N + 1 + d.l.l.length)) (fun _ => (none, 0, 0)) (by kernel_rfl) (by kernel_rfl) ((Fr.refl (fun _ => False) V).drew) ?_
    apply wpEffT_cons
    focus
      intro B L w9 hL hD hC
      refine .inl ⟨by rfl, ?_⟩
      unfold effAt
      go_simp
      exact ⟨rfl, hC.keep (by kernel_rfl) hD (by rfl) (by rfl) (by rfl) (by rfl)⟩
    simp only [Act.put, List.setIfInBounds_toArray, List.set_cons_zero, List.set_cons_succ]
    apply wpEffT_cons
    focus
      intro B L w9 hL hD hC
      refine .inl ⟨by rfl, ?_⟩
      unfold effAt
      go_simp
      exact ⟨rfl, hC.keep (by kernel_rfl) hD (by rfl) (by rfl) (by rfl) (by rfl)⟩
    simp only [Act.put, List.setIfInBounds_toArray, List.set_cons_zero, List.set_cons_succ]
    apply wpEffT_cons
    focus
      intro B L w9 hL hD hC
      have hE9 : Blk w9 E 35 (deedNA d) := hC.all (fun h => hEN w9 h) (fun a h => hE1 a w9 h) (fun a b h => hE2 a b w9 h) (fun a b h => hE3 a b w9 h) (fun a b h => hE3 a b w9 h)
      have e1 : w9.cell? ⟨E, 1, none⟩ = some (I64 d.src) := by simpa using hE9.cell 1
      have e2 : w9.cell? ⟨E, 2, none⟩ = some (I64 d.dst) := by simpa using hE9.cell 2
      have e3 : w9.cell? ⟨E, 3, none⟩ = some (.slice d.l.a d.l.l.length d.l.c) := by simpa using hE9.cell 3
      refine .inl ⟨by rfl, ?_⟩
      unfold effAt
      go_simp
      exact ⟨rfl, hC.keep (by kernel_rfl) hD (by rfl) (by rfl) (by rfl) (by rfl)⟩
    simp only [Act.put, List.setIfInBounds_toArray, List.set_cons_zero, List.set_cons_succ]
    apply wpEffT_cons
    focus
      intro B L w9 hL hD hC
      refine .inl ⟨by rfl, ?_⟩
      unfold effAt
      go_simp
      exact ⟨rfl, hC.keep (by kernel_rfl) hD (by rfl) (by rfl) (by rfl) (by rfl)⟩
    simp only [Act.put, List.setIfInBounds_toArray, List.set_cons_zero, List.set_cons_succ]
    apply wpEffT_cons
    focus
      intro B L w9 hL hD hC
      have hE9 : Blk w9 E 35 (deedNA d) := hC.all (fun h => hEN w9 h) (fun a h => hE1 a w9 h) (fun a b h => hE2 a b w9 h) (fun a b h => hE3 a b w9 h) (fun a b h => hE3 a b w9 h)
      have e1 : w9.cell? ⟨E, 1, none⟩ = some (I64 d.src) := by simpa using hE9.cell 1
      have e2 : w9.cell? ⟨E, 2, none⟩ = some (I64 d.dst) := by simpa using hE9.cell 2
      have e3 : w9.cell? ⟨E, 3, none⟩ = some (.slice d.l.a d.l.l.length d.l.c) := by simpa using hE9.cell 3
      refine .inl ⟨by rfl, ?_⟩
      unfold effAt
      go_simp
      exact ⟨rfl, hC.keep (by kernel_rfl) hD (by rfl) (by rfl) (by rfl) (by rfl)⟩
    simp only [Act.put, List.setIfInBounds_toArray, List.set_cons_zero, List.set_cons_succ]
    refine wpEffT_free (fun _ => .bool (twP p (d.src, d.dst)).2) ?_ ?_
    focus
      intro B L w9 hL hD hC
      obtain ⟨h1, h2⟩ := hC.call hL (by kernel_rfl) (by kernel_rfl) (by kernel_rfl) (by kernel_rfl) hD (by rfl) (by rfl) (by rfl)
      refine .inl ⟨by rfl, ?_⟩
      unfold effAtT
      go_simp
      refine (nTwice hcn (nV.nw h1 hcn) (by omega) d.src d.dst way).mono ?_
      rintro e w8 ⟨rfl, col8, x8, n8⟩
      exact ⟨(none, 0, 0), rfl, h2 _ _ (⟨col8, (Ext.nw h1 _ _).tr x8, n8⟩)⟩
    simp only [Act.put, List.setIfInBounds_toArray, List.set_cons_zero, List.set_cons_succ]
    apply wpEffT_cons
    focus
      intro B L w9 hL hD hC
      refine .inl ⟨by rfl, ?_⟩
      unfold effAt
      go_simp
      exact ⟨rfl, hC.keep (by kernel_rfl) hD (by rfl) (by rfl) (by rfl) (by rfl)⟩
    simp only [Act.put, List.setIfInBounds_toArray, List.set_cons_zero, List.set_cons_succ]
    apply wpEffT_cons
    focus
      intro B L w9 hL hD hC
      refine .inl ⟨by rfl, ?_⟩
      unfold effAt
      go_simp
      exact ⟨rfl, hC.keep (by kernel_rfl) hD (by rfl) (by rfl) (by rfl) (by rfl)⟩
    simp only [Act.put, List.setIfInBounds_toArray, List.set_cons_zero, List.set_cons_succ]
    apply wpEffT_cons
    focus
      intro B L w9 hL hD hC
      have hE9 : Blk w9 E 35 (deedNA d) := hC.all (fun h => hEN w9 h) (fun a h => hE1 a w9 h) (fun a b h => hE2 a b w9 h) (fun a b h => hE3 a b w9 h) (fun a b h => hE3 a b w9 h)
      have e1 : w9.cell? ⟨E, 1, none⟩ = some (I64 d.src) := by simpa using hE9.cell 1
      have e2 : w9.cell? ⟨E, 2, none⟩ = some (I64 d.dst) := by simpa using hE9.cell 2
      have e3 : w9.cell? ⟨E, 3, none⟩ = some (.slice d.l.a d.l.l.length d.l.c) := by simpa using hE9.cell 3
      refine .inl ⟨by rfl, ?_⟩
      unfold effAt
      go_simp
      exact ⟨rfl, hC.keep (by kernel_rfl) hD (by rfl) (by rfl) (by rfl) (by rfl)⟩
    simp only [Act.put, List.setIfInBounds_toArray, List.set_cons_zero, List.set_cons_succ]
    apply wpEffT_cons
    focus
      intro B L w9 hL hD hC
      refine .inl ⟨by rfl, ?_⟩
      unfold effAt
      go_simp
      exact ⟨rfl, hC.keep (by kernel_rfl) hD (by rfl) (by rfl) (by rfl) (by rfl)⟩
    simp only [Act.put, List.setIfInBounds_toArray, List.set_cons_zero, List.set_cons_succ]
    apply wpEffT_cons
    focus
      intro B L w9 hL hD hC
      have hE9 : Blk w9 E 35 (deedNA d) := hC.all (fun h => hEN w9 h) (fun a h => hE1 a w9 h) (fun a b h => hE2 a b w9 h) (fun a b h => hE3 a b w9 h) (fun a b h => hE3 a b w9 h)
      have e1 : w9.cell? ⟨E, 1, none⟩ = some (I64 d.src) := by simpa using hE9.cell 1
      have e2 : w9.cell? ⟨E, 2, none⟩ = some (I64 d.dst) := by simpa using hE9.cell 2
      have e3 : w9.cell? ⟨E, 3, none⟩ = some (.slice d.l.a d.l.l.length d.l.c) := by simpa using hE9.cell 3
      refine .inl ⟨by rfl, ?_⟩
      unfold effAt
      go_simp
      exact ⟨rfl, hC.keep (by kernel_rfl) hD (by rfl) (by rfl) (by rfl) (by rfl)⟩
    simp only [Act.put, List.setIfInBounds_toArray, List.set_cons_zero, List.set_cons_succ]
    refine wpEffT_free (fun _ => .bool (twP p (d.src, d.dst)).2) ?_ ?_
    focus
      intro B L w9 hL hD hC
      obtain ⟨h1, h2⟩ := hC.build hL (hD 5 (by kernel_rfl)) (by kernel_rfl) (by kernel_rfl) (by kernel_rfl) hD (by rfl) (by rfl) (by rfl)
      refine .inl ⟨by rfl, ?_⟩
      unfold effAtT
      go_simp
      obtain ⟨col1, x1, n1⟩ := h1
      have h7 := vTwice hcd (dV.ext x1 hcd (fun e => hcc e.symm) hcn) (by omega) d.src d.dst
      rw [← (relN_tw hr hok (d.src, d.dst)).2] at h7
      refine h7.mono ?_
      rintro e w8 ⟨rfl, col8, x8, d8⟩
      exact ⟨(none, 0, 0), rfl, h2 _ _ (⟨_, ((x1).s (D := fun c => c = cn ∨ c = cd ∨ c = 9) (.inl rfl)).tr ((x8).s (.inr (.inl rfl))), _, _, ((n1).ext x8 hcn hcc hcd).more (by omega), (d8).more (by omega), (relN_tw hr hok _).1⟩)⟩
    simp only [Act.put, List.setIfInBounds_toArray, List.set_cons_zero, List.set_cons_succ]
    refine wpEffT_free (fun _ => .bool true) ?_ ?_
    focus
      intro B L w9 hL hD hC
      obtain ⟨h1, h2⟩ := hC.app hL (hD 11 (by kernel_rfl)) (by kernel_rfl) (by kernel_rfl) hD (by rfl) (by rfl)
      refine .inl ⟨by rfl, ?_⟩
      unfold effAtT
      go_simp
      exact ⟨(none, 0, 0), by simp, h2 _ _ h1⟩
    simp only [Act.put, List.setIfInBounds_toArray, List.set_cons_zero, List.set_cons_succ]
    apply wpEffT_cons
    focus
      intro B L w9 hL hD hC
      obtain ⟨h1, h2⟩ := hC.store hL (hD 12 (by kernel_rfl)) (by kernel_rfl) hD
      refine .inl ⟨by rfl, ?_⟩
      unfold effAt
      go_simp
      exact ⟨rfl, h2 _ h1⟩
    simp only [Act.put, List.setIfInBounds_toArray, List.set_cons_zero, List.set_cons_succ]
    refine wpEffT_nil fun B wf hC => ?_
    have hfin := hC.fin (by rfl)
    clear hC
    go_wp2_with fail
    go_ret
    obtain ⟨colf, xf, nf⟩ := hfin
    exact ⟨rfl, colf, ExtS.tr (ExtS.nw qV col _) xf, nf⟩
  by_cases k7 : kk = 7
  · subst k7
    go_upto_region 11 with (fail)
    have hr := HR.out
    have hok := HOK.out
    have hE1 : ∀ (t : AcT) w9, (fun (t : AcT) w9 => ∃ col1, Ext V w9 col col1 cn ∧ NetC w9 col1 cn gn (N + 1) (fwP p (d.src, d.dst)).1) t w9 → Blk w9 E 35 (deedNA d) := fun t w9 hh => by
        obtain ⟨col1, x1, _⟩ := hh
        exact (blk_exts sE cE (x1.s (D := (· = cn)) rfl) (fun e => hcn e.symm)).1
    have hE2 : ∀ (t b : AcT) w9, (fun (t b : AcT) w9 => ∃ colf, ExtS (fun c => c = cn ∨ c = cd ∨ c = 9) V w9 col colf ∧ Duo w9 colf cn cd gn gd (N + 1 + d.l.l.length)) t b w9 → Blk w9 E 35 (deedNA d) := fun t b w9 hh => by
        obtain ⟨colf, xf, _⟩ := hh
        exact (blk_exts sE cE xf (fun e => by rcases e with e | e | e <;> omega)).1
    have hE3 := hE2
    refine wp_region_appT (T := AcT) 5 11 12 13 (fun w9 => Nw V w9) (fun (t : AcT) w9 => ∃ col1, Ext V w9 col col1 cn ∧ NetC w9 col1 cn gn (N + 1) (fwP p (d.src, d.dst)).1) (fun (t b : AcT) w9 => ∃ colf, ExtS (fun c => c = cn ∨ c = cd ∨ c = 9) V w9 col colf ∧ Duo w9 colf cn cd gn gd (N + 1 + d.l.l.length)) (fun (t b : AcT) w9 => ∃ colf, ExtS (fun c => c = cn ∨ c = cd ∨ c = 9) V w9 col colf ∧ Duo w9 colf cn cd gn gd (N + 1 + d.l.l.length)) (fun (t b : AcT) w9 => ∃ colf, ExtS (fun c => c = cn ∨ c = cd ∨ c = 9) V w9 col colf ∧ Duo w9 colf cn cd gn gd (N + 1 + d.l.l.length)) (fun _ => (none, 0, 0)) (by kernel_rfl) (by kernel_rfl) ((Fr.refl (fun _ => False) V).drew) ?_
    apply wpEffT_cons
    focus
      intro B L w9 hL hD hC
      refine .inl ⟨by rfl, ?_⟩
      unfold effAt
      go_simp
      exact ⟨rfl, hC.keep (by kernel_rfl) hD (by rfl) (by rfl) (by rfl) (by rfl)⟩
    simp only [Act.put, List.setIfInBounds_toArray, List.set_cons_zero, List.set_cons_succ]
    apply wpEffT_cons
    focus
      intro B L w9 hL hD hC
      refine .inl ⟨by rfl, ?_⟩
      unfold effAt
      go_simp
      exact ⟨rfl, hC.keep (by kernel_rfl) hD (by rfl) (by rfl) (by rfl) (by rfl)⟩
    simp only [Act.put, List.setIfInBounds_toArray, List.set_cons_zero, List.set_cons_succ]
    apply wpEffT_cons
    focus
      intro B L w9 hL hD hC
      have hE9 : Blk w9 E 35 (deedNA d) := hC.all (fun h => hEN w9 h) (fun a h => hE1 a w9 h) (fun a b h => hE2 a b w9 h) (fun a b h => hE3 a b w9 h) (fun a b h => hE3 a b w9 h)
      have e1 : w9.cell? ⟨E, 1, none⟩ = some (I64 d.src) := by simpa using hE9.cell 1
      have e2 : w9.cell? ⟨E, 2, none⟩ = some (I64 d.dst) := by simpa using hE9.cell 2
      have e3 : w9.cell? ⟨E, 3, none⟩ = some (.slice d.l.a d.l.l.length d.l.c) := by simpa using hE9.cell 3
      refine .inl ⟨by rfl, ?_⟩
      unfold effAt
      go_simp
      exact ⟨rfl, hC.keep (by kernel_rfl) hD (by rfl) (by rfl) (by rfl) (by rfl)⟩
    simp only [Act.put, List.setIfInBounds_toArray, List.set_cons_zero, List.set_cons_succ]
    apply wpEffT_cons
    focus
      intro B L w9 hL hD hC
      refine .inl ⟨by rfl, ?_⟩
      unfold effAt
      go_simp
      exact ⟨rfl, hC.keep (by kernel_rfl) hD (by rfl) (by rfl) (by rfl) (by rfl)⟩
    simp only [Act.put, List.setIfInBounds_toArray, List.set_cons_zero, List.set_cons_succ]
    apply wpEffT_cons
    focus
      intro B L w9 hL hD hC
      have hE9 : Blk w9 E 35 (deedNA d) := hC.all (fun h => hEN w9 h) (fun a h => hE1 a w9 h) (fun a b h => hE2 a b w9 h) (fun a b h => hE3 a b w9 h) (fun a b h => hE3 a b w9 h)
      have e1 : w9.cell? ⟨E, 1, none⟩ = some (I64 d.src) := by simpa using hE9.cell 1
      have e2 : w9.cell? ⟨E, 2, none⟩ = some (I64 d.dst) := by simpa using hE9.cell 2
      have e3 : w9.cell? ⟨E, 3, none⟩ = some (.slice d.l.a d.l.l.length d.l.c) := by simpa using hE9.cell 3
      refine .inl ⟨by rfl, ?_⟩
      unfold effAt
      go_simp
      exact ⟨rfl, hC.keep (by kernel_rfl) hD (by rfl) (by rfl) (by rfl) (by rfl)⟩
    simp only [Act.put, List.setIfInBounds_toArray, List.set_cons_zero, List.set_cons_succ]
    refine wpEffT_free (fun _ => .bool (fwP p (d.src, d.dst)).2) ?_ ?_
    focus
      intro B L w9 hL hD hC
      obtain ⟨h1, h2⟩ := hC.call hL (by kernel_rfl) (by kernel_rfl) (by kernel_rfl) (by kernel_rfl) hD (by rfl) (by rfl) (by rfl)
      refine .inl ⟨by rfl, ?_⟩
      unfold effAtT
      go_simp
      refine (nForward hcn (nV.nw h1 hcn) (by omega) d.src d.dst way).mono ?_
      rintro e w8 ⟨rfl, col8, x8, n8⟩
      exact ⟨(none, 0, 0), rfl, h2 _ _ (⟨col8, (Ext.nw h1 _ _).tr x8, n8⟩)⟩
    simp only [Act.put, List.setIfInBounds_toArray, List.set_cons_zero, List.set_cons_succ]
    apply wpEffT_cons
    focus
      intro B L w9 hL hD hC
      refine .inl ⟨by rfl, ?_⟩
      unfold effAt
      go_simp
      exact ⟨rfl, hC.keep (by kernel_rfl) hD (by rfl) (by rfl) (by rfl) (by rfl)⟩
    simp only [Act.put, List.setIfInBounds_toArray, List.set_cons_zero, List.set_cons_succ]
    apply wpEffT_cons
    focus
      intro B L w9 hL hD hC
      refine .inl ⟨by rfl, ?_⟩
      unfold effAt
      go_simp
      exact ⟨rfl, hC.keep (by kernel_rfl) hD (by rfl) (by rfl) (by rfl) (by rfl)⟩
    simp only [Act.put, List.setIfInBounds_toArray, List.set_cons_zero, List.set_cons_succ]
    apply wpEffT_cons
    focus
      intro B L w9 hL hD hC
      have hE9 : Blk w9 E 35 (deedNA d) := hC.all (fun h => hEN w9 h) (fun a h => hE1 a w9 h) (fun a b h => hE2 a b w9 h) (fun a b h => hE3 a b w9 h) (fun a b h => hE3 a b w9 h)
      have e1 : w9.cell? ⟨E, 1, none⟩ = some (I64 d.src) := by simpa using hE9.cell 1
      have e2 : w9.cell? ⟨E, 2, none⟩ = some (I64 d.dst) := by simpa using hE9.cell 2
      have e3 : w9.cell? ⟨E, 3, none⟩ = some (.slice d.l.a d.l.l.length d.l.c) := by simpa using hE9.cell 3
      refine .inl ⟨by rfl, ?_⟩
      unfold effAt
      go_simp
      exact ⟨rfl, hC.keep (by kernel_rfl) hD (by rfl) (by rfl) (by rfl) (by rfl)⟩
    simp only [Act.put, List.setIfInBounds_toArray, List.set_cons_zero, List.set_cons_succ]
    apply wpEffT_cons
    focus
      intro B L w9 hL hD hC
      refine .inl ⟨by rfl, ?_⟩
      unfold effAt
      go_simp
      exact ⟨rfl, hC.keep (by kernel_rfl) hD (by rfl) (by rfl) (by rfl) (by rfl)⟩
    simp only [Act.put, List.setIfInBounds_toArray, List.set_cons_zero, List.set_cons_succ]
    apply wpEffT_cons
    focus
      intro B L w9 hL hD hC
      have hE9 : Blk w9 E 35 (deedNA d) := hC.all (fun h => hEN w9 h) (fun a h => hE1 a w9 h) (fun a b h => hE2 a b w9 h) (fun a b h => hE3 a b w9 h) (fun a b h => hE3 a b w9 h)
      have e1 : w9.cell? ⟨E, 1, none⟩ = some (I64 d.src) := by simpa using hE9.cell 1
      have e2 : w9.cell? ⟨E, 2, none⟩ = some (I64 d.dst) := by simpa using hE9.cell 2
      have e3 : w9.cell? ⟨E, 3, none⟩ = some (.slice d.l.a d.l.l.length d.l.c) := by simpa using hE9.cell 3
      refine .inl ⟨by rfl, ?_⟩
      unfold effAt
      go_simp
      exact ⟨rfl, hC.keep (by kernel_rfl) hD (by rfl) (by rfl) (by rfl) (by rfl)⟩
    simp only [Act.put, List.setIfInBounds_toArray, List.set_cons_zero, List.set_cons_succ]
    refine wpEffT_free (fun _ => .bool (fwP p (d.src, d.dst)).2) ?_ ?_
    focus
      intro B L w9 hL hD hC
      obtain ⟨h1, h2⟩ := hC.build hL (hD 5 (by kernel_rfl)) (by kernel_rfl) (by kernel_rfl) (by kernel_rfl) hD (by rfl) (by rfl) (by rfl)
      refine .inl ⟨by rfl, ?_⟩
      unfold effAtT
      go_simp
      obtain ⟨col1, x1, n1⟩ := h1
      have h7 := vForward hcd (dV.ext x1 hcd (fun e => hcc e.symm) hcn) (by omega) d.src d.dst
      rw [← (relN_fw hr (d.src, d.dst)).2] at h7
      refine h7.mono ?_
      rintro e w8 ⟨rfl, col8, x8, d8⟩
      exact ⟨(none, 0, 0), rfl, h2 _ _ (⟨_, ((x1).s (D := fun c => c = cn ∨ c = cd ∨ c = 9) (.inl rfl)).tr ((x8).s (.inr (.inl rfl))), _, _, ((n1).ext x8 hcn hcc hcd).more (by omega), (d8).more (by omega), (relN_fw hr _).1⟩)⟩
    simp only [Act.put, List.setIfInBounds_toArray, List.set_cons_zero, List.set_cons_succ]
    refine wpEffT_free (fun _ => .bool true) ?_ ?_
    focus
      intro B L w9 hL hD hC
      obtain ⟨h1, h2⟩ := hC.app hL (hD 11 (by kernel_rfl)) (by kernel_rfl) (by kernel_rfl) hD (by rfl) (by rfl)
      refine .inl ⟨by rfl, ?_⟩
      unfold effAtT
      go_simp
      exact ⟨(none, 0, 0), by simp, h2 _ _ h1⟩
    simp only [Act.put, List.setIfInBounds_toArray, List.set_cons_zero, List.set_cons_succ]
    apply wpEffT_cons
    focus
      intro B L w9 hL hD hC
      obtain ⟨h1, h2⟩ := hC.store hL (hD 12 (by kernel_rfl)) (by kernel_rfl) hD
      refine .inl ⟨by rfl, ?_⟩
      unfold effAt
      go_simp
      exact ⟨rfl, h2 _ h1⟩
    simp only [Act.put, List.setIfInBounds_toArray, List.set_cons_zero, List.set_cons_succ]
    refine wpEffT_nil fun B wf hC => ?_
    have hfin := hC.fin (by rfl)
    clear hC
    go_wp2_with fail
    go_ret
    obtain ⟨colf, xf, nf⟩ := hfin
    exact ⟨rfl, colf, ExtS.tr (ExtS.nw qV col _) xf, nf⟩
  by_cases k8 : kk = 8
  · subst k8
    go_upto_region 13 with (fail)
    have h9d8 : ¬ cd = 8 := h8d
    have hr := HR.out
    have hok := HOK.out
    have hE1 : ∀ (t : AcT) w9, (tkS1 V col cn gn N p d) t w9 → Blk w9 E 35 (deedNA d) := fun t w9 hh => by
        obtain ⟨col1, ys, _, _, _, x1, _⟩ := hh
        exact (blk_exts sE cE (x1.s (D := (· = cn)) rfl) (fun e => hcn e.symm)).1
    have hE2 : ∀ (t b : AcT) w9, (tkS2 V col cn cd gn gd N d) t b w9 → Blk w9 E 35 (deedNA d) := fun t b w9 hh => by
        obtain ⟨colf, ys, zs, _, _, _, _, _, _, _, _, xf, _⟩ := hh
        exact (blk_exts sE cE xf (fun e => by rcases e with e | e | e <;> omega)).1
    have hE3 : ∀ (t b : AcT) w9, (fun (t b : AcT) w9 => ∃ colf, ExtS (fun c => c = cn ∨ c = cd ∨ c = 9) V w9 col colf ∧ Duo w9 colf cn cd gn gd (N + 1 + d.l.l.length)) t b w9 → Blk w9 E 35 (deedNA d) := fun t b w9 hh => by
        obtain ⟨colf, xf, _⟩ := hh
        exact (blk_exts sE cE xf (fun e => by rcases e with e | e | e <;> omega)).1
    refine wp_region_appT (T := AcT) 3 7 8 9 (fun w9 => Nw V w9) (tkS1 V col cn gn N p d) (tkS2 V col cn cd gn gd N d) (fun (t b : AcT) w9 => ∃ colf, ExtS (fun c => c = cn ∨ c = cd ∨ c = 9) V w9 col colf ∧ Duo w9 colf cn cd gn gd (N + 1 + d.l.l.length)) (fun (t b : AcT) w9 => ∃ colf, ExtS (fun c => c = cn ∨ c = cd ∨ c = 9) V w9 col colf ∧ Duo w9 colf cn cd gn gd (N + 1 + d.l.l.length)) (fun _ => (none, 0, 0)) (by kernel_rfl) (by kernel_rfl) ((Fr.refl (fun _ => False) V).drew) ?_
    apply wpEffT_cons
    focus
      intro B L w9 hL hD hC
      refine .inl ⟨by rfl, ?_⟩
      unfold effAt
      go_simp
      exact ⟨rfl, hC.keep (by kernel_rfl) hD (by rfl) (by rfl) (by rfl) (by rfl)⟩
    simp only [Act.put, List.setIfInBounds_toArray, List.set_cons_zero, List.set_cons_succ]
    apply wpEffT_cons
    focus
      intro B L w9 hL hD hC
      refine .inl ⟨by rfl, ?_⟩
      unfold effAt
      go_simp
      exact ⟨rfl, hC.keep (by kernel_rfl) hD (by rfl) (by rfl) (by rfl) (by rfl)⟩
    simp only [Act.put, List.setIfInBounds_toArray, List.set_cons_zero, List.set_cons_succ]
    apply wpEffT_cons
    focus
      intro B L w9 hL hD hC
      have hE9 : Blk w9 E 35 (deedNA d) := hC.all (fun h => hEN w9 h) (fun a h => hE1 a w9 h) (fun a b h => hE2 a b w9 h) (fun a b h => hE3 a b w9 h) (fun a b h => hE3 a b w9 h)
      have e1 : w9.cell? ⟨E, 1, none⟩ = some (I64 d.src) := by simpa using hE9.cell 1
      have e2 : w9.cell? ⟨E, 2, none⟩ = some (I64 d.dst) := by simpa using hE9.cell 2
      have e3 : w9.cell? ⟨E, 3, none⟩ = some (.slice d.l.a d.l.l.length d.l.c) := by simpa using hE9.cell 3
      refine .inl ⟨by rfl, ?_⟩
      unfold effAt
      go_simp
      exact ⟨rfl, hC.keep (by kernel_rfl) hD (by rfl) (by rfl) (by rfl) (by rfl)⟩
    simp only [Act.put, List.setIfInBounds_toArray, List.set_cons_zero, List.set_cons_succ]
    refine wpEffT_free (fun b => .slice b.1 b.2.1 b.2.2) ?_ ?_
    focus
      intro B L w9 hL hD hC
      obtain ⟨h1, h2⟩ := hC.call hL (by kernel_rfl) (by kernel_rfl) (by kernel_rfl) (by kernel_rfl) hD (by rfl) (by rfl) (by rfl)
      refine .inl ⟨by rfl, ?_⟩
      unfold effAtT
      go_simp
      refine (nTake hcn (nV.nw h1 hcn) d.dst wdst 8 (by decide) h8).mono ?_
      rintro e w8 ⟨A8, c8, ys, rfl, hy200, ey, col8, x8, n8, l8⟩
      exact ⟨(A8, ys.length, c8), rfl, h2 _ _ ⟨col8, ys, rfl, ey, hy200, (Ext.nw h1 _ _).tr x8, n8, l8⟩⟩
    simp only [Act.put, List.setIfInBounds_toArray, List.set_cons_zero, List.set_cons_succ]
    apply wpEffT_cons
    focus
      intro B L w9 hL hD hC
      refine .inl ⟨by rfl, ?_⟩
      unfold effAt
      go_simp
      exact ⟨rfl, hC.keep (by kernel_rfl) hD (by rfl) (by rfl) (by rfl) (by rfl)⟩
    simp only [Act.put, List.setIfInBounds_toArray, List.set_cons_zero, List.set_cons_succ]
    apply wpEffT_cons
    focus
      intro B L w9 hL hD hC
      refine .inl ⟨by rfl, ?_⟩
      unfold effAt
      go_simp
      exact ⟨rfl, hC.keep (by kernel_rfl) hD (by rfl) (by rfl) (by rfl) (by rfl)⟩
    simp only [Act.put, List.setIfInBounds_toArray, List.set_cons_zero, List.set_cons_succ]
    apply wpEffT_cons
    focus
      intro B L w9 hL hD hC
      have hE9 : Blk w9 E 35 (deedNA d) := hC.all (fun h => hEN w9 h) (fun a h => hE1 a w9 h) (fun a b h => hE2 a b w9 h) (fun a b h => hE3 a b w9 h) (fun a b h => hE3 a b w9 h)
      have e1 : w9.cell? ⟨E, 1, none⟩ = some (I64 d.src) := by simpa using hE9.cell 1
      have e2 : w9.cell? ⟨E, 2, none⟩ = some (I64 d.dst) := by simpa using hE9.cell 2
      have e3 : w9.cell? ⟨E, 3, none⟩ = some (.slice d.l.a d.l.l.length d.l.c) := by simpa using hE9.cell 3
      refine .inl ⟨by rfl, ?_⟩
      unfold effAt
      go_simp
      exact ⟨rfl, hC.keep (by kernel_rfl) hD (by rfl) (by rfl) (by rfl) (by rfl)⟩
    simp only [Act.put, List.setIfInBounds_toArray, List.set_cons_zero, List.set_cons_succ]
    refine wpEffT_free (fun b => .slice b.1 b.2.1 b.2.2) ?_ ?_
    focus
      intro B L w9 hL hD hC
      obtain ⟨h1, h2⟩ := hC.build hL (hD 3 (by kernel_rfl)) (by kernel_rfl) (by kernel_rfl) (by kernel_rfl) hD (by rfl) (by rfl) (by rfl)
      refine .inl ⟨by rfl, ?_⟩
      unfold effAtT
      go_simp
      obtain ⟨col1, ys, ey1, ey2, ey3, x1, n1, l1⟩ := h1
      refine (vTake hcd (dV.ext x1 hcd (fun e => hcc e.symm) hcn) (by omega) d.dst).mono ?_
      rintro e w8 ⟨A8, c8, zs, col8, rfl, ez, oz, iz, x8, d8⟩
      have hl8 := l1.own.sl.fr x8.fr (fun k hk hh => by have h7 := l1.base k hk; rw [hh.1] at h7; exact h9d8 h7)
      refine ⟨(A8, zs.length, c8), rfl, h2 _ _ ⟨col8, ys, zs, ey1, rfl, ?_, ey3, hl8.mono (fun _ _ _ => trivial), oz, fun y hy => ⟨(let_ext (l1.each y hy) x8 hcd).mono (fun _ _ _ => trivial), l1.sz y hy⟩, fun z hz => (iz z hz).1.mono (fun _ _ _ => trivial), ((x1).s (D := fun c => c = cn ∨ c = cd ∨ c = 9) (.inl rfl)).tr ((x8).s (.inr (.inl rfl))), _, _, ((n1).ext x8 hcn hcc hcd).more (by omega), d8.more (by omega), (relN_take hr _ _).1⟩⟩
      rw [ey2, ez]
      exact (relN_take hr _ _).2
    simp only [Act.put, List.setIfInBounds_toArray, List.set_cons_zero, List.set_cons_succ]
    refine wpEffT_free (fun _ => .bool true) ?_ ?_
    focus
      intro B L w9 hL hD hC
      obtain ⟨h1, h2⟩ := hC.app hL (hD 7 (by kernel_rfl)) (by kernel_rfl) (by kernel_rfl) hD (by rfl) (by rfl)
      obtain ⟨colf, ys, zs, ey1, ez1, eyz, ey3, sy, sz, iy, iz, xf, df⟩ := h1
      have hs := same_lets w9 (fun _ => True) (fun _ => True) (B 3).1 (B 7).1 (B 3).2.2 (B 7).2.2 ys zs sy sz (fun y hy => (iy y hy).1) iz (fun y hy => (iy y hy).2) (by omega)
      rw [decide_eq_true eyz, ey1, ez1] at hs
      refine .inl ⟨by rfl, ?_⟩
      unfold effAtT
      go_simp
      refine hs.mono ?_
      rintro e w8 ⟨rfl, q8⟩
      exact ⟨(none, 0, 0), rfl, h2 _ _ ⟨colf, xf.tr (ExtS.nw q8 colf _), df.nw q8 hcn hcd⟩⟩
    simp only [Act.put, List.setIfInBounds_toArray, List.set_cons_zero, List.set_cons_succ]
    apply wpEffT_cons
    focus
      intro B L w9 hL hD hC
      obtain ⟨h1, h2⟩ := hC.store hL (hD 8 (by kernel_rfl)) (by kernel_rfl) hD
      refine .inl ⟨by rfl, ?_⟩
      unfold effAt
      go_simp
      exact ⟨rfl, h2 _ h1⟩
    simp only [Act.put, List.setIfInBounds_toArray, List.set_cons_zero, List.set_cons_succ]
    refine wpEffT_nil fun B wf hC => ?_
    have hfin := hC.fin (by rfl)
    clear hC
    go_wp2_with fail
    go_ret
    obtain ⟨colf, xf, nf⟩ := hfin
    exact ⟨rfl, colf, ExtS.tr (ExtS.nw qV col _) xf, nf⟩
  have i4 : ¬ (kk : Int) = 4 := by omega
  have i5 : ¬ (kk : Int) = 5 := by omega
  have i6 : ¬ (kk : Int) = 6 := by omega
  have i7 : ¬ (kk : Int) = 7 := by omega
  have i8 : ¬ (kk : Int) = 8 := by omega
  have b4 : ((kk : Int) == 4) = false := by simp [i4]
  have b5 : ((kk : Int) == 5) = false := by simp [i5]
  have b6 : ((kk : Int) == 6) = false := by simp [i6]
  have b7 : ((kk : Int) == 7) = false := by simp [i7]
  have b8 : ((kk : Int) == 8) = false := by simp [i8]
  have hle := lent_lets V (CB V col 0) d.l.a d.l.c d.l.l slV liV hlz (by omega)
  go_upto_region 15 with (go_at_call 29; refine hle.mono ?_; rintro e w4 ⟨A4, c4, ys, rfl, ey, hll, q4⟩)
  have hyl : ys.length = d.l.l.length := by simpa using congrArg List.length ey
  have hlm : ∀ k, Since V k → k < w4.heap.size → CB w4 (colN V col 9 (· < w4.heap.size)) 9 k := fun k hk hl => ⟨colN_in hk hl, hl⟩
  have hx4 : ExtS (fun _ => False) V w4 col (colN V col 9 (· < w4.heap.size)) := ⟨q4.mono fun k hk => hk.elim, fun k hk => colN_old hk, fun _ k hk => colN_out (Nat.le_trans q4.size hk) (by omega)⟩
  have hcl4 : ∀ k, w4.heap.size ≤ k → colN V col 9 (· < w4.heap.size) k = 0 := hx4.cln hclV
  have hl4 := hll.mono hlm
  obtain ⟨col4, hcol4⟩ : ∃ col4, col4 = colN V col 9 (· < w4.heap.size) := ⟨_, rfl⟩
  rw [← hcol4] at hl4 hx4 hcl4
  have n4 := nV.exts hx4 hcn (fun h => h) (fun h => h)
  have d4 := dV.exts hx4 hcd (fun h => h) (fun h => h)
  have sE4 := blk_exts sE cE hx4 (fun h => h)
  have sl4 : Sl w4 (CB w4 col4 0) d.l.a (letsC d.l.l) := (slV.fr q4 (fun _ _ h => h)).mono fun k hk _ => hk.exts hx4
  have li4 : ∀ x ∈ d.l.l, LetIn w4 (CB w4 col4 0) x := fun x hx => let_exts (liV x hx) hx4 (fun h => h)
  have hr := HR.out
  obtain ⟨ry, hry⟩ : ∃ ry, ry = (sendP p (d.l.l.map LetM.x)).2 := ⟨_, rfl⟩
  have hrd : (sendD Lx (d.l.l.map LetM.x)).2 = ry := by rw [hry]; exact (relN_send hr _).2.symm
  have hyz : ∀ y ∈ ys, LetSz y := szs_eq ey hlz
  have hEN4 : ∀ w9, Nw w4 w9 → Blk w9 E 35 (deedNA d) := fun w9 q => sE4.1.fr q (fun h => h)
  have hE1 : ∀ (t : AcT) w9, (fun (t : AcT) w9 => ∃ col1, Ext w4 w9 col4 col1 cn ∧ NetC w9 col1 cn gn (N + d.l.l.length) (sendP p (d.l.l.map LetM.x)).1) t w9 → Blk w9 E 35 (deedNA d) := fun t w9 hh => by
      obtain ⟨col1, x1, _⟩ := hh
      exact (blk_exts sE4.1 sE4.2 (x1.s (D := (· = cn)) rfl) (fun e => hcn e.symm)).1
  have hE2 : ∀ (t b : AcT) w9, (fun (t b : AcT) w9 => ∃ colf, ExtS (fun c => c = cn ∨ c = cd) w4 w9 col4 colf ∧ Duo w9 colf cn cd gn gd (N + 1 + d.l.l.length)) t b w9 → Blk w9 E 35 (deedNA d) := fun t b w9 hh => by
      obtain ⟨colf, xf, _⟩ := hh
      exact (blk_exts sE4.1 sE4.2 xf (fun e => by rcases e with e | e <;> omega)).1
  have hE3 := hE2
  have HRY := Lib.hid hry
  clear hcol4 hle hlm hry
  refine wp_region_appT (T := AcT) 2 6 8 12 (fun w9 => Nw w4 w9) (fun (t : AcT) w9 => ∃ col1, Ext w4 w9 col4 col1 cn ∧ NetC w9 col1 cn gn (N + d.l.l.length) (sendP p (d.l.l.map LetM.x)).1) (fun (t b : AcT) w9 => ∃ colf, ExtS (fun c => c = cn ∨ c = cd) w4 w9 col4 colf ∧ Duo w9 colf cn cd gn gd (N + 1 + d.l.l.length)) (fun (t b : AcT) w9 => ∃ colf, ExtS (fun c => c = cn ∨ c = cd) w4 w9 col4 colf ∧ Duo w9 colf cn cd gn gd (N + 1 + d.l.l.length)) (fun (t b : AcT) w9 => ∃ colf, ExtS (fun c => c = cn ∨ c = cd) w4 w9 col4 colf ∧ Duo w9 colf cn cd gn gd (N + 1 + d.l.l.length)) (fun _ => (none, 0, 0)) (by kernel_rfl) (by kernel_rfl) ((Fr.refl (fun _ => False) w4).drew) ?_
  apply wpEffT_cons
  focus
    intro B L w9 hL hD hC
    refine .inl ⟨by rfl, ?_⟩
    unfold effAt
    go_simp
    exact ⟨rfl, hC.keep (by kernel_rfl) hD (by rfl) (by rfl) (by rfl) (by rfl)⟩
  simp only [Act.put, List.setIfInBounds_toArray, List.set_cons_zero, List.set_cons_succ]
  apply wpEffT_cons
  focus
    intro B L w9 hL hD hC
    refine .inl ⟨by rfl, ?_⟩
    unfold effAt
    go_simp
    exact ⟨rfl, hC.keep (by kernel_rfl) hD (by rfl) (by rfl) (by rfl) (by rfl)⟩
  simp only [Act.put, List.setIfInBounds_toArray, List.set_cons_zero, List.set_cons_succ]
  refine wpEffT_free (fun _ => I64 (ry : Nat)) ?_ ?_
  focus
    intro B L w9 hL hD hC
    obtain ⟨h1, h2⟩ := hC.call hL (by kernel_rfl) (by kernel_rfl) (by kernel_rfl) (by kernel_rfl) hD (by rfl) (by rfl) (by rfl)
    have hsn := nSend hcn (n4.nw h1 hcn) (by omega) (CB w4 col4 9) A4 c4 ys ((hl4.in_.ls.sl).fr h1 (fun _ _ h => h)) (fun y hy => (hl4.in_.each y hy).nw h1) hyz (by omega) (fun k hk e => h9n (e.symm.trans hk.1))
    rw [hyl, ey, ← HRY.out] at hsn
    refine .inl ⟨by rfl, ?_⟩
    unfold effAtT
    go_simp
    refine hsn.mono ?_
    rintro e w8 ⟨rfl, col8, x8, n8⟩
    exact ⟨(none, 0, 0), rfl, h2 _ _ ⟨col8, (Ext.nw h1 _ _).tr x8, n8⟩⟩
  simp only [Act.put, List.setIfInBounds_toArray, List.set_cons_zero, List.set_cons_succ]
  apply wpEffT_cons
  focus
    intro B L w9 hL hD hC
    refine .inl ⟨by rfl, ?_⟩
    unfold effAt
    go_simp
    exact ⟨rfl, hC.keep (by kernel_rfl) hD (by rfl) (by rfl) (by rfl) (by rfl)⟩
  simp only [Act.put, List.setIfInBounds_toArray, List.set_cons_zero, List.set_cons_succ]
  apply wpEffT_cons
  focus
    intro B L w9 hL hD hC
    refine .inl ⟨by rfl, ?_⟩
    unfold effAt
    go_simp
    exact ⟨rfl, hC.keep (by kernel_rfl) hD (by rfl) (by rfl) (by rfl) (by rfl)⟩
  simp only [Act.put, List.setIfInBounds_toArray, List.set_cons_zero, List.set_cons_succ]
  apply wpEffT_cons
  focus
    intro B L w9 hL hD hC
    have hE9 : Blk w9 E 35 (deedNA d) := hC.all (fun h => hEN4 w9 h) (fun a h => hE1 a w9 h) (fun a b h => hE2 a b w9 h) (fun a b h => hE3 a b w9 h) (fun a b h => hE3 a b w9 h)
    have e1 : w9.cell? ⟨E, 1, none⟩ = some (I64 d.src) := by simpa using hE9.cell 1
    have e2 : w9.cell? ⟨E, 2, none⟩ = some (I64 d.dst) := by simpa using hE9.cell 2
    have e3 : w9.cell? ⟨E, 3, none⟩ = some (.slice d.l.a d.l.l.length d.l.c) := by simpa using hE9.cell 3
    refine .inl ⟨by rfl, ?_⟩
    unfold effAt
    go_simp
    exact ⟨rfl, hC.keep (by kernel_rfl) hD (by rfl) (by rfl) (by rfl) (by rfl)⟩
  simp only [Act.put, List.setIfInBounds_toArray, List.set_cons_zero, List.set_cons_succ]
  refine wpEffT_free (fun _ => I64 (ry : Nat)) ?_ ?_
  focus
    intro B L w9 hL hD hC
    obtain ⟨h1, h2⟩ := hC.build hL (hD 2 (by kernel_rfl)) (by kernel_rfl) (by kernel_rfl) (by kernel_rfl) hD (by rfl) (by rfl) (by rfl)
    obtain ⟨col1, x1, n1⟩ := h1
    have hsn := vSend hcd (d4.ext x1 hcd (fun e => hcc e.symm) hcn) (by omega) (CB w9 col1 0) d.l.a d.l.c d.l.l ((sl4.fr x1.fr (fun k hk hh => hcn (hh.1.symm.trans hk.1))).mono fun k hk _ => hk.ext x1) (fun x hx => let_ext (li4 x hx) x1 hcn) hlz hln (fun k hk => ⟨fun e => hcd (e.symm.trans hk.1), hk.2⟩)
    rw [hrd] at hsn
    refine .inl ⟨by rfl, ?_⟩
    unfold effAtT
    go_simp
    refine hsn.mono ?_
    rintro e w8 ⟨rfl, col8, x8, d8⟩
    exact ⟨(none, 0, 0), rfl, h2 _ _ ⟨col8, (x1.s (D := fun c => c = cn ∨ c = cd) (.inl rfl)).tr (x8.s (.inr rfl)), _, _, (n1.ext x8 hcn hcc hcd).more (by omega), d8.more (by omega), (relN_send hr _).1⟩⟩
  simp only [Act.put, List.setIfInBounds_toArray, List.set_cons_zero, List.set_cons_succ]
  apply wpEffT_cons
  focus
    intro B L w9 hL hD hC
    refine .inl ⟨by rfl, ?_⟩
    unfold effAt
    go_simp
    exact ⟨rfl, hC.keep (by kernel_rfl) hD (by rfl) (by rfl) (by rfl) (by rfl)⟩
  simp only [Act.put, List.setIfInBounds_toArray, List.set_cons_zero, List.set_cons_succ]
  refine wpEffT_free (fun _ => .bool true) ?_ ?_
  focus
    intro B L w9 hL hD hC
    obtain ⟨h1, h2⟩ := hC.app hL (hD 6 (by kernel_rfl)) (by kernel_rfl) (by kernel_rfl) hD (by rfl) (by rfl)
    refine .inl ⟨by rfl, ?_⟩
    unfold effAtT
    go_simp
    exact ⟨(none, 0, 0), by simp, h2 _ _ h1⟩
  simp only [Act.put, List.setIfInBounds_toArray, List.set_cons_zero, List.set_cons_succ]
  apply wpEffT_cons
  focus
    intro B L w9 hL hD hC
    refine .inl ⟨by rfl, ?_⟩
    unfold effAt
    go_simp
    exact ⟨rfl, hC.keep (by kernel_rfl) hD (by rfl) (by rfl) (by rfl) (by rfl)⟩
  simp only [Act.put, List.setIfInBounds_toArray, List.set_cons_zero, List.set_cons_succ]
  apply wpEffT_cons
  focus
    intro B L w9 hL hD hC
    refine .inl ⟨by rfl, ?_⟩
    unfold effAt
    go_simp
    exact ⟨rfl, hC.keep (by kernel_rfl) hD (by rfl) (by rfl) (by rfl) (by rfl)⟩
  simp only [Act.put, List.setIfInBounds_toArray, List.set_cons_zero, List.set_cons_succ]
  apply wpEffT_cons
  focus
    intro B L w9 hL hD hC
    have hE9 : Blk w9 E 35 (deedNA d) := hC.all (fun h => hEN4 w9 h) (fun a h => hE1 a w9 h) (fun a b h => hE2 a b w9 h) (fun a b h => hE3 a b w9 h) (fun a b h => hE3 a b w9 h)
    have e1 : w9.cell? ⟨E, 1, none⟩ = some (I64 d.src) := by simpa using hE9.cell 1
    have e2 : w9.cell? ⟨E, 2, none⟩ = some (I64 d.dst) := by simpa using hE9.cell 2
    have e3 : w9.cell? ⟨E, 3, none⟩ = some (.slice d.l.a d.l.l.length d.l.c) := by simpa using hE9.cell 3
    refine .inl ⟨by rfl, ?_⟩
    unfold effAt
    go_simp
    exact ⟨rfl, hC.keep (by kernel_rfl) hD (by rfl) (by rfl) (by rfl) (by rfl)⟩
  simp only [Act.put, List.setIfInBounds_toArray, List.set_cons_zero, List.set_cons_succ]
  apply wpEffT_cons
  focus
    intro B L w9 hL hD hC
    obtain ⟨h1, h2⟩ := hC.store hL (hD 8 (by kernel_rfl)) (by kernel_rfl) hD
    obtain ⟨colf, xf, df⟩ := h1
    have hkp := kept_lets w9 (CB w4 col4 9) (CB w4 col4 0) ⟨A4, c4, ys⟩ (hl4.fr xf.fr (fun k hk hh => by have h7 := hk.1; rcases hh.1 with e | e <;> omega)) d.l.a d.l.c d.l.l (sl4.fr xf.fr (fun k hk hh => by have h7 := hk.1; rcases hh.1 with e | e <;> omega)) (fun x hx => (li4 x hx).fr xf.fr (fun k hk hh => by have h7 := hk.1; rcases hh.1 with e | e <;> omega)) ey hyz (by show ys.length ≤ _; omega)
    refine .inl ⟨by rfl, ?_⟩
    unfold effAt
    go_simp
    have hkp2 : Calls Tryz.prog 39 #[.slice A4 d.l.l.length c4, .slice d.l.a d.l.l.length d.l.c] w9 fun e w' => e = .returned (.bool true) ∧ Nw w9 w' := by rw [← hyl]; rw [← hyl] at hkp; exact hkp
    refine hkp2.mono ?_
    rintro e w8 ⟨rfl, q8⟩
    exact ⟨rfl, h2 _ ⟨colf, xf.tr (ExtS.nw q8 colf _), df.nw q8 hcn hcd⟩⟩
  simp only [Act.put, List.setIfInBounds_toArray, List.set_cons_zero, List.set_cons_succ]
  apply wpEffT_cons
  focus
    intro B L w9 hL hD hC
    refine .inl ⟨by rfl, ?_⟩
    unfold effAt
    go_simp
    exact ⟨rfl, hC.keep (by kernel_rfl) hD (by rfl) (by rfl) (by rfl) (by rfl)⟩
  simp only [Act.put, List.setIfInBounds_toArray, List.set_cons_zero, List.set_cons_succ]
  apply wpEffT_cons
  focus
    intro B L w9 hL hD hC
    refine .inl ⟨by rfl, ?_⟩
    unfold effAt
    go_simp
    exact ⟨rfl, hC.keep (by kernel_rfl) hD (by rfl) (by rfl) (by rfl) (by rfl)⟩
  simp only [Act.put, List.setIfInBounds_toArray, List.set_cons_zero, List.set_cons_succ]
  refine wpEffT_nil fun B wf hC => ?_
  have hfin := hC.fin (by rfl)
  clear hC
  obtain ⟨colf, xf, df⟩ := hfin
  have hov := over_lets wf (CB w4 col4 9) ⟨A4, c4, ys⟩ (hl4.fr xf.fr (fun k hk hh => by have h7 := hk.1; rcases hh.1 with e | e <;> omega)) hyz (by show ys.length ≤ _; omega)
  have hov2 : Calls Tryz.prog 58 #[.slice A4 d.l.l.length c4] wf fun e w' => e = .returned (.tuple #[]) ∧ Fr (CB w4 col4 9) wf w' := by rw [← hyl]; exact hov
  have HDF := Lib.hid df
  have HXF := Lib.hid xf
  clear df xf hov
  go_wp2_with (go_at_call 58; refine hov2.mono ?_; rintro e w6 ⟨rfl, f6⟩)
  go_ret
  have xf := HXF.out
  have x6 : ExtS (fun c => c = cn ∨ c = cd ∨ c = 9) wf w6 colf colf := ⟨f6.mono fun k hk => .inl ⟨.inr (.inr ((xf.ext k hk.2).trans hk.1)), Nat.lt_of_lt_of_le hk.2 xf.size⟩, fun _ _ => rfl, fun h0 k hk => h0 k (Nat.le_trans f6.size hk)⟩
  have x6b : ExtS (fun c => c = 9) wf w6 colf colf := ⟨f6.mono fun k hk => .inl ⟨(xf.ext k hk.2).trans hk.1, Nat.lt_of_lt_of_le hk.2 xf.size⟩, fun _ _ => rfl, fun h0 k hk => h0 k (Nat.le_trans f6.size hk)⟩
  exact ⟨rfl, colf, (ExtS.nw qV col _).tr ((hx4.mono (fun _ h => h.elim)).tr ((xf.mono (fun c hc => hc.elim .inl (fun h => .inr (.inl h)))).tr x6)), HDF.out.exts x6b hcn hcd h9n h9d (by decide)⟩
end Go.Proofs.YtippdjaakcgeoaaGreat
