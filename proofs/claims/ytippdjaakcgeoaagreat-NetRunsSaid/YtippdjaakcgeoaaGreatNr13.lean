/- Lemmas of the walks: DnD, DnE. (Laid together by shake.py.) -/
import Derived.Test.YtippdjaakcgeoaaGreatNr12
set_option linter.unusedVariables false
set_option linter.unusedSimpArgs false
namespace Go.Proofs.YtippdjaakcgeoaaGreat
open Go Go.RowKit
set_option linter.unusedVariables false
set_option linter.unusedSimpArgs false

set_option maxRecDepth 100000 in
set_option maxHeartbeats 4000000 in
theorem dLose_of (w : World) (g : Nat) (a b : Int) (d : Bool) (Pst : World → Prop) (hP : ∀ w1 w2, Pst w1 → Nw w1 w2 → Pst w2)
    (hd : Calls Tryz.prog 53 #[.pointer (some ⟨g, 0, none⟩), I64 a, I64 b] w fun e w' => ∃ x, e = .returned (.tuple #[.agg (letA x), .bool d]) ∧ Pst w') :
    Calls Tryz.prog 54 #[.pointer (some ⟨g, 0, none⟩), I64 a, I64 b] w fun e w' => e = .returned (.bool d) ∧ Pst w' := by
  have HP := Lib.hid hP
  clear hP
  go_enter Tryz.func54, Tryz.ntmps54
  go_wp2_with (first | (go_at_call 53; refine hd.mono ?_; rintro e w1 ⟨x, rfl, p1⟩; obtain ⟨D, hD⟩ : ∃ D, D = w1.heap.size := ⟨_, rfl⟩; obtain ⟨V0, hV0⟩ : ∃ V, V = w1.alloc (.cells #[U8V 0, I64 0, I64 0, I64 0, I64 0, I64 0, I64 0, I64 0, .bool false, .slice none 0 0, I64 0, I64 0, .slice none 0 0, .slice none 0 0, .slice none 0 0, .slice none 0 0, I64 0, I64 0, I64 0, .slice none 0 0] 50) := ⟨_, rfl⟩; have q0 : Nw w1 V0 := (by rw [hV0]; exact (Fr.refl (fun _ => False) _).alloc _); have y0 : Blk V0 D 50 #[U8V 0, I64 0, I64 0, I64 0, I64 0, I64 0, I64 0, I64 0, .bool false, .slice none 0 0, I64 0, I64 0, .slice none 0 0, .slice none 0 0, .slice none 0 0, .slice none 0 0, I64 0, I64 0, I64 0, .slice none 0 0] := (by rw [hV0, hD]; exact Blk.new _ _ _); have th := Blk.there (l := [U8V 0, I64 0, I64 0, I64 0, I64 0, I64 0, I64 0, I64 0, .bool false, .slice none 0 0, I64 0, I64 0, .slice none 0 0, .slice none 0 0, .slice none 0 0, .slice none 0 0, I64 0, I64 0, I64 0, .slice none 0 0]) y0 0 20 (by show 0 + 20 ≤ 20; omega); have one := letA_one x; obtain ⟨V1, hV1⟩ : ∃ V, V = V0.setCells D 0 [U8V x.kind, I64 x.group, I64 x.src, I64 x.dst, I64 x.term, I64 x.index, I64 x.logt, I64 x.commit, .bool x.ok, .slice x.ents.a x.ents.l.length x.ents.c, I64 x.base.index, I64 x.base.term, .slice x.base.cfg.v.a x.base.cfg.v.l.length x.base.cfg.v.c, .slice x.base.cfg.o.a x.base.cfg.o.l.length x.base.cfg.o.c, .slice x.base.cfg.l.a x.base.cfg.l.l.length x.base.cfg.l.c, .slice x.base.cfg.w.a x.base.cfg.w.l.length x.base.cfg.w.c, I64 x.size, I64 x.at_, I64 x.tag, .slice x.bytes.a x.bytes.l.length x.bytes.c] := ⟨_, rfl⟩; have m1 : Fr (· = D) V0 V1 := (by rw [hV1]; exact (Fr.refl (· = D) _).setCells _ _); have q1 : Nw w1 V1 := q0.new m1 (fun b hb => by omega); have HD := Lib.hid hD; have HV0 := Lib.hid hV0; have HV1 := Lib.hid hV1; clear hD hV0 hV1 m1 q0 y0) | (rw [← HV0.out, ← HD.out]; refine wpList_store_mid rfl 50 _ _ rfl D 0 #[U8V x.kind, I64 x.group, I64 x.src, I64 x.dst, I64 x.term, I64 x.index, I64 x.logt, I64 x.commit, .bool x.ok, .slice x.ents.a x.ents.l.length x.ents.c, I64 x.base.index, I64 x.base.term, .slice x.base.cfg.v.a x.base.cfg.v.l.length x.base.cfg.v.c, .slice x.base.cfg.o.a x.base.cfg.o.l.length x.base.cfg.o.c, .slice x.base.cfg.l.a x.base.cfg.l.l.length x.base.cfg.l.c, .slice x.base.cfg.w.a x.base.cfg.w.l.length x.base.cfg.w.c, I64 x.size, I64 x.at_, I64 x.tag, .slice x.bytes.a x.bytes.l.length x.bytes.c] rfl rfl th (by kernel_rfl) one ?_; rw [← HV1.out]))
  go_ret
  exact ⟨rfl, HP.out _ _ p1 q1⟩
/-- A letter's row put behind: what Twice leaves. -/
def twD (L : List LetF) (n : Nm) : List LetF × Bool :=
  match lnk L n with
  | [] => (L, false)
  | x :: l => if 40 ≤ (x :: l).length then (L, false) else (setD L n ((x :: l) ++ [x]), true)
set_option maxRecDepth 100000 in
set_option maxHeartbeats 8000000 in
theorem dTwice_any (w : World) (O I : Nat → Prop) (X : DocM) (h : IsDoc w O I X) (hsz : X.r.l.length ≤ 100000000) (a b : Int) :
    Calls Tryz.prog 55 #[.pointer (some ⟨X.g, 0, none⟩), I64 a, I64 b] w fun e w' => e = .returned (.bool (twD X.L (a, b)).2) ∧ ∃ (O' I' : Nat → Prop) (X' : DocM), IsDoc w' O' I' X' ∧ X'.g = X.g ∧ X'.L = (twD X.L (a, b)).1 ∧ Fr O w w' ∧ (∀ k, O' k → O k ∨ w.heap.size ≤ k) ∧ ∀ k, I' k → I k ∨ w.heap.size ≤ k := by
  have hw0 := dWaiting_any w O I X h hsz a b
  have hle := lnk_le X.L (a, b)
  rw [List.length_map] at hle
  have hOw := h.ol
  have hIw := h.il
  by_cases hno : lnk X.L (a, b) = [] ∨ 40 ≤ (lnk X.L (a, b)).length
  · have e1 : twD X.L (a, b) = (X.L, false) := by
      unfold twD
      rcases hno with h0 | h0
      · rw [h0]
      · cases hl : lnk X.L (a, b) with
        | nil => rfl
        | cons x l => simp only []; rw [if_pos (by rw [← hl]; exact h0)]
    rw [e1]
    have hw : Calls Tryz.prog 59 #[.pointer (some ⟨X.g, 0, none⟩), I64 a, I64 b] w fun e w' => ∃ A c n, e = .returned (.slice A n c) ∧ (n = 0 ∨ 40 ≤ n) ∧ Nw w w' := hw0.mono fun e w' h => by
      obtain ⟨A, c, ys, h1, h2, _, _, _, h3, _⟩ := h
      rw [← h2, List.length_map] at hno
      refine ⟨A, c, _, h1, ?_, h3⟩
      rcases hno with h0 | h0
      · rw [List.map_eq_nil_iff.1 h0]; exact .inl rfl
      · exact .inr h0
    clear hw0 hno e1
    go_enter Tryz.func55, Tryz.ntmps55
    go_upto_region 2 with (go_at_call 59; refine hw.mono ?_; rintro e w1 ⟨A1, c1, n, rfl, hn, q1⟩)
    have fin : Nw w w1 := q1
    by_cases hn0 : n = 0
    · subst hn0
      go_wp2_with fail
      go_ret
      exact ⟨rfl, O, I, X, h.nw q1, rfl, rfl, Nw.on q1, fun _ h => .inl h, fun _ h => .inl h⟩
    · have hi : ¬ (n : Int) = 0 := by omega
      have hbz : ((n : Int) == 0) = false := by have h0 : ¬ n = 0 := (by omega); simp [h0]
      have h40 : (40 : Int) ≤ (n : Int) := by omega
      have hd40 : decide ((40 : Int) ≤ (n : Int)) = true := decide_eq_true h40
      go_wp2_with fail
      go_ret
      exact ⟨rfl, O, I, X, h.nw q1, rfl, rfl, Nw.on q1, fun _ h => .inl h, fun _ h => .inl h⟩
  · have hn1 : ¬ lnk X.L (a, b) = [] := fun e => hno (.inl e)
    have hn2 : (lnk X.L (a, b)).length < 40 := by
      rcases Nat.lt_or_ge (lnk X.L (a, b)).length 40 with h0 | h0
      · exact h0
      · exact (hno (.inr h0)).elim
    have hw : Calls Tryz.prog 59 #[.pointer (some ⟨X.g, 0, none⟩), I64 a, I64 b] w fun e w' => ∃ A c x r n, e = .returned (.slice A n c) ∧ n = r.length + 1 ∧ n < 40 ∧ (x :: r).map LetM.x = lnk X.L (a, b) ∧ Own w' 50 20 A n c (letsC (x :: r)) ∧ (∀ y ∈ x :: r, LetIn w' (fun j => Since w j ∧ ¬ inA A j) y) ∧ (∀ y ∈ x :: r, LetSz y) ∧ Nw w w' ∧ (∀ k, inA A k → w.heap.size ≤ k) := hw0.mono fun e w' h => by
      obtain ⟨A, c, ys, h1, h2, h3, h4, h5, h6, h7⟩ := h
      cases ys with
      | nil => exact (hn1 h2.symm).elim
      | cons x r =>
        rw [← h2, List.length_map] at hn2
        exact ⟨A, c, x, r, (x :: r).length, h1, rfl, hn2, h2, h3, h4, h5, h6, h7⟩
    clear hw0 hno hn1 hn2
    obtain ⟨T, hT⟩ : ∃ T, T = twD X.L (a, b) := ⟨_, rfl⟩
    rw [← hT]
    have hT2 : ∀ x r, (x :: r).map LetM.x = lnk X.L (a, b) → r.length + 1 < 40 → T = (setD X.L (a, b) (((x :: r) : List LetM).map LetM.x ++ [x.x]), true) := fun x r h1 h2 => by
      rw [hT]
      unfold twD
      rw [← h1, List.map_cons]
      simp only []
      rw [if_neg (by rw [List.length_cons, List.length_map]; omega)]
    have HT := Lib.hid hT2
    clear hT hT2
    go_enter Tryz.func55, Tryz.ntmps55
    go_upto_region 2 with (go_at_call 59; refine hw.mono ?_; rintro e w1 ⟨A1, c1, x, r, n, rfl, hnr, hn40, er, o1, i1, z1, q1, b1⟩; have hn1 : 0 < n := (by omega); have HNR := Lib.hid hnr; clear hnr)
    have HET := Lib.hid (HT.out x r er (by have := HNR.out; omega))
    have hi : ¬ (n : Int) = 0 := by omega
    have hbz : ((n : Int) == 0) = false := by have h0 : ¬ n = 0 := (by omega); simp [h0]
    have h40 : ¬ (40 : Int) ≤ (n : Int) := by omega
    have hd40 : decide ((40 : Int) ≤ (n : Int)) = false := decide_eq_false h40
    have hi0 : (0 : Int) < (n : Int) := by omega
    obtain ⟨g2, o2, rfl, _, _, hc⟩ := o1.sl.let_ (k := 0) (by simp)
    have hc' : ∀ j u, (letL x)[j]? = some u → w1.cell? ⟨g2, o2 + j, none⟩ = some u := fun j u hu => by have := hc j u hu; simpa using this
    have hcp := copy_let w1 _ x (i1 x List.mem_cons_self) (z1 x List.mem_cons_self)
    have N1 := h.nw q1
    have ER := Lib.hid er
    have I1 := Lib.hid i1
    have Z1 := Lib.hid z1
    have hset : ∀ w5 A5 c5 y, Nw w w5 → Own w5 50 20 A5 (n + 1) c5 (letsC ((x :: r) ++ [y])) → (∀ k, inA A5 k → w.heap.size ≤ k) → Calls Tryz.prog 106 #[.pointer (some ⟨X.g, 0, none⟩), I64 a, I64 b, .slice A5 (n + 1) c5] w5 fun e w' => e = .returned (.tuple #[]) ∧ ∃ D', DocSet w5 w' O I (fun k => w.heap.size ≤ k) X D' (a, b) ((x :: r) ++ [y]) := fun w5 A5 c5 y q5 o5 b5 => by
      have h9 := dSet_any w5 O I (fun k => w.heap.size ≤ k) X (h.nw q5) hsz a b A5 c5 ((x :: r) ++ [y]) (o5.sl.mono fun k hk _ => b5 k hk) (fun k hk e => by have := h.blk.lt; omega) (by rw [List.length_append, List.length_cons]; show r.length + 1 + 1 ≤ _; have := HNR.out; omega)
      have e9 : ((x :: r) ++ [y]).length = n + 1 := by rw [List.length_append, List.length_cons]; show r.length + 1 + 1 = _; have := HNR.out; omega
      rw [e9] at h9
      exact h9
    have HSET := Lib.hid hset
    clear er i1 z1 hw hset hc
    go_wp2_with (first | (refine wl_load_cells rfl 50 _ rfl g2 o2 rfl _ _ hc' Tryz.underlying50 rfl (by kernel_rfl) ?_) | (go_at_call 64; refine hcp.mono ?_; rintro e w2 ⟨y, rfl, ey, iy, q2⟩; have HEY := Lib.hid ey; clear ey) | (refine wl_build rfl 28 1 _ 20 [letL y] (.agg #[U8V 0, I64 0, I64 0, I64 0, I64 0, I64 0, I64 0, I64 0, .bool false, .slice none 0 0, I64 0, I64 0, .slice none 0 0, .slice none 0 0, .slice none 0 0, .slice none 0 0, I64 0, I64 0, I64 0, .slice none 0 0]) rfl Tryz.underlying28 (by kernel_rfl) rfl (by decide) (by decide) (by simp) (by decide) rfl ?_; intro g8 w8 hg8 hw8; obtain ⟨q8, s8⟩ := lets_slD [y] hg8 hw8; have hoa := (o1.fr q2 (fun _ _ h => h)).fr q8 (fun _ _ h => h); clear hg8 hw8) | (at_builtin; refine wl_append2 rfl _ _ _ rfl 256 (.agg #[U8V 0, I64 0, I64 0, I64 0, I64 0, I64 0, I64 0, I64 0, .bool false, .slice none 0 0, I64 0, I64 0, .slice none 0 0, .slice none 0 0, .slice none 0 0, .slice none 0 0, I64 0, I64 0, I64 0, .slice none 0 0]) Tryz.underlying28 info_let rfl (by decide) rfl hoa rfl s8 (by rfl) (letsC_cell _) (by omega) (by unfold maxLen; omega) ?_; intro A5 c5 w5 hap; obtain ⟨o5, q5, n5⟩ := hap.newOwn ((q1.tr q2).tr q8) b1; rw [← letsC_append] at o5) | (go_at_call 106; refine (HSET.out w5 A5 c5 y q5 o5 n5).mono ?_; rintro e w6 ⟨rfl, X6, hX6⟩))
    go_ret
    have h1 := q1.size
    have h2 := q2.size
    have h8 := q8.size
    have h5s := hap.fr.size
    have hin := hap.inA_
    have hA1 : ∀ k, inA (some ⟨g2, o2, none⟩) k → k < w1.heap.size := o1.lt
    obtain ⟨N6, e6, f6⟩ := DocSet.doc (J := fun k => (w.heap.size ≤ k ∧ ¬ inA (some ⟨g2, o2, none⟩) k) ∧ k < w8.heap.size) (h.nw q5) hX6 (fun k hk => ⟨by omega, fun ho => by have := hOw k ho; omega⟩) (fun z hz => by
      rcases List.mem_append.1 hz with hz | hz
      · exact ((((I1.out z hz).nw (q2.tr q8)).mono (F' := fun k => (w.heap.size ≤ k ∧ ¬ inA (some ⟨g2, o2, none⟩) k) ∧ k < w8.heap.size) (fun k hk hl => ⟨hk, hl⟩)).fr hap.fr (fun k hk => hk.1.2))
      · rw [List.mem_singleton.1 hz]
        refine ((iy.nw q8).mono (F' := fun k => (w.heap.size ≤ k ∧ ¬ inA (some ⟨g2, o2, none⟩) k) ∧ k < w8.heap.size) (fun k hk hl => ⟨⟨?_, fun hh => ?_⟩, hl⟩)).fr hap.fr (fun k hk => hk.1.2)
        · unfold Since at hk; omega
        · have := hA1 k hh; unfold Since at hk; omega) (fun z hz => by
      rcases List.mem_append.1 hz with hz | hz
      · exact Z1.out z hz
      · rw [List.mem_singleton.1 hz]; exact LetSz.of_eq HEY.out (Z1.out x List.mem_cons_self))
    refine ⟨by rw [HET.out]; rfl, _, _, X6, N6, hX6.g, by rw [e6, HET.out, List.map_append, List.map_singleton, HEY.out], (Nw.on q5).tr f6, fun k hk => ?_, fun k hk => ?_⟩
    · rcases hk with hk | hk
      · exact .inl hk
      · have := hX6.new k hk; have := q5.size; exact .inr (by omega)
    · rcases hk with hk | hk
      · exact .inl hk
      · exact .inr hk.1.1
set_option maxRecDepth 100000 in
set_option maxHeartbeats 4000000 in
theorem copy_letsH (w : World) (F : Nat → Prop) (A : Option Addr) (c : Nat) (xs : List LetM) (h : Sl w F A (letsC xs)) (e1 : ∀ e ∈ xs, LetIn w F e) (hz : ∀ e ∈ xs, LetSz e) (hsz : xs.length ≤ 100000000) :
    Calls Tryz.prog 52 #[.slice A xs.length c] w fun e w' => ∃ A' c' ys, e = .returned (.slice A' xs.length c') ∧ ys.map LetM.x = xs.map LetM.x ∧ Own w' 50 20 A' xs.length c' (letsC ys) ∧ (∀ y ∈ ys, LetIn w' (fun k => Since w k ∧ ¬ inA A' k) y) ∧ Nw w w' ∧ ∀ k, inA A' k → w.heap.size ≤ k := by
  have HZ := Lib.hid hz
  have E1 := Lib.hid e1
  clear hz e1
  go_enter Tryz.func52, Tryz.ntmps52
  go_wp2_with fail
  go_loopw [3, 4] (fun v i wr => copy_letsR w xs v i wr) (fun _ i _ => xs.length - (intOf i).toNat)
  case atStart => exact ⟨0, [], none, 0, Nat.zero_le _, rfl, rfl, rfl, Own.nil _ _ _, (by intro y hy; cases hy), Fr.refl _ _, fun k hk => (inA_none k hk).elim⟩
  case round =>
    obtain ⟨k, ys, B, c2, hk, rfl, rfl, ht, ho, hys, hq, hB⟩ := hrel
    have HT := Lib.hid ht
    clear ht
    by_cases hlt : k < xs.length
    · obtain ⟨b, o, rfl, _, _, hc⟩ := (h.fr hq (fun _ _ h => h)).let_ hlt
      have hi0 : (k : Int) < (xs.length : Int) := by omega
      have x1 := (E1.out _ (List.getElem_mem hlt)).nw hq
      have z1 := HZ.out _ (List.getElem_mem hlt)
      obtain ⟨x, hx⟩ : ∃ x, xs[k] = x := ⟨_, rfl⟩
      rw [hx] at x1 z1 hc
      have HX := Lib.hid hx
      have HYS := Lib.hid hys
      clear hx hys
      go_wp2_with (refine wl_load_cells rfl 50 _ rfl b (o + k * 20) rfl _ _ hc Tryz.underlying50 rfl (by kernel_rfl) ?_)
      refine (copy_let _ F x x1 z1).mono ?_
      rintro e w1 ⟨y, rfl, ey, iy, q1⟩
      obtain ⟨G, hG⟩ : ∃ G, G = w1.heap.size := ⟨_, rfl⟩
      obtain ⟨V0, hV0⟩ : ∃ V, V = w1.alloc (.cells #[U8V 0, I64 0, I64 0, I64 0, I64 0, I64 0, I64 0, I64 0, .bool false, .slice none 0 0, I64 0, I64 0, .slice none 0 0, .slice none 0 0, .slice none 0 0, .slice none 0 0, I64 0, I64 0, I64 0, .slice none 0 0] 50) := ⟨_, rfl⟩
      have qv0 : Nw w1 V0 := by rw [hV0]; exact (Fr.refl (fun _ => False) w1).alloc _
      have g0 : Blk V0 G 50 #[U8V 0, I64 0, I64 0, I64 0, I64 0, I64 0, I64 0, I64 0, .bool false, .slice none 0 0, I64 0, I64 0, .slice none 0 0, .slice none 0 0, .slice none 0 0, .slice none 0 0, I64 0, I64 0, I64 0, .slice none 0 0] := by rw [hV0, hG]; exact Blk.new _ _ _
      obtain ⟨V1, hV1⟩ : ∃ V, V = V0.setCells G 0 [U8V y.kind, I64 y.group, I64 y.src, I64 y.dst, I64 y.term, I64 y.index, I64 y.logt, I64 y.commit, .bool y.ok, .slice y.ents.a y.ents.l.length y.ents.c, I64 y.base.index, I64 y.base.term, .slice y.base.cfg.v.a y.base.cfg.v.l.length y.base.cfg.v.c, .slice y.base.cfg.o.a y.base.cfg.o.l.length y.base.cfg.o.c, .slice y.base.cfg.l.a y.base.cfg.l.l.length y.base.cfg.l.c, .slice y.base.cfg.w.a y.base.cfg.w.l.length y.base.cfg.w.c, I64 y.size, I64 y.at_, I64 y.tag, .slice y.bytes.a y.bytes.l.length y.bytes.c] := ⟨_, rfl⟩
      have g1 : Blk V1 G 50 #[U8V y.kind, I64 y.group, I64 y.src, I64 y.dst, I64 y.term, I64 y.index, I64 y.logt, I64 y.commit, .bool y.ok, .slice y.ents.a y.ents.l.length y.ents.c, I64 y.base.index, I64 y.base.term, .slice y.base.cfg.v.a y.base.cfg.v.l.length y.base.cfg.v.c, .slice y.base.cfg.o.a y.base.cfg.o.l.length y.base.cfg.o.c, .slice y.base.cfg.l.a y.base.cfg.l.l.length y.base.cfg.l.c, .slice y.base.cfg.w.a y.base.cfg.w.l.length y.base.cfg.w.c, I64 y.size, I64 y.at_, I64 y.tag, .slice y.bytes.a y.bytes.l.length y.bytes.c] := by rw [hV1]; exact Blk.setCells (l := [U8V 0, I64 0, I64 0, I64 0, I64 0, I64 0, I64 0, I64 0, .bool false, .slice none 0 0, I64 0, I64 0, .slice none 0 0, .slice none 0 0, .slice none 0 0, .slice none 0 0, I64 0, I64 0, I64 0, .slice none 0 0]) g0 0 [U8V y.kind, I64 y.group, I64 y.src, I64 y.dst, I64 y.term, I64 y.index, I64 y.logt, I64 y.commit, .bool y.ok, .slice y.ents.a y.ents.l.length y.ents.c, I64 y.base.index, I64 y.base.term, .slice y.base.cfg.v.a y.base.cfg.v.l.length y.base.cfg.v.c, .slice y.base.cfg.o.a y.base.cfg.o.l.length y.base.cfg.o.c, .slice y.base.cfg.l.a y.base.cfg.l.l.length y.base.cfg.l.c, .slice y.base.cfg.w.a y.base.cfg.w.l.length y.base.cfg.w.c, I64 y.size, I64 y.at_, I64 y.tag, .slice y.bytes.a y.bytes.l.length y.bytes.c]
      have m1 : Fr (· = G) V0 V1 := by rw [hV1]; exact (Fr.refl (· = G) _).setCells _ _
      have qv1 : Nw w1 V1 := qv0.new m1 (fun b hb => by omega)
      have hth := Blk.there (l := [U8V 0, I64 0, I64 0, I64 0, I64 0, I64 0, I64 0, I64 0, .bool false, .slice none 0 0, I64 0, I64 0, .slice none 0 0, .slice none 0 0, .slice none 0 0, .slice none 0 0, I64 0, I64 0, I64 0, .slice none 0 0]) g0 0 20 (by show 0 + 20 ≤ 20; omega)
      have hone := letA_one y
      have hcy := letL_cell y
      have HG := Lib.hid hG
      have HV0 := Lib.hid hV0
      have HV1 := Lib.hid hV1
      have HEY := Lib.hid ey
      clear hG hV0 hV1 hc m1 g0 qv0 ey
      go_upto_region 6 with (rw [← HG.out, ← HV0.out]; refine wpList_store_mid rfl 50 _ _ rfl G 0 #[U8V y.kind, I64 y.group, I64 y.src, I64 y.dst, I64 y.term, I64 y.index, I64 y.logt, I64 y.commit, .bool y.ok, .slice y.ents.a y.ents.l.length y.ents.c, I64 y.base.index, I64 y.base.term, .slice y.base.cfg.v.a y.base.cfg.v.l.length y.base.cfg.v.c, .slice y.base.cfg.o.a y.base.cfg.o.l.length y.base.cfg.o.c, .slice y.base.cfg.l.a y.base.cfg.l.l.length y.base.cfg.l.c, .slice y.base.cfg.w.a y.base.cfg.w.l.length y.base.cfg.w.c, I64 y.size, I64 y.at_, I64 y.tag, .slice y.bytes.a y.bytes.l.length y.bytes.c] rfl rfl hth (by kernel_rfl) hone ?_)
      rw [← HV1.out]
      have ho1 := (ho.fr q1 (fun _ _ h => h)).fr qv1 (fun _ _ h => h)
      have sln := sl_new V1 50 [U8V y.kind, I64 y.group, I64 y.src, I64 y.dst, I64 y.term, I64 y.index, I64 y.logt, I64 y.commit, .bool y.ok, .slice y.ents.a y.ents.l.length y.ents.c, I64 y.base.index, I64 y.base.term, .slice y.base.cfg.v.a y.base.cfg.v.l.length y.base.cfg.v.c, .slice y.base.cfg.o.a y.base.cfg.o.l.length y.base.cfg.o.c, .slice y.base.cfg.l.a y.base.cfg.l.l.length y.base.cfg.l.c, .slice y.base.cfg.w.a y.base.cfg.w.l.length y.base.cfg.w.c, I64 y.size, I64 y.at_, I64 y.tag, .slice y.bytes.a y.bytes.l.length y.bytes.c] _ rfl
      have qa : Nw w1 (V1.alloc (.cells #[U8V y.kind, I64 y.group, I64 y.src, I64 y.dst, I64 y.term, I64 y.index, I64 y.logt, I64 y.commit, .bool y.ok, .slice y.ents.a y.ents.l.length y.ents.c, I64 y.base.index, I64 y.base.term, .slice y.base.cfg.v.a y.base.cfg.v.l.length y.base.cfg.v.c, .slice y.base.cfg.o.a y.base.cfg.o.l.length y.base.cfg.o.c, .slice y.base.cfg.l.a y.base.cfg.l.l.length y.base.cfg.l.c, .slice y.base.cfg.w.a y.base.cfg.w.l.length y.base.cfg.w.c, I64 y.size, I64 y.at_, I64 y.tag, .slice y.bytes.a y.bytes.l.length y.bytes.c] 50)) := qv1.alloc _
      have hoa := ho1.alloc (.cells #[U8V y.kind, I64 y.group, I64 y.src, I64 y.dst, I64 y.term, I64 y.index, I64 y.logt, I64 y.commit, .bool y.ok, .slice y.ents.a y.ents.l.length y.ents.c, I64 y.base.index, I64 y.base.term, .slice y.base.cfg.v.a y.base.cfg.v.l.length y.base.cfg.v.c, .slice y.base.cfg.o.a y.base.cfg.o.l.length y.base.cfg.o.c, .slice y.base.cfg.l.a y.base.cfg.l.l.length y.base.cfg.l.c, .slice y.base.cfg.w.a y.base.cfg.w.l.length y.base.cfg.w.c, I64 y.size, I64 y.at_, I64 y.tag, .slice y.bytes.a y.bytes.l.length y.bytes.c] 50)
      obtain ⟨V2, hV2⟩ : ∃ V, V = V1.alloc (.cells #[U8V y.kind, I64 y.group, I64 y.src, I64 y.dst, I64 y.term, I64 y.index, I64 y.logt, I64 y.commit, .bool y.ok, .slice y.ents.a y.ents.l.length y.ents.c, I64 y.base.index, I64 y.base.term, .slice y.base.cfg.v.a y.base.cfg.v.l.length y.base.cfg.v.c, .slice y.base.cfg.o.a y.base.cfg.o.l.length y.base.cfg.o.c, .slice y.base.cfg.l.a y.base.cfg.l.l.length y.base.cfg.l.c, .slice y.base.cfg.w.a y.base.cfg.w.l.length y.base.cfg.w.c, I64 y.size, I64 y.at_, I64 y.tag, .slice y.bytes.a y.bytes.l.length y.bytes.c] 50) := ⟨_, rfl⟩
      rw [← hV2] at sln qa hoa
      have HV2 := Lib.hid hV2
      clear hV2 ho1
      go_wp2_with (first | (refine wpList_load_row rfl 50 _ rfl G rfl 50 _ (0, 0) _ g1 Tryz.underlying50 rfl (by kernel_rfl) ?_) | (at_builtin; rw [← HV2.out]; refine wl_append2 rfl _ _ _ rfl 256 (.agg #[U8V 0, I64 0, I64 0, I64 0, I64 0, I64 0, I64 0, I64 0, .bool false, .slice none 0 0, I64 0, I64 0, .slice none 0 0, .slice none 0 0, .slice none 0 0, .slice none 0 0, I64 0, I64 0, I64 0, .slice none 0 0]) Tryz.underlying28 info_let rfl (by decide) rfl hoa rfl sln rfl hcy (by omega) (by unfold maxLen; omega) ?_; intro B' c' w2 hap))
      go_roundw
      case rel =>
        obtain ⟨o2, q2, n2⟩ := hap.newOwn (hq.tr (q1.tr qa)) hB
        have hfr := hap.fr
        refine ⟨k + 1, ys ++ [y], B', c', by omega, by go_num, rfl, ?_, by rw [letsC_append, letsC_one]; exact o2, fun u hu => ?_, q2, n2⟩
        · rw [List.take_succ_eq_append_getElem hlt, List.map_append, List.map_append, HT.out, HX.out, List.map_singleton, List.map_singleton, HEY.out]
        · have hin : ∀ j, inA B' j → inA B j ∨ j = V2.heap.size := hap.inA_
          have hBl : ∀ j, inA B j → j < wr.heap.size := ho.lt
          have hs1 := q1.size
          have hsa := qa.size
          rcases List.mem_append.1 hu with hu | hu
          · have i1 := ((HYS.out u hu).nw q1).nw qa
            refine (i1.mono (F' := fun k => (Since w k ∧ ¬ inA B k) ∧ k < V2.heap.size) (fun k hk hl => ⟨hk, hl⟩)).fr hfr (fun k hk => hk.1.2) |>.mono (fun k hk _ => ⟨hk.1.1, fun hj => ?_⟩)
            rcases hin k hj with h | h
            · exact hk.1.2 h
            · omega
          · rw [List.mem_singleton.1 hu]
            have i1 := (iy.nw qa).mono (F' := fun k => Since wr k ∧ k < V2.heap.size) (fun k hk hl => ⟨hk, hl⟩)
            refine (i1.fr hfr (fun k hk hj => by have := hBl k hj; have := hk.1; unfold Since at this; omega)).mono (fun k hk _ => ⟨Nat.le_trans hq.size hk.1, fun hj => ?_⟩)
            rcases hin k hj with h | h
            · have := hBl k h; have := hk.1; unfold Since at this; omega
            · omega
      case measure => simp [intOf]; omega
    · obtain rfl : xs.length = k := by omega
      go_wp2_with fail
      go_ret
      have hT := HT.out
      rw [List.take_of_length_le (Nat.le_refl _)] at hT
      exact ⟨B, c2, ys, rfl, hT, ho, hys, hq, hB⟩
set_option maxRecDepth 100000 in
set_option maxHeartbeats 4000000 in
theorem dCopy_any (w : World) (O I : Nat → Prop) (X : DocM) (h : IsDoc w O I X) (hsz : X.r.l.length ≤ 100000000) :
    Calls Tryz.prog 13 #[.pointer (some ⟨X.g, 0, none⟩)] w fun e w' => ∃ (O' I' : Nat → Prop) (X' : DocM), e = .returned (.pointer (some ⟨X'.g, 0, none⟩)) ∧ IsDoc w' O' I' X' ∧ X'.L = X.L ∧ Nw w w' ∧ (∀ k, O' k → w.heap.size ≤ k) ∧ ∀ k, I' k → w.heap.size ≤ k := by
  have g0 : w.cell? ⟨X.g, 0, none⟩ = some (.slice X.r.a X.r.l.length X.r.c) := by simpa using h.blk.cell 0
  have hcp := copy_letsH w (fun _ => True) X.r.a X.r.c X.r.l (h.own.sl.mono fun _ _ _ => trivial) (fun x hx => (h.each x hx).mono fun _ _ _ => trivial) h.sz hsz
  go_enter Tryz.func13, Tryz.ntmps13
  go_wp2_with (go_at_call 52; refine hcp.mono ?_; rintro e w1 ⟨A1, c1, ys, rfl, ey, o1, i1, q1, b1⟩)
  go_ret
  obtain ⟨g2, hg2⟩ : ∃ g2, g2 = w1.heap.size := ⟨_, rfl⟩
  rw [← hg2]
  have hl : ys.length = X.r.l.length := by simpa using congrArg List.length ey
  have hq := q1.size
  have hlt := o1.lt
  have qa : Nw w1 (w1.alloc (.cells #[.slice A1 X.r.l.length c1] 30)) := (Fr.refl (fun _ => False) w1).alloc _
  have hsa : (w1.alloc (.cells #[.slice A1 X.r.l.length c1] 30)).heap.size = w1.heap.size + 1 := Array.size_push _
  refine ⟨fun k => k = g2 ∨ inA A1 k, fun k => (Since w k ∧ ¬ inA A1 k) ∧ k < w1.heap.size, ⟨g2, ⟨A1, c1, ys⟩⟩, rfl, ⟨?_, ?_, fun k hk => .inr hk, fun x hx => ((i1 x hx).mono (fun k hk hl => ⟨hk, hl⟩)).nw qa, szs_eq ey h.sz, .inl rfl, ?_, ?_, ?_⟩, ey, q1.tr qa, ?_, fun k hk => hk.1.1⟩
  · show Blk _ g2 _ #[.slice A1 ys.length c1]
    rw [hl, hg2]
    exact Blk.new _ _ _
  · show Own _ 50 20 A1 ys.length c1 (letsC ys)
    rw [hl]
    exact o1.fr qa (fun _ _ h => h)
  · rintro k (rfl | hk) h2
    · have := h2.2; omega
    · exact h2.1.2 hk
  · rintro k (rfl | hk)
    · omega
    · have := hlt k hk; omega
  · intro k hk
    have := hk.2
    omega
  · rintro k (rfl | hk)
    · omega
    · exact b1 k hk
end Go.Proofs.YtippdjaakcgeoaaGreat

namespace Go.Proofs.YtippdjaakcgeoaaGreat
open Go Go.RowKit
set_option linter.unusedVariables false
set_option linter.unusedSimpArgs false

def takeDR (w : World) (O I : Nat → Prop) (X : DocM) (b : Int) (v i : Value) (wr : World) : Prop :=
  ∃ (k : Nat) (ys : List LetM) (A : Option Addr) (c : Nat) (O2 I2 : Nat → Prop) (X2 : DocM), k ≤ 5 ∧ i = .int .i64 ((k : Int) + 1) ∧ v = .slice A ys.length c ∧ ys.map LetM.x = (takeD X.L b k).1 ∧ Own wr 50 20 A ys.length c (letsC ys) ∧ (∀ j, inA A j → w.heap.size ≤ j ∧ ¬ O2 j ∧ ¬ I2 j) ∧ (∀ y ∈ ys, LetIn wr I2 y ∧ LetSz y) ∧
    IsDoc wr O2 I2 X2 ∧ X2.g = X.g ∧ X2.L = (takeD X.L b k).2 ∧ Fr O w wr ∧ (∀ k, O2 k → O k ∨ w.heap.size ≤ k) ∧ ∀ k, I2 k → I k ∨ w.heap.size ≤ k
set_option maxRecDepth 100000 in
set_option maxHeartbeats 8000000 in
theorem dTake_any (w : World) (O I : Nat → Prop) (X : DocM) (h : IsDoc w O I X) (hsz : X.r.l.length ≤ 100000000) (b : Int) :
    Calls Tryz.prog 57 #[.pointer (some ⟨X.g, 0, none⟩), I64 b] w fun e w' => ∃ A c ys, ∃ (O' I' : Nat → Prop) (X' : DocM), e = .returned (.slice A ys.length c) ∧ ys.map LetM.x = (takeD X.L b 5).1 ∧ Sl w' (fun k => w.heap.size ≤ k ∧ ¬ O' k) A (letsC ys) ∧ (∀ y ∈ ys, LetIn w' I' y ∧ LetSz y) ∧
      IsDoc w' O' I' X' ∧ X'.g = X.g ∧ X'.L = (takeD X.L b 5).2 ∧ Fr O w w' ∧ (∀ k, O' k → O k ∨ w.heap.size ≤ k) ∧ ∀ k, I' k → I k ∨ w.heap.size ≤ k := by
  have hlen := fun k => takeD_len X.L b k
  have hLl : X.L.length ≤ 100000000 := by rw [List.length_map]; exact hsz
  go_enter Tryz.func57, Tryz.ntmps57
  go_wp2_with fail
  go_loopw [5, 6] (fun v i wr => takeDR w O I X b v i wr) (fun _ i _ => 6 - (intOf i).toNat)
  case atStart => exact ⟨0, [], none, 0, O, I, X, Nat.zero_le _, rfl, rfl, rfl, Own.nil _ _ _, fun k hk => (inA_none k hk).elim, (by intro y hy; cases hy), h, rfl, rfl, Fr.refl _ _, fun _ h => .inl h, fun _ h => .inl h⟩
  case round =>
    obtain ⟨k, ys, A, c, O2, I2, X2, hk, rfl, rfl, hys, ho, hA, hin, hN, eg, eL, hq, hO2, hI2⟩ := hrel
    have hlk := hlen k
    rw [← hys, ← eL, List.length_map, List.length_map] at hlk
    have HYS := Lib.hid hys
    have HIN := Lib.hid hin
    have HL := Lib.hid eL
    have HEG := Lib.hid eg
    rw [← eg]
    clear hys hin eL eg
    by_cases hlt : k < 5
    · have hi0 : (k : Int) + 1 ≤ 5 := by omega
      have hw := dWaiting_any wr O2 I2 X2 hN (by omega) ((k : Int) + 1) b
      have hle := lnk_le X2.L ((k : Int) + 1, b)
      rw [List.length_map] at hle
      have hT1 : (takeD X.L b (k + 1)).1 = (takeD X.L b k).1 ++ lnk (takeD X.L b k).2 (((k + 1 : Nat) : Int), b) := rfl
      have hT2 : (takeD X.L b (k + 1)).2 = setD (takeD X.L b k).2 (((k + 1 : Nat) : Int), b) [] := rfl
      have hkc : ((k + 1 : Nat) : Int) = (k : Int) + 1 := by omega
      rw [hkc] at hT1 hT2
      have HT1 := Lib.hid hT1
      have HT2 := Lib.hid hT2
      have hset : ∀ w5, Fr (inA A) wr w5 → IsDoc w5 O2 I2 X2 ∧ Calls Tryz.prog 106 #[.pointer (some ⟨X2.g, 0, none⟩), I64 ((k : Int) + 1), I64 b, .slice none 0 0] w5 fun e w' => e = .returned (.tuple #[]) ∧ ∃ D', DocSet w5 w' O2 I2 (fun _ => False) X2 D' ((k : Int) + 1, b) [] := fun w5 f5 => by
        have N5 := hN.fr f5 (fun j hj hh => (hA j hh).2.1 hj) (fun j hj hh => (hA j hh).2.2 hj)
        exact ⟨N5, dSet_any w5 O2 I2 (fun _ => False) X2 N5 (by omega) ((k : Int) + 1) b none 0 [] (Sl.nil _ _ _) (fun k hk => hk.elim) (by simp)⟩
      have HSET := Lib.hid hset
      clear hT1 hT2 hkc hset
      go_wp2_with (first | (go_at_call 59; refine hw.mono ?_; rintro e w1 ⟨A1, c1, zs, rfl, ez, oz, iz, zz, q1, b1⟩; have hzl : zs.length ≤ X2.r.l.length := (by have := congrArg List.length ez; rw [List.length_map] at this; omega); have EZ := Lib.hid ez; have IZ := Lib.hid iz; have ZZ := Lib.hid zz; clear ez iz zz) | (at_builtin; refine wl_append2 rfl _ _ _ rfl 256 (.agg #[U8V 0, I64 0, I64 0, I64 0, I64 0, I64 0, I64 0, I64 0, .bool false, .slice none 0 0, I64 0, I64 0, .slice none 0 0, .slice none 0 0, .slice none 0 0, .slice none 0 0, I64 0, I64 0, I64 0, .slice none 0 0]) Tryz.underlying28 info_let rfl (by decide) rfl (ho.fr q1 (fun _ _ h => h)) rfl oz.sl (letsC_len _) (letsC_cell _) (by omega) (by unfold maxLen; omega) ?_; intro B' c' w2 hap; obtain ⟨N2, hst⟩ := HSET.out w2 ((Nw.on q1).tr hap.fr)) | (go_at_call 106; refine hst.mono ?_; rintro e w3 ⟨rfl, X3, hX3⟩))
      go_roundw
      case rel =>
        have hin9 := hap.inA_
        have hAl := ho.lt
        have h1 := q1.size
        have h2 := hap.fr.size
        have hw0 := hq.size
        have hBw : ∀ j, inA B' j → j < w2.heap.size := hap.1.lt
        have hBO : ∀ j, inA B' j → w.heap.size ≤ j ∧ ¬ O2 j ∧ ¬ I2 j := fun j hj => by
          rcases hin9 j hj with h9 | h9
          · exact hA j h9
          · exact ⟨by omega, fun hh => by have := hN.ol j hh; omega, fun hh => by have := hN.il j hh; omega⟩
        obtain ⟨N3, e3, f3⟩ := DocSet.doc (J := fun j => ((wr.heap.size ≤ j ∧ ¬ inA A1 j) ∧ ¬ inA B' j) ∧ j < w2.heap.size) N2 hX3 (fun j hj => ⟨hj.2, fun hh => by have := hN.ol j hh; have := hj.1.1.1; omega⟩) (by intro x hx; cases hx) (by intro x hx; cases hx)
        have oB := hap.1.fr f3 (fun j hj => (hBO j hj).2.1)
        have hnew := hX3.new
        refine ⟨k + 1, ys ++ zs, B', c', _, _, X3, by omega, by go_num, by rw [List.length_append], ?_, by rw [List.length_append, letsC_append]; exact oB, fun j hj => ⟨(hBO j hj).1, fun hh => ?_, fun hh => ?_⟩, fun y hy => ?_, N3, by rw [hX3.g]; exact HEG.out, ?_, ?_, fun j hj => ?_, fun j hj => ?_⟩
        · rw [List.map_append, HYS.out, EZ.out, HL.out, HT1.out]
        · rcases hh with hh | hh
          · exact (hBO j hj).2.1 hh
          · have := hnew j hh; have := hBw j hj; omega
        · rcases hh with hh | hh
          · exact (hBO j hj).2.2 hh
          · exact hh.1.2 hj
        · rcases List.mem_append.1 hy with hy | hy
          · exact ⟨((((HIN.out y hy).1.nw q1).fr hap.fr (fun j hj hh => (hA j hh).2.2 hj)).fr f3 (fun j hj hh => hN.dis j hh hj)).mono fun j hj _ => .inl hj, (HIN.out y hy).2⟩
          · refine ⟨?_, ZZ.out y hy⟩
            have g1 := ((IZ.out y hy).mono (F' := fun j => ((wr.heap.size ≤ j ∧ ¬ inA A1 j) ∧ ¬ inA B' j) ∧ j < w2.heap.size) (fun j hj hl => ⟨⟨⟨hj.1, hj.2⟩, fun hh => by
              rcases hin9 j hh with h9 | h9
              · have := hAl j h9; have := hj.1; unfold Since at this; omega
              · omega⟩, by omega⟩))
            exact ((g1.fr hap.fr (fun j hj hh => by have := hAl j hh; have := hj.1.1.1; omega)).fr f3 (fun j hj hh => by have := hN.ol j hh; have := hj.1.1.1; omega)).mono fun j hj _ => .inr hj
        · rw [e3, HL.out, HT2.out]; rfl
        · refine ((hq.tr (Nw.on q1)).trans hap.fr (fun j hj => .inr (hA j hj).1)).trans f3 (fun j hj => hO2 j hj)
        · rcases hj with hj | hj
          · exact hO2 j hj
          · have := hnew j hj; exact .inr (by omega)
        · rcases hj with hj | hj
          · exact hI2 j hj
          · have := hj.1.1.1; exact .inr (by omega)
      case measure => simp [intOf]; omega
    · obtain rfl : k = 5 := by omega
      go_wp2_with fail
      go_ret
      exact ⟨A, c, ys, O2, I2, X2, rfl, HYS.out, ho.sl.mono fun j hj _ => ⟨(hA j hj).1, (hA j hj).2.1⟩, HIN.out, hN, HEG.out, HL.out, hq, hO2, hI2⟩
/-- The last of a row's link made the first. -/
def fwD (L : List LetF) (n : Nm) : List LetF × Bool :=
  match (lnk L n).getLast? with
  | none => (L, false)
  | some x => (setD L n (x :: (lnk L n).dropLast), true)
abbrev FwD := Nat × Option Addr × DocM
def fdS2 (W : World) (x : LetM) (t b : FwD) (w : World) : Prop := Nw W w ∧ Own w 50 20 (some ⟨b.1, 0, none⟩) 1 1 (letL x) ∧ W.heap.size ≤ b.1
def fdS3 (W : World) (cs : List Value) (m : Nat) (t b : FwD) (w : World) : Prop := Nw W w ∧ Own w 50 20 b.2.1 (1 + m) b.1 cs ∧ ∀ k, inA b.2.1 k → W.heap.size ≤ k
def fdS4 (W : World) (cs : List Value) (m : Nat) (O I F : Nat → Prop) (X : DocM) (n : Nm) (ls : List LetM) (t b : FwD) (w : World) : Prop :=
  ∃ wx X', fdS3 W cs m t b wx ∧ DocSet wx w O I F X X' n ls
set_option maxRecDepth 100000 in
set_option maxHeartbeats 4000000 in
theorem dForward_any (w : World) (O I : Nat → Prop) (X : DocM) (h : IsDoc w O I X) (hsz : X.r.l.length ≤ 100000000) (a b : Int) :
    Calls Tryz.prog 56 #[.pointer (some ⟨X.g, 0, none⟩), I64 a, I64 b] w fun e w' => e = .returned (.bool (fwD X.L (a, b)).2) ∧ ∃ (O' I' : Nat → Prop) (X' : DocM), IsDoc w' O' I' X' ∧ X'.g = X.g ∧ X'.L = (fwD X.L (a, b)).1 ∧ Fr O w w' ∧ (∀ k, O' k → O k ∨ w.heap.size ≤ k) ∧ ∀ k, I' k → I k ∨ w.heap.size ≤ k := by
  have hw0 := dWaiting_any w O I X h hsz a b
  have hle := lnk_le X.L (a, b)
  rw [List.length_map] at hle
  have hOw := h.ol
  have hIw := h.il
  by_cases hn0 : lnk X.L (a, b) = []
  · have e1 : fwD X.L (a, b) = (X.L, false) := by unfold fwD; rw [hn0]; rfl
    rw [e1]
    have hw : Calls Tryz.prog 59 #[.pointer (some ⟨X.g, 0, none⟩), I64 a, I64 b] w fun e w' => ∃ A c, e = .returned (.slice A 0 c) ∧ Nw w w' := hw0.mono fun e w' h => by
      obtain ⟨A, c, ys, h1, h2, _, _, _, h3, _⟩ := h
      rw [hn0] at h2
      rw [List.map_eq_nil_iff.1 h2] at h1
      exact ⟨A, c, h1, h3⟩
    clear hw0 hn0 e1
    go_enter Tryz.func56, Tryz.ntmps56
    go_wp2_with (go_at_call 59; refine hw.mono ?_; rintro e w1 ⟨A1, c1, rfl, q1⟩)
    go_ret
    exact ⟨rfl, O, I, X, h.nw q1, rfl, rfl, Nw.on q1, fun _ h => .inl h, fun _ h => .inl h⟩
  · have hw : Calls Tryz.prog 59 #[.pointer (some ⟨X.g, 0, none⟩), I64 a, I64 b] w fun e w' => ∃ A c x i m, e = .returned (.slice A (m + 1) c) ∧ m = i.length ∧ (i ++ [x]).map LetM.x = lnk X.L (a, b) ∧ Own w' 50 20 A (m + 1) c (letsC (i ++ [x])) ∧ (∀ y ∈ i ++ [x], LetIn w' (fun j => Since w j ∧ ¬ inA A j) y) ∧ (∀ y ∈ i ++ [x], LetSz y) ∧ Nw w w' ∧ (∀ k, inA A k → w.heap.size ≤ k) ∧ m + 1 ≤ 100000000 := hw0.mono fun e w' h => by
      obtain ⟨A, c, ys, h1, h2, h3, h4, h5, h6, h7⟩ := h
      have hne : ys ≠ [] := by rintro rfl; exact hn0 h2.symm
      have hyl : ys.length ≤ X.r.l.length := by have := congrArg List.length h2; rw [List.length_map] at this; omega
      have hdl : ys = ys.dropLast ++ [ys.getLast hne] := (List.dropLast_concat_getLast hne).symm
      have hln : ys.length = ys.dropLast.length + 1 := by rw [List.length_dropLast]; have := List.length_pos_iff.2 hne; omega
      refine ⟨A, c, ys.getLast hne, ys.dropLast, ys.dropLast.length, by rw [← hln]; exact h1, rfl, by rw [← hdl]; exact h2, by rw [← hln, ← hdl]; exact h3, by rw [← hdl]; exact h4, by rw [← hdl]; exact h5, h6, h7, by omega⟩
    clear hw0 hn0
    obtain ⟨T, hT⟩ : ∃ T, T = fwD X.L (a, b) := ⟨_, rfl⟩
    rw [← hT]
    have hT2 : ∀ x (i : List LetM), (i ++ [x]).map LetM.x = lnk X.L (a, b) → T = (setD X.L (a, b) ((x :: i).map LetM.x), true) := fun x i h1 => by
      rw [hT]
      unfold fwD
      rw [← h1, List.map_append, List.map_singleton, List.getLast?_concat, List.dropLast_concat]
      rfl
    have HT := Lib.hid hT2
    clear hT hT2
    go_enter Tryz.func56, Tryz.ntmps56
    go_upto_region 2 with (go_at_call 59; refine hw.mono ?_; rintro e w1 ⟨A1, c1, x, i, m, rfl, hm, er, o1, i1, z1, q1, b1, hm8⟩; have HM := Lib.hid hm; clear hm)
    have HET := Lib.hid (HT.out x i er)
    have hne : ¬ (m : Int) + 1 = 0 := by omega
    have hlt9 : (m : Int) < (m : Int) + 1 := by omega
    have hcap := o1.cap_le
    have N1 := h.nw q1
    have hlet := o1.sl.let_ (k := m) (by rw [List.length_append, HM.out]; simp)
    have hxe : (i ++ [x])[m]'(by rw [List.length_append, HM.out]; simp) = x := by simp [HM.out]
    rw [hxe] at hlet
    obtain ⟨g2, o2, rfl, _, _, hc0⟩ := hlet
    have hin : inA (some ⟨g2, o2, none⟩) g2 := (inA_some _ _).2 rfl
    have hg2 : g2 < w1.heap.size := o1.lt _ hin
    have hsi : Sl w1 (fun k => k = g2) (some ⟨g2, o2, none⟩) (letsC i) := by
      have h1 := o1.sl.pre (k := i.length * 20)
      rw [letsC_append, List.take_left' (letsC_len i)] at h1
      exact h1.mono fun k hk _ => (inA_some _ _).1 hk
    have hslc := slice_h (P := Tryz.prog) 28 under_letsD 20 size_letsD (some ⟨g2, o2, none⟩) (m + 1) c1 m (by omega)
    have hc : ∀ w9, Nw w1 w9 → ∀ j u, (letL x)[j]? = some u → w9.cell? ⟨g2, o2 + m * 20 + j, none⟩ = some u := fun w9 q9 j u hu => (q9.cell (p := ⟨g2, o2 + m * 20 + j, none⟩) hg2 (fun h => h)).trans (hc0 j u hu)
    have ER := Lib.hid er
    have I1 := Lib.hid i1
    have Z1 := Lib.hid z1
    have HC := Lib.hid hc
    clear er i1 z1 hw hxe hc hc0
    go_upto_region 5 with (fail)
    refine wp_region_appT (T := FwD) 6 7 11 12 (fun w9 => Nw w1 w9) (fun _ w9 => Nw w1 w9) (fdS2 w1 x) (fdS3 w1 (letsC (x :: i)) m) (fdS4 w1 (letsC (x :: i)) m O I (fun k => w.heap.size ≤ k) X (a, b) (x :: i)) (fun _ => (0, none, ⟨0, lsZ⟩)) (by kernel_rfl) (by kernel_rfl) ((Fr.refl (fun _ => False) w1).drew) ?_
    apply wpEffT_cons
    focus
      intro B L w9 hL hD hC
      refine .inl ⟨by rfl, ?_⟩
      unfold effAt
      go_simp
      exact ⟨rfl, hC.keep (by kernel_rfl) hD (by rfl) (by rfl) (by rfl) (by rfl)⟩
    simp only [Act.put, List.setIfInBounds_toArray, List.set_cons_zero, List.set_cons_succ]
    apply wpEffT_cons
    focus
      intro B L w9 hL hD hC
      refine .inl ⟨by rfl, ?_⟩
      unfold effAt
      go_simp
      exact ⟨rfl, hC.keep (by kernel_rfl) hD (by rfl) (by rfl) (by rfl) (by rfl)⟩
    simp only [Act.put, List.setIfInBounds_toArray, List.set_cons_zero, List.set_cons_succ]
    apply wpEffT_cons
    focus
      intro B L w9 hL hD hC
      refine .inl ⟨by rfl, ?_⟩
      unfold effAt
      go_simp
      exact ⟨rfl, hC.keep (by kernel_rfl) hD (by rfl) (by rfl) (by rfl) (by rfl)⟩
    simp only [Act.put, List.setIfInBounds_toArray, List.set_cons_zero, List.set_cons_succ]
    apply wpEffT_cons
    focus
      intro B L w9 hL hD hC
      refine .inl ⟨by rfl, ?_⟩
      unfold effAt
      go_simp
      exact ⟨rfl, hC.keep (by kernel_rfl) hD (by rfl) (by rfl) (by rfl) (by rfl)⟩
    simp only [Act.put, List.setIfInBounds_toArray, List.set_cons_zero, List.set_cons_succ]
    apply wpEffT_cons
    focus
      intro B L w9 hL hD hC
      refine .inl ⟨by rfl, ?_⟩
      unfold effAt
      go_simp
      exact ⟨rfl, hC.keep (by kernel_rfl) hD (by rfl) (by rfl) (by rfl) (by rfl)⟩
    simp only [Act.put, List.setIfInBounds_toArray, List.set_cons_zero, List.set_cons_succ]
    apply wpEffT_cons
    focus
      intro B L w9 hL hD hC
      refine .inl ⟨by rfl, ?_⟩
      unfold effAt
      go_simp
      exact ⟨rfl, hC.keep (by kernel_rfl) hD (by rfl) (by rfl) (by rfl) (by rfl)⟩
    simp only [Act.put, List.setIfInBounds_toArray, List.set_cons_zero, List.set_cons_succ]
    refine wpEffT_free (fun b => .agg (letA x)) ?_ ?_
    focus
      intro B L w9 hL hD hC
      obtain ⟨h1, h2⟩ := hC.call hL (by kernel_rfl) (by kernel_rfl) (by kernel_rfl) (by kernel_rfl) hD (by rfl) (by rfl) (by rfl)
      refine .inl ⟨by rfl, ?_⟩
      exact effUponT_const (vf := fun b => .agg (letA x)) (b := (0, none, ⟨0, lsZ⟩)) rfl (fun w8 h8 => h2 w8 _ h8) (effAt_cells 50 _ rfl g2 (o2 + m * 20) rfl (letL x) _ (HC.out w9 h1) Tryz.underlying50 rfl (by kernel_rfl) h1)
    simp only [Act.put, List.setIfInBounds_toArray, List.set_cons_zero, List.set_cons_succ]
    refine wpEffT_free (fun b => .slice (some ⟨b.1, 0, none⟩) 1 1) ?_ ?_
    focus
      intro B L w9 hL hD hC
      obtain ⟨h1, h2⟩ := hC.build hL (hD 6 (by kernel_rfl)) (by kernel_rfl) (by kernel_rfl) (by kernel_rfl) hD (by rfl) (by rfl) (by rfl)
      refine .inl ⟨by rfl, ?_⟩
      unfold effAtT
      go_simp
      exact ⟨(w9.heap.size, none, ⟨0, lsZ⟩), rfl, h2 (w9.alloc (.cells (letA x) 50)) _ ⟨h1.alloc _, own_new w9 50 20 1 (letL x) (by unfold maxLen; omega) rfl, h1.size⟩⟩
    simp only [Act.put, List.setIfInBounds_toArray, List.set_cons_zero, List.set_cons_succ]
    apply wpEffT_cons
    focus
      intro B L w9 hL hD hC
      refine .inl ⟨by rfl, ?_⟩
      unfold effAt
      go_simp
      exact ⟨rfl, hC.keep (by kernel_rfl) hD (by rfl) (by rfl) (by rfl) (by rfl)⟩
    simp only [Act.put, List.setIfInBounds_toArray, List.set_cons_zero, List.set_cons_succ]
    apply wpEffT_cons
    focus
      intro B L w9 hL hD hC
      refine .inl ⟨by rfl, ?_⟩
      unfold effAt
      go_simp
      exact ⟨rfl, hC.keep (by kernel_rfl) hD (by rfl) (by rfl) (by rfl) (by rfl)⟩
    simp only [Act.put, List.setIfInBounds_toArray, List.set_cons_zero, List.set_cons_succ]
    apply wpEffT_cons
    focus
      intro B L w9 hL hD hC
      refine .inl ⟨by rfl, ?_⟩
      unfold effAt
      go_simp
      exact ⟨rfl, hC.keep (by kernel_rfl) hD (by rfl) (by rfl) (by rfl) (by rfl)⟩
    simp only [Act.put, List.setIfInBounds_toArray, List.set_cons_zero, List.set_cons_succ]
    refine wpEffT_free (fun b => .slice b.2.1 (1 + m) b.1) ?_ ?_
    focus
      intro B L w9 hL hD hC
      obtain ⟨h1, h2⟩ := hC.app hL (hD 7 (by kernel_rfl)) (by kernel_rfl) (by kernel_rfl) hD (by rfl) (by rfl)
      refine .inl ⟨by rfl, ?_⟩
      refine effAtT_append _ _ 28 rfl 256 (.agg #[U8V 0, I64 0, I64 0, I64 0, I64 0, I64 0, I64 0, I64 0, .bool false, .slice none 0 0, I64 0, I64 0, .slice none 0 0, .slice none 0 0, .slice none 0 0, .slice none 0 0, I64 0, I64 0, I64 0, .slice none 0 0]) Tryz.underlying28 info_let (by rfl) (by omega) rfl h1.2.1 rfl (hsi.fr h1.1 (fun _ _ h => h)) (by rw [letsC_len, HM.out]) (letsC_cell _) (by omega) (by unfold maxLen; omega) (fun A' cap' w' hA => ⟨(cap', A', ⟨0, lsZ⟩), rfl, h2 _ _ ?_⟩)
      have hAn : ∀ k, inA (some ⟨(B 7).1, 0, none⟩) k → w1.heap.size ≤ k := fun k hk => by rw [(inA_some _ _).1 hk]; exact h1.2.2
      exact ⟨h1.1.new hA.fr hAn, hA.1, fun k hk => (hA.inA_ k hk).elim (hAn k) (fun e => by have := h1.1.size; omega)⟩
    simp only [Act.put, List.setIfInBounds_toArray, List.set_cons_zero, List.set_cons_succ]
    apply wpEffT_cons
    focus
      intro B L w9 hL hD hC
      obtain ⟨h1, h2⟩ := hC.store hL (hD 11 (by kernel_rfl)) (by kernel_rfl) hD
      have hset := dSet_any w9 O I (fun k => w.heap.size ≤ k) X (N1.nw h1.1) hsz a b (B 11).2.1 (B 11).1 (x :: i) (by
        have h8 := h1.2.1.sl
        exact h8.mono fun k hk _ => Nat.le_trans q1.size (h1.2.2 k hk)) (fun k hk e => by have := h.blk.lt; omega) (by rw [List.length_cons]; have := HM.out; omega)
      have e5 : (x :: i).length = 1 + m := by rw [List.length_cons, HM.out]; omega
      rw [e5] at hset
      refine .inl ⟨by rfl, ?_⟩
      unfold effAt
      go_simp
      refine hset.mono ?_
      rintro e w8 ⟨rfl, X8, hX8⟩
      exact ⟨rfl, h2 _ ⟨w9, X8, h1, hX8⟩⟩
    simp only [Act.put, List.setIfInBounds_toArray, List.set_cons_zero, List.set_cons_succ]
    refine wpEffT_nil fun B wf hC => ?_
    have hfin := hC.fin (by rfl)
    obtain ⟨⟨c', A', X0⟩, hb⟩ : ∃ b, b = B 11 := ⟨_, rfl⟩
    rw [← hb] at hfin
    clear hC hb
    obtain ⟨wx, X6, ⟨q3, o3, b3⟩, hX6⟩ := hfin
    dsimp only at o3 b3
    have h1 := q1.size
    have h3 := q3.size
    have I2 : ∀ z ∈ x :: i, LetIn wx (fun k => (w.heap.size ≤ k ∧ ¬ inA (some ⟨g2, o2, none⟩) k) ∧ k < wx.heap.size) z := fun z hz => by
      have hm9 : z ∈ i ++ [x] := by
        rcases List.mem_cons.1 hz with rfl | hz
        · simp
        · exact List.mem_append_left _ hz
      exact ((I1.out z hm9).nw q3).mono fun k hk hl => ⟨hk, hl⟩
    have Z2 : ∀ z ∈ x :: i, LetSz z := fun z hz => Z1.out z (by
      rcases List.mem_cons.1 hz with rfl | hz
      · simp
      · exact List.mem_append_left _ hz)
    obtain ⟨N6, e6, f6⟩ := DocSet.doc (N1.nw q3) hX6 (fun k hk => ⟨hk.2, fun ho => by have := hOw k ho; omega⟩) I2 Z2
    have HN6 := Lib.hid N6
    have HE6 := Lib.hid e6
    have hg6 := hX6.g
    have hnew := hX6.new
    have HG6 := Lib.hid hg6
    clear N6 e6 hX6 o3 b3 hg6 I2 Z2
    go_wp2_with fail
    go_ret
    refine ⟨by rw [HET.out]; rfl, _, _, X6, HN6.out, HG6.out, by rw [HE6.out, HET.out], (Nw.on (q1.tr q3)).tr f6, fun k hk => ?_, fun k hk => ?_⟩
    · rcases hk with hk | hk
      · exact .inl hk
      · have := hnew k hk; exact .inr (by omega)
    · rcases hk with hk | hk
      · exact .inl hk
      · exact .inr hk.1.1
end Go.Proofs.YtippdjaakcgeoaaGreat
