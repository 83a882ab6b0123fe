/- Lemmas of the walks: DnF, DnG. (Laid together by shake.py.) -/
import Derived.Test.YtippdjaakcgeoaaGreatNe12
set_option linter.unusedVariables false
set_option linter.unusedSimpArgs false
namespace Go.Proofs.YtippdjaakcgeoaaGreat
open Go Go.RowKit
set_option linter.unusedVariables false
set_option linter.unusedSimpArgs false

/-- What a net of the document is behind a letter put behind its row. -/
theorem IsDoc.push {w wy wx w' : World} {O I : Nat → Prop} {X : DocM} {A' : Option Addr} {c' : Nat} (h : IsDoc w O I X) (q : Nw w wy) (y : LetM) (iy : LetIn wy (Since w) y) (sy : LetSz y)
    (ha : AppTo wy 50 20 X.r.a X.r.l.length X.r.c 1 (letsC X.r.l) (letL y) A' c' wx) (hw : w' = wx.setCell ⟨X.g, 0, none⟩ (.slice A' (X.r.l.length + 1) c')) :
    ∃ (O' I' : Nat → Prop) (X' : DocM), IsDoc w' O' I' X' ∧ X'.g = X.g ∧ X'.L = X.L ++ [y.x] ∧ X'.r.l.length = X.r.l.length + 1 ∧ Fr O w w' ∧ (∀ j, O' j → O j ∨ w.heap.size ≤ j) ∧ ∀ j, I' j → I j ∨ w.heap.size ≤ j := by
  have N5 := h.nw q
  have hq := q.size
  have hax := ha.fr.size
  have hA' := ha.inA_
  have hAw : ∀ k, inA X.r.a k → k < w.heap.size := fun k hk => h.ol k (h.base k hk)
  have hgw := h.blk.lt
  have hgA : ¬ inA X.r.a X.g := h.ga
  have hgA' : ¬ inA A' X.g := fun hk => by
    rcases hA' _ hk with h1 | h1
    · exact hgA h1
    · omega
  have hF : Fr (fun k => inA X.r.a k ∨ k = X.g) wy w' := by
    rw [hw]
    exact (ha.fr.mono fun _ h => .inl (.inl h)).setCell (p := ⟨X.g, 0, none⟩) (.inl (.inr rfl)) _
  have hfs := hF.size
  have hIs : ∀ k, I k → ¬ (inA X.r.a k ∨ k = X.g) := fun k hk e => by
    rcases e with e | e
    · exact h.dis k (h.base k e) hk
    · exact h.dis _ h.og (e ▸ hk)
  have hlen : (X.r.l ++ [y]).length = X.r.l.length + 1 := by rw [List.length_append]; rfl
  have hbx := N5.blk.fr ha.fr hgA
  refine ⟨fun k => O k ∨ inA A' k, fun k => I k ∨ (Since w k ∧ k < wy.heap.size), ⟨X.g, ⟨A', c', X.r.l ++ [y]⟩⟩, ⟨?_, ?_, fun k hk => .inr hk, fun x hx => ?_, fun x hx => ?_, .inl h.og, fun k h8 h9 => ?_, fun k h8 => ?_, fun k h8 => ?_⟩, rfl, ?_, hlen, (Nw.on q).tr (hF.mono fun k hk => .inl ?_), fun j hj => ?_, fun j hj => ?_⟩
  · show Blk w' X.g _ #[.slice A' (X.r.l ++ [y]).length c']
    rw [hlen, hw]
    exact hbx.set_ 0 _
  · show Own w' 50 20 A' (X.r.l ++ [y]).length c' (letsC (X.r.l ++ [y]))
    rw [hlen, letsC_append, letsC_one, hw]
    exact ha.1.setCell hgA' _
  · rcases List.mem_append.1 hx with hx | hx
    · exact (((h.each x hx).nw q).fr hF hIs).mono fun k hk _ => .inl hk
    · rw [List.mem_singleton.1 hx]
      refine (iy.mono (F' := fun k => I k ∨ (Since w k ∧ k < wy.heap.size)) (fun k hk hl => .inr ⟨hk, hl⟩)).fr hF (fun k hk e => ?_)
      rcases hk with hk | hk
      · exact hIs k hk e
      · have h1 := hk.1
        unfold Since at h1
        rcases e with e | e
        · have := hAw k e; omega
        · omega
  · rcases List.mem_append.1 hx with hx | hx
    · exact h.sz x hx
    · rw [List.mem_singleton.1 hx]; exact sy
  · rcases h8 with h8 | h8 <;> rcases h9 with h9 | h9
    · exact h.dis _ h8 h9
    · have := h.ol _ h8; have := h9.1; unfold Since at this; omega
    · rcases hA' k h8 with h1 | h1
      · exact h.dis _ (h.base k h1) h9
      · have := h.il _ h9; omega
    · rcases hA' k h8 with h1 | h1
      · have := hAw k h1; have := h9.1; unfold Since at this; omega
      · have := h9.2; omega
  · rcases h8 with h8 | h8
    · have := h.ol _ h8; omega
    · have := ha.1.lt _ h8
      have h2 : wx.heap.size ≤ w'.heap.size := by rw [hw]; exact ((Fr.refl (· = X.g) wx).set1 0 _).size
      omega
  · rcases h8 with h8 | h8
    · have := h.il _ h8; omega
    · have := h8.2; omega
  · show (X.r.l ++ [y]).map LetM.x = _
    rw [List.map_append]
    rfl
  · rcases hk with hk | hk
    · exact h.base k hk
    · rw [hk]; exact h.og
  · rcases hj with hj | hj
    · exact .inl hj
    · rcases hA' j hj with h1 | h1
      · exact .inl (h.base j h1)
      · exact .inr (by omega)
  · rcases hj with hj | hj
    · exact .inl hj
    · exact .inr hj.1
def NwC (W1 : World) (L : Nat → Bool) (B : BkT (Option Addr × Nat)) (w : World) : Prop := Nw W1 w
def ddS3 (W : World) (x : LetM) (A0 : Option Addr) (n0 c0 : Nat) (cs : List Value) (t b : SdT) (w : World) : Prop :=
  ∃ wy, sdS1 W x t wy ∧ AppTo wy 50 20 A0 n0 c0 1 cs (letL t.1) b.2.2 b.2.1 w
def ddS4 (W : World) (x : LetM) (A0 : Option Addr) (n0 c0 : Nat) (cs : List Value) (g : Nat) (t b : SdT) (w : World) : Prop :=
  ∃ wx, ddS3 W x A0 n0 c0 cs t b wx ∧ w = wx.setCell ⟨g, 0, none⟩ (.slice b.2.2 (n0 + 1) b.2.1)
theorem dd3_fr {W : World} {x : LetM} {A0 : Option Addr} {n0 c0 : Nat} {cs : List Value} {t b : SdT} {w : World} (h : ddS3 W x A0 n0 c0 cs t b w) (m : Nat) : Fr (fun k => inA A0 k ∨ k = m) W w := by
  obtain ⟨wy, h1, h2⟩ := h
  exact (Nw.on h1.1).tr (h2.fr.mono fun _ h => .inl (.inl h))
theorem dd4_fr {W : World} {x : LetM} {A0 : Option Addr} {n0 c0 : Nat} {cs : List Value} {g : Nat} {t b : SdT} {w : World} (h : ddS4 W x A0 n0 c0 cs g t b w) : Fr (fun k => inA A0 k ∨ k = g) W w := by
  obtain ⟨wx, h1, rfl⟩ := h
  exact (dd3_fr h1 g).setCell (p := ⟨g, 0, none⟩) (.inl (.inr rfl)) _
def sendDR (w : World) (O I : Nat → Prop) (X : DocM) (xs : List LetM) (v i : Value) (wr : World) : Prop :=
  ∃ (k r : Nat) (O2 I2 : Nat → Prop) (X2 : DocM), k ≤ xs.length ∧ r ≤ k ∧ i = .int .i64 k ∧ v = I64 (r : Nat) ∧ sendD X.L ((xs.take k).map LetM.x) = (X2.L, r) ∧ IsDoc wr O2 I2 X2 ∧ X2.g = X.g ∧ X2.r.l.length ≤ X.r.l.length + k ∧ Fr O w wr ∧ (∀ j, O2 j → O j ∨ w.heap.size ≤ j) ∧ ∀ j, I2 j → I j ∨ w.heap.size ≤ j
set_option maxRecDepth 100000 in
set_option maxHeartbeats 8000000 in
theorem dSend_any (w : World) (O I F : Nat → Prop) (X : DocM) (h : IsDoc w O I X) (hX : X.r.l.length ≤ 90000000) (A : Option Addr) (c : Nat) (xs : List LetM) (hsl : Sl w F A (letsC xs)) (he : ∀ x ∈ xs, LetIn w F x) (hz : ∀ x ∈ xs, LetSz x) (hsz : xs.length ≤ 10000) (hFO : ∀ k, F k → ¬ O k) (hFw : ∀ k, F k → k < w.heap.size) :
    Calls Tryz.prog 20 #[.pointer (some ⟨X.g, 0, none⟩), .slice A xs.length c] w fun e w' => e = .returned (I64 ((sendD X.L (xs.map LetM.x)).2 : Nat)) ∧ ∃ (O' I' : Nat → Prop) (X' : DocM), IsDoc w' O' I' X' ∧ X'.g = X.g ∧ X'.L = (sendD X.L (xs.map LetM.x)).1 ∧ Fr O w w' ∧ (∀ k, O' k → O k ∨ w.heap.size ≤ k) ∧ ∀ k, I' k → I k ∨ w.heap.size ≤ k := by
  have HE := Lib.hid he
  have HZ := Lib.hid hz
  obtain ⟨T, hT⟩ : ∃ T, T = sendD X.L (xs.map LetM.x) := ⟨_, rfl⟩
  rw [← hT]
  have HT := Lib.hid hT
  clear he hz hT
  go_enter Tryz.func20, Tryz.ntmps20
  go_wp2_with fail
  go_loopw [5, 6] (fun v i wr => sendDR w O I X xs v i wr) (fun _ i _ => xs.length - (intOf i).toNat)
  case atStart => exact ⟨0, 0, O, I, X, Nat.zero_le _, Nat.zero_le _, rfl, rfl, rfl, h, rfl, by omega, Fr.refl _ _, fun _ h => .inl h, fun _ h => .inl h⟩
  case round =>
    obtain ⟨k, r, O2, I2, X2, hk, hrk, rfl, rfl, hp, hN, eg, hlx, hq, hO2, hI2⟩ := hrel
    have HP := Lib.hid hp
    have HEG := Lib.hid eg
    rw [← eg]
    clear hp eg
    by_cases hlt : k < xs.length
    · have hFO2 : ∀ k, F k → ¬ O2 k := fun k hk ho => by
        rcases hO2 k ho with h1 | h1
        · exact hFO k hk h1
        · have := hFw k hk; omega
      obtain ⟨b, o, rfl, hFb, _, hc⟩ := (hsl.fr hq hFO).let_ hlt
      have hi0 : (k : Int) < (xs.length : Int) := by omega
      have xi := (HE.out _ (List.getElem_mem hlt)).fr hq hFO
      have xz := HZ.out _ (List.getElem_mem hlt)
      obtain ⟨x, hx⟩ : ∃ x, xs[k] = x := ⟨_, rfl⟩
      rw [hx] at xi xz hc
      have hst : sendD X.L ((xs.take (k + 1)).map LetM.x) = sendStepD (X2.L, r) x.x := by
        rw [List.take_succ_eq_append_getElem hlt, hx, List.map_append, List.map_singleton, sendD_snoc, HP.out]
      have HST := Lib.hid hst
      have hbw : b < wr.heap.size := by assumption
      have hcw : ∀ w9, Nw wr w9 → ∀ j u, (letL x)[j]? = some u → w9.cell? ⟨b, o + k * 20 + j, none⟩ = some u := fun w9 q9 j u hu => (q9.cell (p := ⟨b, o + k * 20 + j, none⟩) hbw (fun h => h)).trans (hc j u hu)
      have HC := Lib.hid hcw
      clear hx hst hc hcw
      obtain ⟨d, hd⟩ : ∃ d, d = letOk x.x := ⟨_, rfl⟩
      have hrt : ∀ w9, Nw wr w9 → Calls Tryz.prog 63 #[.agg (letA x)] w9 fun e w' => e = .returned (.bool d) ∧ Nw w9 w' := fun w9 q9 => by
        rw [hd]
        exact rRight_any w9 F x (xi.nw q9) xz
      have HRT := Lib.hid hrt
      have HD := Lib.hid hd
      clear hrt hd
      go_upto_region 5 with (fail)
      refine wp_region_effT (NwC wr) (fun _ => (none, 0)) (by kernel_rfl) (by kernel_rfl) ((Fr.refl (fun _ => False) wr).drew) ?_
      apply wpEffT_cons
      focus
        intro B L w9 hL hD hC
        have q9 : Nw wr w9 := hC
        refine .inl ⟨by rfl, ?_⟩
        unfold effAt
        go_simp
        exact ⟨rfl, hC⟩
      simp only [Act.put, List.setIfInBounds_toArray, List.set_cons_zero, List.set_cons_succ]
      apply wpEffT_cons
      focus
        intro B L w9 hL hD hC
        have q9 : Nw wr w9 := hC
        refine .inl ⟨by rfl, ?_⟩
        unfold effAt
        go_simp
        exact ⟨rfl, hC⟩
      simp only [Act.put, List.setIfInBounds_toArray, List.set_cons_zero, List.set_cons_succ]
      apply wpEffT_cons
      focus
        intro B L w9 hL hD hC
        have q9 : Nw wr w9 := hC
        refine .inl ⟨by rfl, ?_⟩
        unfold effAt
        go_simp
        exact ⟨rfl, hC⟩
      simp only [Act.put, List.setIfInBounds_toArray, List.set_cons_zero, List.set_cons_succ]
      apply wpEffT_cons
      focus
        intro B L w9 hL hD hC
        have q9 : Nw wr w9 := hC
        refine .inl ⟨by rfl, ?_⟩
        exact effAt_cells 50 _ rfl b (o + k * 20) rfl (letL x) _ (HC.out w9 q9) Tryz.underlying50 rfl (by kernel_rfl) hC
      simp only [Act.put, List.setIfInBounds_toArray, List.set_cons_zero, List.set_cons_succ]
      apply wpEffT_cons
      focus
        intro B L w9 hL hD hC
        have q9 : Nw wr w9 := hC
        refine .inl ⟨by rfl, ?_⟩
        unfold effAt
        go_simp
        refine (HRT.out w9 q9).mono ?_
        rintro e w8 ⟨rfl, q8⟩
        exact ⟨rfl, q9.tr q8⟩
      simp only [Act.put, List.setIfInBounds_toArray, List.set_cons_zero, List.set_cons_succ]
      cases d
      case false =>
        apply wpEffT_cons
        focus
          intro B L w9 hL hD hC
          have q9 : Nw wr w9 := hC
          refine .inl ⟨by rfl, ?_⟩
          unfold effAt
          go_simp
          exact ⟨rfl, hC⟩
        simp only [Act.put, List.setIfInBounds_toArray, List.set_cons_zero, List.set_cons_succ]
        apply wpEffT_cons
        focus
          intro B L wz hL hD hC
          exact .inr ⟨by rfl, rfl, hC⟩
        simp only [Act.put, List.setIfInBounds_toArray, List.set_cons_zero, List.set_cons_succ]
        apply wpEffT_cons
        focus
          intro B L wz hL hD hC
          exact .inr ⟨by rfl, rfl, hC⟩
        simp only [Act.put, List.setIfInBounds_toArray, List.set_cons_zero, List.set_cons_succ]
        apply wpEffT_cons
        focus
          intro B L wz hL hD hC
          exact .inr ⟨by rfl, rfl, hC⟩
        simp only [Act.put, List.setIfInBounds_toArray, List.set_cons_zero, List.set_cons_succ]
        apply wpEffT_cons
        focus
          intro B L wz hL hD hC
          exact .inr ⟨by rfl, rfl, hC⟩
        simp only [Act.put, List.setIfInBounds_toArray, List.set_cons_zero, List.set_cons_succ]
        apply wpEffT_cons
        focus
          intro B L wz hL hD hC
          exact .inr ⟨by rfl, rfl, hC⟩
        simp only [Act.put, List.setIfInBounds_toArray, List.set_cons_zero, List.set_cons_succ]
        apply wpEffT_cons
        focus
          intro B L wz hL hD hC
          exact .inr ⟨by rfl, rfl, hC⟩
        simp only [Act.put, List.setIfInBounds_toArray, List.set_cons_zero, List.set_cons_succ]
        apply wpEffT_cons
        focus
          intro B L wz hL hD hC
          exact .inr ⟨by rfl, rfl, hC⟩
        simp only [Act.put, List.setIfInBounds_toArray, List.set_cons_zero, List.set_cons_succ]
        apply wpEffT_cons
        focus
          intro B L wz hL hD hC
          exact .inr ⟨by rfl, rfl, hC⟩
        simp only [Act.put, List.setIfInBounds_toArray, List.set_cons_zero, List.set_cons_succ]
        apply wpEffT_cons
        focus
          intro B L wz hL hD hC
          exact .inr ⟨by rfl, rfl, hC⟩
        simp only [Act.put, List.setIfInBounds_toArray, List.set_cons_zero, List.set_cons_succ]
        apply wpEffT_cons
        focus
          intro B L wz hL hD hC
          exact .inr ⟨by rfl, rfl, hC⟩
        simp only [Act.put, List.setIfInBounds_toArray, List.set_cons_zero, List.set_cons_succ]
        apply wpEffT_cons
        focus
          intro B L wz hL hD hC
          exact .inr ⟨by rfl, rfl, hC⟩
        simp only [Act.put, List.setIfInBounds_toArray, List.set_cons_zero, List.set_cons_succ]
        apply wpEffT_cons
        focus
          intro B L wz hL hD hC
          exact .inr ⟨by rfl, rfl, hC⟩
        simp only [Act.put, List.setIfInBounds_toArray, List.set_cons_zero, List.set_cons_succ]
        apply wpEffT_cons
        focus
          intro B L wz hL hD hC
          exact .inr ⟨by rfl, rfl, hC⟩
        simp only [Act.put, List.setIfInBounds_toArray, List.set_cons_zero, List.set_cons_succ]
        apply wpEffT_cons
        focus
          intro B L wz hL hD hC
          exact .inr ⟨by rfl, rfl, hC⟩
        simp only [Act.put, List.setIfInBounds_toArray, List.set_cons_zero, List.set_cons_succ]
        apply wpEffT_cons
        focus
          intro B L w9 hL hD hC
          have q9 : Nw wr w9 := hC
          refine .inl ⟨by rfl, ?_⟩
          unfold effAt
          go_simp
          exact ⟨rfl, hC⟩
        simp only [Act.put, List.setIfInBounds_toArray, List.set_cons_zero, List.set_cons_succ]
        refine wpEffT_nil fun B wz hC => ?_
        have q6 : Nw wr wz := hC
        clear hC
        go_wp2_with fail
        go_roundw
        case rel =>
          have hst2 : sendStepD (X2.L, r) x.x = (X2.L, r) := by
            unfold sendStepD
            rw [if_neg]
            rintro ⟨h8, _⟩
            rw [← HD.out] at h8
            cases h8
          exact ⟨k + 1, r, O2, I2, X2, hlt, by omega, by go_num, rfl, by rw [HST.out, hst2], hN.nw q6, HEG.out, by omega, hq.tr (Nw.on q6), hO2, hI2⟩
        case measure => simp [intOf]; omega
      case true =>
        obtain ⟨n0, hn0⟩ : ∃ n0, n0 = (lnk X2.L (x.src, x.dst)).length := ⟨_, rfl⟩
        have hwt : ∀ w9, Nw wr w9 → Calls Tryz.prog 59 #[.pointer (some ⟨X2.g, 0, none⟩), I64 x.src, I64 x.dst] w9 fun e w' => ∃ A c, e = .returned (.slice A n0 c) ∧ Nw w9 w' := fun w9 q9 => (dWaiting_any w9 O2 I2 X2 (hN.nw q9) (by omega) x.src x.dst).mono fun e w' hh => by
          obtain ⟨A, c, ys, h1, h2, _, _, _, h3, _⟩ := hh
          have h4 : ys.length = n0 := by rw [hn0, ← h2, List.length_map]
          rw [h4] at h1
          exact ⟨A, c, h1, h3⟩
        have HWT := Lib.hid hwt
        have HN0 := Lib.hid hn0
        have hnle : n0 ≤ 100000000 := by
          have h1 := lnk_le X2.L (x.src, x.dst)
          rw [List.length_map] at h1
          omega
        clear hwt hn0
        apply wpEffT_cons
        focus
          intro B L w9 hL hD hC
          have q9 : Nw wr w9 := hC
          refine .inl ⟨by rfl, ?_⟩
          unfold effAt
          go_simp
          exact ⟨rfl, hC⟩
        simp only [Act.put, List.setIfInBounds_toArray, List.set_cons_zero, List.set_cons_succ]
        apply wpEffT_cons
        focus
          intro B L w9 hL hD hC
          have q9 : Nw wr w9 := hC
          refine .inl ⟨by rfl, ?_⟩
          unfold effAt
          go_simp
          exact ⟨rfl, hC⟩
        simp only [Act.put, List.setIfInBounds_toArray, List.set_cons_zero, List.set_cons_succ]
        apply wpEffT_cons
        focus
          intro B L w9 hL hD hC
          have q9 : Nw wr w9 := hC
          refine .inl ⟨by rfl, ?_⟩
          unfold effAt
          go_simp
          exact ⟨rfl, hC⟩
        simp only [Act.put, List.setIfInBounds_toArray, List.set_cons_zero, List.set_cons_succ]
        apply wpEffT_cons
        focus
          intro B L w9 hL hD hC
          have q9 : Nw wr w9 := hC
          refine .inl ⟨by rfl, ?_⟩
          unfold effAt
          go_simp
          exact ⟨rfl, hC⟩
        simp only [Act.put, List.setIfInBounds_toArray, List.set_cons_zero, List.set_cons_succ]
        apply wpEffT_cons
        focus
          intro B L w9 hL hD hC
          have q9 : Nw wr w9 := hC
          refine .inl ⟨by rfl, ?_⟩
          unfold effAt
          go_simp
          exact ⟨rfl, hC⟩
        simp only [Act.put, List.setIfInBounds_toArray, List.set_cons_zero, List.set_cons_succ]
        apply wpEffT_cons
        focus
          intro B L w9 hL hD hC
          have q9 : Nw wr w9 := hC
          refine .inl ⟨by rfl, ?_⟩
          unfold effAt
          go_simp
          exact ⟨rfl, hC⟩
        simp only [Act.put, List.setIfInBounds_toArray, List.set_cons_zero, List.set_cons_succ]
        apply wpEffT_cons
        focus
          intro B L w9 hL hD hC
          have q9 : Nw wr w9 := hC
          have c2 : w9.cell? ⟨b, o + k * 20 + 2, none⟩ = some (I64 x.src) := HC.out w9 q9 2 _ rfl
          refine .inl ⟨by rfl, ?_⟩
          unfold effAt
          go_simp
          exact ⟨rfl, hC⟩
        simp only [Act.put, List.setIfInBounds_toArray, List.set_cons_zero, List.set_cons_succ]
        apply wpEffT_cons
        focus
          intro B L w9 hL hD hC
          have q9 : Nw wr w9 := hC
          refine .inl ⟨by rfl, ?_⟩
          unfold effAt
          go_simp
          exact ⟨rfl, hC⟩
        simp only [Act.put, List.setIfInBounds_toArray, List.set_cons_zero, List.set_cons_succ]
        apply wpEffT_cons
        focus
          intro B L w9 hL hD hC
          have q9 : Nw wr w9 := hC
          refine .inl ⟨by rfl, ?_⟩
          unfold effAt
          go_simp
          exact ⟨rfl, hC⟩
        simp only [Act.put, List.setIfInBounds_toArray, List.set_cons_zero, List.set_cons_succ]
        apply wpEffT_cons
        focus
          intro B L w9 hL hD hC
          have q9 : Nw wr w9 := hC
          refine .inl ⟨by rfl, ?_⟩
          unfold effAt
          go_simp
          exact ⟨rfl, hC⟩
        simp only [Act.put, List.setIfInBounds_toArray, List.set_cons_zero, List.set_cons_succ]
        apply wpEffT_cons
        focus
          intro B L w9 hL hD hC
          have q9 : Nw wr w9 := hC
          refine .inl ⟨by rfl, ?_⟩
          unfold effAt
          go_simp
          exact ⟨rfl, hC⟩
        simp only [Act.put, List.setIfInBounds_toArray, List.set_cons_zero, List.set_cons_succ]
        apply wpEffT_cons
        focus
          intro B L w9 hL hD hC
          have q9 : Nw wr w9 := hC
          have c3 : w9.cell? ⟨b, o + k * 20 + 3, none⟩ = some (I64 x.dst) := HC.out w9 q9 3 _ rfl
          refine .inl ⟨by rfl, ?_⟩
          unfold effAt
          go_simp
          exact ⟨rfl, hC⟩
        simp only [Act.put, List.setIfInBounds_toArray, List.set_cons_zero, List.set_cons_succ]
        refine wpEffT_free (fun b => .slice b.1 n0 b.2) ?_ ?_
        focus
          intro B L w9 hL hD hC
          have q9 : Nw wr w9 := hC
          refine .inl ⟨by rfl, ?_⟩
          unfold effAtT
          go_simp
          refine (HWT.out w9 q9).mono ?_
          rintro e w8 ⟨A8, c8, rfl, q8⟩
          exact ⟨(A8, c8), rfl, q9.tr q8⟩
        simp only [Act.put, List.setIfInBounds_toArray, List.set_cons_zero, List.set_cons_succ]
        apply wpEffT_cons
        focus
          intro B L w9 hL hD hC
          have q9 : Nw wr w9 := hC
          refine .inl ⟨by rfl, ?_⟩
          unfold effAt
          go_simp
          exact ⟨rfl, hC⟩
        simp only [Act.put, List.setIfInBounds_toArray, List.set_cons_zero, List.set_cons_succ]
        by_cases h40 : n0 < 40
        · have hi40 : (n0 : Int) < 40 := by omega
          have hd40 : decide ((n0 : Int) < 40) = true := decide_eq_true hi40
          apply wpEffT_cons
          focus
            intro B L w9 hL hD hC
            have q9 : Nw wr w9 := hC
            refine .inl ⟨by rfl, ?_⟩
            unfold effAt
            go_simp
            exact ⟨rfl, hC⟩
          simp only [Act.put, List.setIfInBounds_toArray, List.set_cons_zero, List.set_cons_succ]
          apply wpEffT_cons
          focus
            intro B L w9 hL hD hC
            have q9 : Nw wr w9 := hC
            refine .inl ⟨by rfl, ?_⟩
            unfold effAt
            go_simp
            exact ⟨rfl, hC⟩
          simp only [Act.put, List.setIfInBounds_toArray, List.set_cons_zero, List.set_cons_succ]
          refine wpEffT_nil fun B wz hC => ?_
          have q6 : Nw wr wz := hC
          clear hC
          have N6 := hN.nw q6
          have y6 := N6.blk
          have hcp : ∀ w9, Nw wz w9 → Calls Tryz.prog 64 #[.agg (letA x)] w9 fun e w' => ∃ y : LetM, e = .returned (.agg (letA y)) ∧ y.x = x.x ∧ LetIn w' (Since w9) y ∧ Nw w9 w' := fun w9 q => copy_let w9 F x ((xi.nw q6).nw q) xz
          have HCP := Lib.hid hcp
          clear hcp
          obtain ⟨n2, hn2⟩ : ∃ n2, n2 = X2.r.l.length := ⟨_, rfl⟩
          have own6 : Own wz 50 20 X2.r.a n2 X2.r.c (letsC X2.r.l) := by rw [hn2]; exact N6.own
          have g6 : ∀ w9, Nw wz w9 → w9.cell? ⟨X2.g, 0, none⟩ = some (.slice X2.r.a n2 X2.r.c) := fun w9 q9 => by
            rw [hn2]
            simpa using (y6.fr q9 (fun h => h)).cell 0
          have hn2l : n2 ≤ 90010000 := by omega
          have hnb : ¬ (inA X2.r.a b ∨ b = X2.g) := fun e => by
            rcases e with e | e
            · exact hFO2 b hFb (hN.base b e)
            · exact hFO2 b hFb (e ▸ hN.og)
          have HN2 := Lib.hid hn2
          have HG6 := Lib.hid g6
          clear hn2 g6
          go_upto_region 6 with (fail)
          refine wp_region_appT (T := SdT) 9 10 11 14 (fun w9 => Nw wz w9) (sdS1 wz x) (sdS2 wz x) (ddS3 wz x X2.r.a n2 X2.r.c (letsC X2.r.l)) (ddS4 wz x X2.r.a n2 X2.r.c (letsC X2.r.l) X2.g) (fun _ => (letMZ, 0, none)) (by kernel_rfl) (by kernel_rfl) ((Fr.refl (fun _ => False) wz).drew) ?_
          apply wpEffT_cons
          focus
            intro B L w9 hL hD hC
            refine .inl ⟨by rfl, ?_⟩
            unfold effAt
            go_simp
            exact ⟨rfl, hC.keep (by kernel_rfl) hD (by rfl) (by rfl) (by rfl) (by rfl)⟩
          simp only [Act.put, List.setIfInBounds_toArray, List.set_cons_zero, List.set_cons_succ]
          apply wpEffT_cons
          focus
            intro B L w9 hL hD hC
            refine .inl ⟨by rfl, ?_⟩
            unfold effAt
            go_simp
            exact ⟨rfl, hC.keep (by kernel_rfl) hD (by rfl) (by rfl) (by rfl) (by rfl)⟩
          simp only [Act.put, List.setIfInBounds_toArray, List.set_cons_zero, List.set_cons_succ]
          apply wpEffT_cons
          focus
            intro B L w9 hL hD hC
            refine .inl ⟨by rfl, ?_⟩
            unfold effAt
            go_simp
            exact ⟨rfl, hC.keep (by kernel_rfl) hD (by rfl) (by rfl) (by rfl) (by rfl)⟩
          simp only [Act.put, List.setIfInBounds_toArray, List.set_cons_zero, List.set_cons_succ]
          apply wpEffT_cons
          focus
            intro B L w9 hL hD hC
            refine .inl ⟨by rfl, ?_⟩
            unfold effAt
            go_simp
            exact ⟨rfl, hC.keep (by kernel_rfl) hD (by rfl) (by rfl) (by rfl) (by rfl)⟩
          simp only [Act.put, List.setIfInBounds_toArray, List.set_cons_zero, List.set_cons_succ]
          apply wpEffT_cons
          focus
            intro B L w9 hL hD hC
            have q9 : Nw wz w9 := hC.early hL (by kernel_rfl) (by kernel_rfl) (fun h => h) (fun a h => h.1) (fun a b h => h.1.1)
            have hg9 := HG6.out w9 q9
            refine .inl ⟨by rfl, ?_⟩
            unfold effAt
            go_simp
            exact ⟨rfl, hC.keep (by kernel_rfl) hD (by rfl) (by rfl) (by rfl) (by rfl)⟩
          simp only [Act.put, List.setIfInBounds_toArray, List.set_cons_zero, List.set_cons_succ]
          apply wpEffT_cons
          focus
            intro B L w9 hL hD hC
            refine .inl ⟨by rfl, ?_⟩
            unfold effAt
            go_simp
            exact ⟨rfl, hC.keep (by kernel_rfl) hD (by rfl) (by rfl) (by rfl) (by rfl)⟩
          simp only [Act.put, List.setIfInBounds_toArray, List.set_cons_zero, List.set_cons_succ]
          apply wpEffT_cons
          focus
            intro B L w9 hL hD hC
            refine .inl ⟨by rfl, ?_⟩
            unfold effAt
            go_simp
            exact ⟨rfl, hC.keep (by kernel_rfl) hD (by rfl) (by rfl) (by rfl) (by rfl)⟩
          simp only [Act.put, List.setIfInBounds_toArray, List.set_cons_zero, List.set_cons_succ]
          apply wpEffT_cons
          focus
            intro B L w9 hL hD hC
            refine .inl ⟨by rfl, ?_⟩
            unfold effAt
            go_simp
            exact ⟨rfl, hC.keep (by kernel_rfl) hD (by rfl) (by rfl) (by rfl) (by rfl)⟩
          simp only [Act.put, List.setIfInBounds_toArray, List.set_cons_zero, List.set_cons_succ]
          apply wpEffT_cons
          focus
            intro B L w9 hL hD hC
            have f9 := hC.all (φ := Fr (fun k => inA X2.r.a k ∨ k = X2.g) wz w9) (fun h => Nw.on h) (fun a h => Nw.on h.1) (fun a b h => Nw.on h.1.1) (fun a b h => dd3_fr h _) (fun a b h => dd4_fr h)
            refine .inl ⟨by rfl, ?_⟩
            exact effAt_cells 50 _ rfl b (o + k * 20) rfl (letL x) _ (fun j u hu => (f9.cell (p := ⟨b, o + k * 20 + j, none⟩) (Nat.lt_of_lt_of_le hbw q6.size) hnb).trans (HC.out wz q6 j u hu)) Tryz.underlying50 rfl (by kernel_rfl) (hC.keep (by kernel_rfl) hD (by rfl) (by rfl) (by rfl) (by rfl))
          simp only [Act.put, List.setIfInBounds_toArray, List.set_cons_zero, List.set_cons_succ]
          refine wpEffT_free (fun b => .agg (letA b.1)) ?_ ?_
          focus
            intro B L w9 hL hD hC
            obtain ⟨h1, h2⟩ := hC.call hL (by kernel_rfl) (by kernel_rfl) (by kernel_rfl) (by kernel_rfl) hD (by rfl) (by rfl) (by rfl)
            refine .inl ⟨by rfl, ?_⟩
            unfold effAtT
            go_simp
            refine (HCP.out _ h1).mono ?_
            rintro e w8 ⟨y, rfl, ey, oy, q8⟩
            exact ⟨(y, 0, none), rfl, h2 _ _ ⟨h1.tr q8, ey, oy.mono (fun k hk _ => Nat.le_trans h1.size hk)⟩⟩
          simp only [Act.put, List.setIfInBounds_toArray, List.set_cons_zero, List.set_cons_succ]
          refine wpEffT_free (fun b => .slice (some ⟨b.2.1, 0, none⟩) 1 1) ?_ ?_
          focus
            intro B L w9 hL hD hC
            obtain ⟨h1, h2⟩ := hC.build hL (hD 9 (by kernel_rfl)) (by kernel_rfl) (by kernel_rfl) (by kernel_rfl) hD (by rfl) (by rfl) (by rfl)
            refine .inl ⟨by rfl, ?_⟩
            unfold effAtT
            go_simp
            exact ⟨(letMZ, w9.heap.size, none), rfl, h2 (w9.alloc (.cells (letA (B 9).1) 50)) _ ⟨sd1_nw h1 ((Fr.refl (fun _ => False) w9).alloc _), sl_new w9 50 (letL (B 9).1) _ rfl⟩⟩
          simp only [Act.put, List.setIfInBounds_toArray, List.set_cons_zero, List.set_cons_succ]
          refine wpEffT_free (fun b => .slice b.2.2 (n2 + 1) b.2.1) ?_ ?_
          focus
            intro B L w9 hL hD hC
            obtain ⟨h1, h2⟩ := hC.app hL (hD 10 (by kernel_rfl)) (by kernel_rfl) (by kernel_rfl) hD (by rfl) (by rfl)
            refine .inl ⟨by rfl, ?_⟩
            exact effAtT_append _ _ 28 rfl 256 (.agg #[U8V 0, I64 0, I64 0, I64 0, I64 0, I64 0, I64 0, I64 0, .bool false, .slice none 0 0, I64 0, I64 0, .slice none 0 0, .slice none 0 0, .slice none 0 0, .slice none 0 0, I64 0, I64 0, I64 0, .slice none 0 0]) Tryz.underlying28 info_let (by rfl) (by omega) rfl (own6.fr h1.1.1 (fun _ _ h => h)) rfl h1.2 (by rfl) (letL_cell _) (by omega) (by unfold maxLen; omega) (fun A' cap' w' hA => ⟨(letMZ, cap', A'), rfl, h2 _ _ ⟨_, h1.1, hA⟩⟩)
          simp only [Act.put, List.setIfInBounds_toArray, List.set_cons_zero, List.set_cons_succ]
          apply wpEffT_cons
          focus
            intro B L w9 hL hD hC
            refine .inl ⟨by rfl, ?_⟩
            unfold effAt
            go_simp
            exact ⟨rfl, hC.keep (by kernel_rfl) hD (by rfl) (by rfl) (by rfl) (by rfl)⟩
          simp only [Act.put, List.setIfInBounds_toArray, List.set_cons_zero, List.set_cons_succ]
          apply wpEffT_cons
          focus
            intro B L w9 hL hD hC
            refine .inl ⟨by rfl, ?_⟩
            unfold effAt
            go_simp
            exact ⟨rfl, hC.keep (by kernel_rfl) hD (by rfl) (by rfl) (by rfl) (by rfl)⟩
          simp only [Act.put, List.setIfInBounds_toArray, List.set_cons_zero, List.set_cons_succ]
          apply wpEffT_cons
          focus
            intro B L w9 hL hD hC
            obtain ⟨h1, h2⟩ := hC.store hL (hD 11 (by kernel_rfl)) (by kernel_rfl) hD
            have hg9 : w9.cell? ⟨X2.g, 0, none⟩ = some (.slice X2.r.a n2 X2.r.c) ∧ w9.frozen? ⟨X2.g, 0, none⟩ = false := by
              obtain ⟨wy, h3, h4⟩ := h1
              have hb := (y6.fr h3.1 (fun h => h)).fr h4.fr N6.ga
              refine ⟨?_, hb.frozen 0⟩
              rw [HN2.out]
              simpa using hb.cell 0
            obtain ⟨hg9, hf9⟩ := hg9
            refine .inl ⟨by rfl, ?_⟩
            unfold effAt
            go_simp
            exact ⟨rfl, h2 _ ⟨w9, h1, rfl⟩⟩
          simp only [Act.put, List.setIfInBounds_toArray, List.set_cons_zero, List.set_cons_succ]
          refine wpEffT_nil fun B wf hC => ?_
          have hfin := hC.fin (by rfl)
          obtain ⟨t, ht⟩ : ∃ t, t = B 9 := ⟨_, rfl⟩
          obtain ⟨b2, hb⟩ : ∃ b, b = B 11 := ⟨_, rfl⟩
          rw [← ht, ← hb] at hfin
          clear hC hb ht
          obtain ⟨wx, ⟨wy, hs1, hap⟩, hwf⟩ := hfin
          rw [HN2.out] at hap hwf
          obtain ⟨O3, I3, X3, N7, eg3, ep3, es3, f7, hO3, hI3⟩ := IsDoc.push N6 hs1.1 t.1 hs1.2.2 (LetSz.of_eq hs1.2.1 xz) hap hwf
          have HN7 := Lib.hid N7
          have HEP := Lib.hid ep3
          have HX3 := Lib.hid hs1.2.1
          have h14 := q6.size
          have hwr := hq.size
          clear N7 ep3 hs1 hap hwf own6 y6
          go_wp2_with fail
          go_roundw
          case rel =>
            have hst2 : sendStepD (X2.L, r) x.x = (X3.L, r + 1) := by
              unfold sendStepD
              rw [if_pos ⟨HD.out.symm, by show (lnk X2.L (x.src, x.dst)).length < 40; rw [← HN0.out]; exact h40⟩, HEP.out, HX3.out]
            refine ⟨k + 1, r + 1, O3, I3, X3, hlt, by omega, by go_num, by go_num, by rw [HST.out, hst2], HN7.out, by rw [eg3, HEG.out], by omega, ?_, fun j hj => ?_, fun j hj => ?_⟩
            · exact (hq.tr (Nw.on q6)).trans f7 fun j hj => hO2 j hj
            · rcases hO3 j hj with h1 | h1
              · exact hO2 j h1
              · right; omega
            · rcases hI3 j hj with h1 | h1
              · exact hI2 j h1
              · right; omega
          case measure => simp [intOf]; omega
        · have hi40 : ¬ (n0 : Int) < 40 := by omega
          have hd40 : decide ((n0 : Int) < 40) = false := decide_eq_false hi40
          apply wpEffT_cons
          focus
            intro B L w9 hL hD hC
            have q9 : Nw wr w9 := hC
            refine .inl ⟨by rfl, ?_⟩
            unfold effAt
            go_simp
            exact ⟨rfl, hC⟩
          simp only [Act.put, List.setIfInBounds_toArray, List.set_cons_zero, List.set_cons_succ]
          apply wpEffT_cons
          focus
            intro B L w9 hL hD hC
            have q9 : Nw wr w9 := hC
            refine .inl ⟨by rfl, ?_⟩
            unfold effAt
            go_simp
            exact ⟨rfl, hC⟩
          simp only [Act.put, List.setIfInBounds_toArray, List.set_cons_zero, List.set_cons_succ]
          refine wpEffT_nil fun B wz hC => ?_
          have q6 : Nw wr wz := hC
          clear hC
          go_wp2_with fail
          go_roundw
          case rel =>
            have hst2 : sendStepD (X2.L, r) x.x = (X2.L, r) := by
              unfold sendStepD
              rw [if_neg]
              rintro ⟨_, h8⟩
              exact h40 (HN0.out ▸ h8)
            exact ⟨k + 1, r, O2, I2, X2, hlt, by omega, by go_num, rfl, by rw [HST.out, hst2], hN.nw q6, HEG.out, by omega, hq.tr (Nw.on q6), hO2, hI2⟩
          case measure => simp [intOf]; omega
    · obtain rfl : xs.length = k := by omega
      go_wp2_with fail
      go_ret
      have hT : T = (X2.L, r) := by
        rw [HT.out, ← HP.out, List.take_of_length_le (Nat.le_refl _)]
      refine ⟨by rw [hT]; rfl, O2, I2, X2, hN, HEG.out, by rw [hT], hq, hO2, hI2⟩
end Go.Proofs.YtippdjaakcgeoaaGreat

namespace Go.Proofs.YtippdjaakcgeoaaGreat
open Go Go.RowKit
set_option linter.unusedVariables false
set_option linter.unusedSimpArgs false

/-- Only blocks of colours D were turned, and new ones made. -/
structure ExtS (D : Nat → Prop) (w w' : World) (col col' : Nat → Nat) : Prop where
  fr : Fr (fun k => D (col k) ∧ k < w.heap.size) w w'
  ext : ∀ k, k < w.heap.size → col' k = col k
  cln : (∀ k, w.heap.size ≤ k → col k = 0) → ∀ k, w'.heap.size ≤ k → col' k = 0
section
variable {D D' : Nat → Prop} {w w' w'' : World} {col col' col'' : Nat → Nat} {c d g N M : Nat} {p : Nm → List LetF} {L : List LetF} {A : Option Addr} {cap : Nat} {l : List LetM}
theorem Ext.s (h : Ext w w' col col' d) (hd : D d) : ExtS D w w' col col' := ⟨h.fr.mono fun k hk => .inl ⟨by rw [hk.1]; exact hd, hk.2⟩, h.ext, h.cln⟩
theorem ExtS.nw (h : Nw w w') (col : Nat → Nat) (D : Nat → Prop) : ExtS D w w' col col := ⟨Nw.on h, fun _ _ => rfl, fun h0 k hk => h0 k (Nat.le_trans h.size hk)⟩
theorem ExtS.tr (h : ExtS D w w' col col') (k : ExtS D w' w'' col' col'') : ExtS D w w'' col col'' :=
  ⟨h.fr.trans k.fr fun b hb => (Nat.lt_or_ge b w.heap.size).elim (fun h1 => .inl ⟨by rw [← h.ext b h1]; exact hb.1, h1⟩) .inr, fun j hj => (k.ext j (Nat.lt_of_lt_of_le hj h.fr.size)).trans (h.ext j hj), fun h0 => k.cln (h.cln h0)⟩
theorem ExtS.size (h : ExtS D w w' col col') : w.heap.size ≤ w'.heap.size := h.fr.size
theorem ExtS.mono (h : ExtS D w w' col col') (hD : ∀ c, D c → D' c) : ExtS D' w w' col col' := ⟨h.fr.mono fun k hk => .inl ⟨hD _ hk.1, hk.2⟩, h.ext, h.cln⟩
theorem ExtS.nw_of (h : ExtS D w w' col col') {w0 : World} (q : Nw w0 w) (h0 : ∀ k, k < w0.heap.size → ¬ D (col k)) : Nw w0 w' :=
  q.new h.fr fun b hb => (Nat.lt_or_ge b w0.heap.size).elim (fun h1 => (h0 b h1 hb.1).elim) id
theorem CB.exts (h : ExtS D w w' col col') {k : Nat} (hk : CB w col c k) : CB w' col' c k := ⟨(h.ext k hk.2).trans hk.1, Nat.lt_of_lt_of_le hk.2 h.size⟩
theorem CB.offs (hc : ¬ D c) {k : Nat} (hk : CB w col c k) : ¬ (D (col k) ∧ k < w.heap.size) := fun h => hc (by rw [← hk.1]; exact h.1)
theorem let_exts {x : LetM} (hx : LetIn w (CB w col 0) x) (h : ExtS D w w' col col') (hd : ¬ D 0) : LetIn w' (CB w' col' 0) x :=
  (hx.fr h.fr (fun k hk => hk.offs hd)).mono fun k hk _ => hk.exts h
theorem NetC.exts (h : NetC w col c g N p) (e : ExtS D w w' col col') (hc : c ≠ 0) (hcd : ¬ D c) (hd : ¬ D 0) : NetC w' col' c g N p := by
  obtain ⟨Y, h1, h2⟩ := h
  exact ⟨Y, (h1.fr e.fr (fun k hk => hk.offs hcd) (fun k hk => hk.offs hd)).cb hc (fun k hk => (e.ext k hk.2).trans hk.1) (fun k hk => (e.ext k hk.2).trans hk.1), h2⟩
theorem blk_exts {t : TypeId} {cs : Array Value} (h : Blk w g t cs) (hc : col g = 0) (e : ExtS D w w' col col') (hd : ¬ D 0) : Blk w' g t cs ∧ col' g = 0 :=
  ⟨h.fr e.fr (fun hh => hd (by rw [← hc]; exact hh.1)), (e.ext g h.lt).trans hc⟩
/-- A net of the document whose own blocks have colour c. -/
def DocC (w : World) (col : Nat → Nat) (c g N : Nat) (L : List LetF) : Prop := ∃ X, IsDoc w (CB w col c) (CB w col 0) X ∧ X.g = g ∧ X.L = L ∧ X.r.l.length ≤ N
theorem IsDoc.cb {O I : Nat → Prop} {X : DocM} (h : IsDoc w O I X) (hc : c ≠ 0) (hO : ∀ k, O k → col k = c) (hI : ∀ k, I k → col k = 0) : IsDoc w (CB w col c) (CB w col 0) X :=
  h.grow (fun k hk => ⟨hO k hk, h.ol k hk⟩) (fun k hk => ⟨hI k hk, h.il k hk⟩) (fun k h1 h2 => hc (h1.1.symm.trans h2.1)) (fun k hk => hk.2) (fun k hk => hk.2)
theorem DocC.exts (h : DocC w col c g N L) (e : ExtS D w w' col col') (hc : c ≠ 0) (hcd : ¬ D c) (hd : ¬ D 0) : DocC w' col' c g N L := by
  obtain ⟨Y, h1, h2⟩ := h
  exact ⟨Y, (h1.fr e.fr (fun k hk => hk.offs hcd) (fun k hk => hk.offs hd)).cb hc (fun k hk => (e.ext k hk.2).trans hk.1) (fun k hk => (e.ext k hk.2).trans hk.1), h2⟩
theorem DocC.ext (h : DocC w col c g N L) (e : Ext w w' col col' d) (hc : c ≠ 0) (hcd : c ≠ d) (hd : d ≠ 0) : DocC w' col' c g N L := h.exts (e.s (D := (· = d)) rfl) hc hcd (fun e => hd e.symm)
theorem DocC.nw (h : DocC w col c g N L) (q : Nw w w') (hc : c ≠ 0) : DocC w' col c g N L := h.exts (ExtS.nw q col (fun _ => False)) hc (fun h => h) (fun h => h)
theorem DocC.more (h : DocC w col c g N L) (hN : N ≤ M) : DocC w col c g M L := by
  obtain ⟨Y, h1, h2, h3, h4⟩ := h
  exact ⟨Y, h1, h2, h3, Nat.le_trans h4 hN⟩
theorem doc_step {O' I' : Nat → Prop} {X' : DocM} (hc : c ≠ 0) (h' : IsDoc w' O' I' X') (hf : Fr (CB w col c) w w') (hO : ∀ k, O' k → CB w col c k ∨ w.heap.size ≤ k) (hI : ∀ k, I' k → CB w col 0 k ∨ w.heap.size ≤ k) :
    ∃ col', Ext w w' col col' c ∧ IsDoc w' (CB w' col' c) (CB w' col' 0) X' ∧ ∀ k, I' k → CB w' col' 0 k := by
  have hI2 : ∀ k, I' k → colN w col c O' k = 0 := fun k hk => (hI k hk).elim (fun h => (colN_old h.2).trans h.1) (fun h => colN_out h (fun ho => h'.dis k ho hk))
  exact ⟨colN w col c O', ⟨hf, fun k hk => colN_old hk, fun _ k hk => colN_out (Nat.le_trans hf.size hk) (fun ho => by have := h'.ol k ho; omega)⟩, h'.cb hc (fun k hk => (hO k hk).elim (fun h => (colN_old h.2).trans h.1) (fun h => colN_in h hk)) hI2, fun k hk => ⟨hI2 k hk, h'.il k hk⟩⟩
end
section
variable {w : World} {col : Nat → Nat} {c g N : Nat} {L : List LetF}
theorem DocC.len (h : DocC w col c g N L) : L.length ≤ N := by
  obtain ⟨X, _, _, rfl, h4⟩ := h
  rw [List.length_map]
  exact h4
theorem vSend (hc : c ≠ 0) (h : DocC w col c g N L) (hN : N < 90000000) (F : Nat → Prop) (A : Option Addr) (cap : Nat) (xs : List LetM) (hsl : Sl w F A (letsC xs)) (he : ∀ x ∈ xs, LetIn w F x) (hz : ∀ x ∈ xs, LetSz x) (hsz : xs.length ≤ 10000) (hF : ∀ k, F k → col k ≠ c ∧ k < w.heap.size) :
    Calls Tryz.prog 20 #[.pointer (some ⟨g, 0, none⟩), .slice A xs.length cap] w fun e w' => e = .returned (I64 ((sendD L (xs.map LetM.x)).2 : Nat)) ∧ ∃ col', Ext w w' col col' c ∧ DocC w' col' c g (N + xs.length) (sendD L (xs.map LetM.x)).1 := by
  obtain ⟨X, h1, rfl, rfl, h4⟩ := h
  refine (dSend_any w _ _ F X h1 (by omega) A cap xs hsl he hz hsz (fun k hk hh => (hF k hk).1 hh.1) (fun k hk => (hF k hk).2)).mono fun e w' hh => ?_
  obtain ⟨rfl, O', I', X', i1, i2, i4, i6, i7, i8⟩ := hh
  obtain ⟨col', j1, j2, _⟩ := doc_step hc i1 i6 i7 i8
  have hl := sendD_len X.L (xs.map LetM.x)
  rw [← i4, List.length_map, List.length_map, List.length_map] at hl
  exact ⟨rfl, col', j1, ⟨X', j2, i2, i4, by omega⟩⟩
theorem vDeliver0 (h : DocC w col c g N L) (hN : N < 90000000) (a b : Int) (hp : lnk L (a, b) = []) :
    Calls Tryz.prog 53 #[.pointer (some ⟨g, 0, none⟩), I64 a, I64 b] w fun e w' => e = .returned (.tuple #[.agg (letA letMZ), .bool false]) ∧ Nw w w' := by
  obtain ⟨X, h1, rfl, rfl, h4⟩ := h
  exact dDeliver_none w _ _ X h1 (by omega) a b hp
theorem setD_len (L : List LetF) (n : Nm) (l : List LetF) (h : l.length ≤ (lnk L n).length) : (setD L n l).length ≤ L.length := by
  unfold setD
  have := off_lnk L n
  rw [List.length_append]
  omega
theorem vDeliver1 (hc : c ≠ 0) (h : DocC w col c g N L) (hN : N < 90000000) (a b : Int) {y : LetF} {l : List LetF} (hp : lnk L (a, b) = y :: l) :
    Calls Tryz.prog 53 #[.pointer (some ⟨g, 0, none⟩), I64 a, I64 b] w fun e w' => ∃ (x : LetM) (col' : Nat → Nat), e = .returned (.tuple #[.agg (letA x), .bool true]) ∧ x.x = y ∧ LetIn w' (CB w' col' 0) x ∧ LetSz x ∧ Ext w w' col col' c ∧ DocC w' col' c g N (setD L (a, b) l) := by
  obtain ⟨X, h1, rfl, rfl, h4⟩ := h
  refine (dDeliver_some w _ _ X h1 (by omega) a b hp).mono fun e w' hh => ?_
  obtain ⟨x, O', I', X', rfl, i1, i2, i3, i4, i5, i6, i7, i8, i9⟩ := hh
  obtain ⟨col', j1, j2, j3⟩ := doc_step hc i4 i7 i8 i9
  have hl := setD_len X.L (a, b) l (by rw [hp]; simp)
  rw [← i6, List.length_map, List.length_map] at hl
  exact ⟨x, col', rfl, i1, i2.mono fun k hk _ => j3 k hk, i3, j1, ⟨X', j2, i5, i6, by omega⟩⟩
theorem vLose0 (h : DocC w col c g N L) (hN : N < 90000000) (a b : Int) (hp : lnk L (a, b) = []) :
    Calls Tryz.prog 54 #[.pointer (some ⟨g, 0, none⟩), I64 a, I64 b] w fun e w' => e = .returned (.bool false) ∧ Nw w w' :=
  dLose_of w g a b false (fun w' => Nw w w') (fun _ _ h q => h.tr q) ((vDeliver0 h hN a b hp).mono fun e w' h => ⟨letMZ, h.1, h.2⟩)
theorem vLose1 (hc : c ≠ 0) (h : DocC w col c g N L) (hN : N < 90000000) (a b : Int) {y : LetF} {l : List LetF} (hp : lnk L (a, b) = y :: l) :
    Calls Tryz.prog 54 #[.pointer (some ⟨g, 0, none⟩), I64 a, I64 b] w fun e w' => e = .returned (.bool true) ∧ ∃ col', Ext w w' col col' c ∧ DocC w' col' c g N (setD L (a, b) l) :=
  dLose_of w g a b true (fun w' => ∃ col', Ext w w' col col' c ∧ DocC w' col' c g N (setD L (a, b) l)) (fun _ _ h q => by
    obtain ⟨col', h1, h2⟩ := h
    exact ⟨col', h1.tr (Ext.nw q _ _), h2.nw q hc⟩) ((vDeliver1 hc h hN a b hp).mono fun e w' hh => by
    obtain ⟨x, col', h1, _, _, _, h5, h6⟩ := hh
    exact ⟨x, h1, col', h5, h6⟩)
theorem twD_len (L : List LetF) (n : Nm) : (twD L n).1.length ≤ L.length + 1 := by
  unfold twD
  split
  · simp
  · rename_i x l hl
    split
    · simp
    · unfold setD
      have := off_lnk L n
      rw [hl] at this
      rw [List.length_append, List.length_append]
      simp at this ⊢
      omega
theorem vTwice (hc : c ≠ 0) (h : DocC w col c g N L) (hN : N < 90000000) (a b : Int) :
    Calls Tryz.prog 55 #[.pointer (some ⟨g, 0, none⟩), I64 a, I64 b] w fun e w' => e = .returned (.bool (twD L (a, b)).2) ∧ ∃ col', Ext w w' col col' c ∧ DocC w' col' c g (N + 1) (twD L (a, b)).1 := by
  obtain ⟨X, h1, rfl, rfl, h4⟩ := h
  refine (dTwice_any w _ _ X h1 (by omega) a b).mono fun e w' hh => ?_
  obtain ⟨rfl, O', I', X', i1, i2, i4, i6, i7, i8⟩ := hh
  obtain ⟨col', j1, j2, _⟩ := doc_step hc i1 i6 i7 i8
  have hl := twD_len X.L (a, b)
  rw [← i4, List.length_map, List.length_map] at hl
  exact ⟨rfl, col', j1, ⟨X', j2, i2, i4, by omega⟩⟩
theorem fwD_len (L : List LetF) (n : Nm) : (fwD L n).1.length ≤ L.length := by
  unfold fwD
  split
  · simp
  · rename_i x hx
    refine setD_len L n _ ?_
    obtain ⟨ys, hy⟩ := List.getLast?_eq_some_iff.1 hx
    rw [hy, List.dropLast_concat]
    simp
theorem vForward (hc : c ≠ 0) (h : DocC w col c g N L) (hN : N < 90000000) (a b : Int) :
    Calls Tryz.prog 56 #[.pointer (some ⟨g, 0, none⟩), I64 a, I64 b] w fun e w' => e = .returned (.bool (fwD L (a, b)).2) ∧ ∃ col', Ext w w' col col' c ∧ DocC w' col' c g N (fwD L (a, b)).1 := by
  obtain ⟨X, h1, rfl, rfl, h4⟩ := h
  refine (dForward_any w _ _ X h1 (by omega) a b).mono fun e w' hh => ?_
  obtain ⟨rfl, O', I', X', i1, i2, i4, i6, i7, i8⟩ := hh
  obtain ⟨col', j1, j2, _⟩ := doc_step hc i1 i6 i7 i8
  have hl := fwD_len X.L (a, b)
  rw [← i4, List.length_map, List.length_map] at hl
  exact ⟨rfl, col', j1, ⟨X', j2, i2, i4, by omega⟩⟩
theorem vTake (hc : c ≠ 0) (h : DocC w col c g N L) (hN : N < 90000000) (b : Int) :
    Calls Tryz.prog 57 #[.pointer (some ⟨g, 0, none⟩), I64 b] w fun e w' => ∃ A cap ys col', e = .returned (.slice A ys.length cap) ∧ ys.map LetM.x = (takeD L b 5).1 ∧ Sl w' (fun _ => True) A (letsC ys) ∧ (∀ y ∈ ys, LetIn w' (CB w' col' 0) y ∧ LetSz y) ∧ Ext w w' col col' c ∧ DocC w' col' c g N (takeD L b 5).2 := by
  obtain ⟨X, h1, rfl, rfl, h4⟩ := h
  refine (dTake_any w _ _ X h1 (by omega) b).mono fun e w' hh => ?_
  obtain ⟨A, cap, ys, O', I', X', rfl, i1, i2, i3, i4, i5, i6, i7, i8, i9⟩ := hh
  obtain ⟨col', j1, j2, j3⟩ := doc_step hc i4 i7 i8 i9
  have hl := takeD_len X.L b 5
  rw [← i6, List.length_map, List.length_map] at hl
  exact ⟨A, cap, ys, col', rfl, i1, i2.mono (fun _ _ _ => trivial), fun y hy => ⟨(i3 y hy).1.mono fun k hk _ => j3 k hk, (i3 y hy).2⟩, j1, ⟨X', j2, i5, i6, by omega⟩⟩
theorem vCopy (hc : c ≠ 0) (h : DocC w col c g N L) (hN : N < 90000000) (c' : Nat) (hc' : c' ≠ 0) :
    Calls Tryz.prog 13 #[.pointer (some ⟨g, 0, none⟩)] w fun e w' => ∃ g' col', e = .returned (.pointer (some ⟨g', 0, none⟩)) ∧ Ext w w' col col' c' ∧ DocC w' col' c' g' N L ∧ Nw w w' := by
  obtain ⟨X, h1, rfl, rfl, h4⟩ := h
  refine (dCopy_any w _ _ X h1 (by omega)).mono fun e w' hh => ?_
  obtain ⟨O', I', X', rfl, i1, i2, i4, i5, i6⟩ := hh
  obtain ⟨col', j1, j2, _⟩ := doc_step (col := col) hc' i1 (Nw.on i4) (fun k hk => .inr (i5 k hk)) (fun k hk => .inr (i6 k hk))
  have hl := congrArg List.length i2
  rw [List.length_map, List.length_map] at hl
  exact ⟨X'.g, col', rfl, j1, ⟨X', j2, rfl, i2, by omega⟩, i4⟩
theorem vWaiting (h : DocC w col c g N L) (hN : N < 90000000) (a b : Int) :
    Calls Tryz.prog 59 #[.pointer (some ⟨g, 0, none⟩), I64 a, I64 b] w fun e w' => ∃ A cap ys, e = .returned (.slice A ys.length cap) ∧ ys.map LetM.x = lnk L (a, b) ∧ Sl w' (fun _ => True) A (letsC ys) ∧ (∀ y ∈ ys, LetIn w' (fun _ => True) y) ∧ (∀ y ∈ ys, LetSz y) ∧ Nw w w' := by
  obtain ⟨X, h1, rfl, rfl, h4⟩ := h
  refine (dWaiting_any w _ _ X h1 (by omega) a b).mono fun e w' hh => ?_
  obtain ⟨A, cap, ys, i1, i2, i3, i4, i5, i6, _⟩ := hh
  exact ⟨A, cap, ys, i1, i2, i3.sl.mono fun _ _ _ => trivial, fun y hy => (i4 y hy).mono fun _ _ _ => trivial, i5, i6⟩
end
/-! A net and the document's beside it. -/
theorem NetC.ok {w : World} {col : Nat → Nat} {c g N : Nat} {p : Nm → List LetF} (h : NetC w col c g N p) : ∀ n, (∀ x ∈ p n, letOk x = true) ∧ (p n).length ≤ 40 := by
  obtain ⟨Y, h1, _, rfl, _⟩ := h
  intro n
  cases hf : Y.f n with
  | none => rw [NetM.p_none hf]; exact ⟨fun x hx => (by cases hx), Nat.zero_le _⟩
  | some s =>
    rw [NetM.p_some hf]
    refine ⟨fun x hx => ?_, by rw [List.length_map]; exact (h1.link n s hf).most⟩
    obtain ⟨y, hy, rfl⟩ := List.mem_map.1 hx
    exact ((h1.link n s hf).ok y hy).1
theorem relN_tw {p : Nm → List LetF} {L : List LetF} (h : RelN p L) (hok : ∀ n, ∀ x ∈ p n, letOk x = true) (n : Nm) : RelN (twP p n).1 (twD L n).1 ∧ (twP p n).2 = (twD L n).2 := by
  unfold twP twD
  rw [← h n]
  cases hp : p n with
  | nil => exact ⟨h, rfl⟩
  | cons x l =>
    have hx : letOk x = true := hok n x (by rw [hp]; exact List.mem_cons_self)
    have hn : (x.src, x.dst) = n := relN_on h (by rw [hp]; exact List.mem_cons_self)
    simp only []
    by_cases h40 : 40 ≤ (x :: l).length
    · rw [if_pos h40]
      have e1 : sendP p [x] = (p, 0) := by
        unfold sendP
        rw [List.foldl_cons, List.foldl_nil]
        unfold sendStep
        rw [if_neg]
        rintro ⟨_, h2⟩
        rw [hn] at h2
        simp only [] at h2
        rw [hp] at h2
        omega
      rw [e1]
      exact ⟨h, rfl⟩
    · rw [if_neg h40]
      have e1 : sendP p [x] = (setP p n ((x :: l) ++ [x]), 1) := by
        unfold sendP
        rw [List.foldl_cons, List.foldl_nil]
        unfold sendStep
        rw [if_pos ⟨hx, by rw [hn]; simp only []; rw [hp]; omega⟩, hn]
        refine congrArg (fun f => (f, 0 + 1)) ?_
        funext m
        unfold setP
        by_cases e : m = n
        · rw [if_pos e, if_pos e, e]; simp only []; rw [hp]
        · rw [if_neg e, if_neg e]
      rw [e1]
      refine ⟨relN_set h n _ (fun y hy => ?_), rfl⟩
      rcases List.mem_append.1 hy with hy | hy
      · exact relN_on h (by rw [hp]; exact hy)
      · rw [List.mem_singleton.1 hy]; exact hn
theorem relN_fw {p : Nm → List LetF} {L : List LetF} (h : RelN p L) (n : Nm) : RelN (fwP p n).1 (fwD L n).1 ∧ (fwP p n).2 = (fwD L n).2 := by
  unfold fwP fwD
  rw [← h n]
  cases hp : (p n).getLast? with
  | none => exact ⟨h, rfl⟩
  | some x =>
    obtain ⟨ys, hy⟩ := List.getLast?_eq_some_iff.1 hp
    refine ⟨relN_set h n _ (fun y hy2 => relN_on h (n := n) ?_), rfl⟩
    rw [hy] at hy2 ⊢
    rw [List.dropLast_concat] at hy2
    rcases List.mem_cons.1 hy2 with rfl | hy2
    · simp
    · exact List.mem_append_left _ hy2
/-- A net in colour cn, the document's in colour cd: they say the same. -/
def Duo (w : World) (col : Nat → Nat) (cn cd gn gd N : Nat) : Prop := ∃ p L, NetC w col cn gn N p ∧ DocC w col cd gd N L ∧ RelN p L
section
variable {D : Nat → Prop} {w w' : World} {col col' : Nat → Nat} {cn cd gn gd N M : Nat}
theorem Duo.exts (h : Duo w col cn cd gn gd N) (e : ExtS D w w' col col') (h1 : cn ≠ 0) (h2 : cd ≠ 0) (h3 : ¬ D cn) (h4 : ¬ D cd) (h0 : ¬ D 0) : Duo w' col' cn cd gn gd N := by
  obtain ⟨p, L, a, b, c⟩ := h
  exact ⟨p, L, a.exts e h1 h3 h0, b.exts e h2 h4 h0, c⟩
theorem Duo.nw (h : Duo w col cn cd gn gd N) (q : Nw w w') (h1 : cn ≠ 0) (h2 : cd ≠ 0) : Duo w' col cn cd gn gd N :=
  h.exts (ExtS.nw q col (fun _ => False)) h1 h2 (fun h => h) (fun h => h) (fun h => h)
theorem Duo.more (h : Duo w col cn cd gn gd N) (hN : N ≤ M) : Duo w col cn cd gn gd M := by
  obtain ⟨p, L, a, b, c⟩ := h
  exact ⟨p, L, a.more hN, b.more hN, c⟩
end
end Go.Proofs.YtippdjaakcgeoaaGreat
