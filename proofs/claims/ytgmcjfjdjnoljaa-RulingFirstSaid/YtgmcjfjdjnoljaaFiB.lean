/- Rulings: the first of a name stands: the walk. -/
import Derived.Test.YtgmcjfjdjnoljaaFiA
import Derived.Test.YtgmcjfjdjnoljaaQTail
import Derived.Test.YtgmcjfjdjnoljaaRuT
import Derived.Deep.DeepCutAuto
namespace Go.Proofs.Ytgmcjfjdjnoljaa
open Go Go.RowKit

/-- A second book as the first. -/
def Twin (w : World) (FB : Nat → Prop) (hM : Nat) (B : List Ver) (cv : Value) (wx : World) : Prop :=
  ∃ gC FC, cv = .pointer (some ⟨gC, 0, none⟩) ∧ IsBk wx FC gC B ∧ ∀ q, FC q → w.heap.size ≤ q ∧ ¬ FB q ∧ q ≠ hM
theorem ver_cells {w : World} {g : Nat} {v : Ver} {A : Option Addr} {n c : Nat} (h : Blk w g 38 #[I64 v.1.1, I64 v.1.2, .bool v.2.1, I64 v.2.2.1, .slice A n c]) :
    w.cell? ⟨g, 0, none⟩ = some (I64 v.1.1) ∧ w.cell? ⟨g, 1, none⟩ = some (I64 v.1.2) ∧ w.cell? ⟨g, 2, none⟩ = some (.bool v.2.1) ∧ w.cell? ⟨g, 3, none⟩ = some (I64 v.2.2.1) ∧ w.cell? ⟨g, 4, none⟩ = some (.slice A n c) :=
  ⟨by simpa using h.cell 0, by simpa using h.cell 1, by simpa using h.cell 2, by simpa using h.cell 3, by simpa using h.cell 4⟩
theorem nm_cells {w : World} {b o : Nat} {v : Ver} {A : Option Addr} {c : Nat} (h : ∀ p u, (verL v A c)[p]? = some u → w.cell? ⟨b, o + p, none⟩ = some u) :
    w.cell? ⟨b, o, none⟩ = some (I64 v.1.1) ∧ w.cell? ⟨b, o + 1, none⟩ = some (I64 v.1.2) := ⟨h 0 _ rfl, h 1 _ rfl⟩
theorem verZ (w : World) : (zeroValue 38).run Try.prog w = .ok (.agg zeroC) w := by kernel_rfl
def LtRel (w5 : World) (m : Nat) (i : Value) (wx : World) : Prop := ∃ t : Nat, t ≤ m ∧ i = .int .i64 t ∧ Nw w5 wx
theorem Twin.fr {w wx wy : World} {FB S : Nat → Prop} {hM : Nat} {B : List Ver} {cv : Value} (h : Twin w FB hM B cv wx) (hf : Fr S wx wy) (hS : ∀ q, S q → q = hM) : Twin w FB hM B cv wy := by
  obtain ⟨gC, FC, h1, h2, h3⟩ := h
  exact ⟨gC, FC, h1, h2.fr hf (fun q h h4 => (h3 q h).2.2 (hS q h4)), h3⟩
/-- The book, the table, and, from a round on, the second book. -/
def FiMid (w : World) (gB hM : Nat) (B : List Ver) (f : Nm → Option Value) (p : Prop) (cv : Value) (wx : World) : Prop :=
  ∃ FB, IsBk wx FB gB B ∧ MapN Try.prog 35 wx hM B.length f ∧ (∀ q, FB q → w.heap.size ≤ q ∧ q ≠ hM) ∧ (p → Twin w FB hM B cv wx) ∧ Nw w wx
def FiRel (w : World) (gB hM n k : Nat) (cv i : Value) (wx : World) : Prop :=
  ∃ (j : Nat) (B : List Ver) (f : Nm → Option Value), j ≤ n ∧ i = .int .i64 j ∧ B.length ≤ j ∧ BookOk B ∧ TabOk w f B ∧ FiMid w gB hM B f (k < j) cv wx
/-- Behind a decision: the books, the table, and what was told. -/
def FiX (w : World) (gB hM s : Nat) (B : List Ver) (f : Nm → Option Value) (p : Prop) (cv : Value) (gX : Nat) (xv : Ver) (Ax : Option Addr) (cx : Nat) (wx : World) : Prop :=
  ∃ FB, IsBk wx FB gB B ∧ MapN Try.prog 35 wx hM s f ∧ (∀ q, FB q → w.heap.size ≤ q ∧ q ≠ hM) ∧ (p → Twin w FB hM B cv wx) ∧
    Blk wx gX 38 #[I64 xv.1.1, I64 xv.1.2, .bool xv.2.1, I64 xv.2.2.1, .slice Ax xv.2.2.2.length cx] ∧ (w.heap.size ≤ gX ∧ gX ≠ hM) ∧ Sl wx (fun q => w.heap.size ≤ q ∧ q ≠ hM) Ax (rdgsCells xv.2.2.2) ∧ Nw w wx
set_option maxRecDepth 100000 in
set_option maxHeartbeats 8000000 in
theorem first_walk (w : World) (A : Option Addr) (c : Nat) (l : List Ver) (vcs : List Value) (x : Int) (hs : Sl w (· < w.heap.size) A vcs) (hv : VersC w (· < w.heap.size) l vcs) (hl : l.length ≤ 3000000000000) (hz : ∀ v ∈ l, NmWf v.1 ∧ v.2.2.2.length ≤ maxLen ∧ ∀ r ∈ v.2.2.2, RdgLen2 r) (hx : -9223372036854775808 ≤ x ∧ x ≤ 9223372036854775807) :
    Calls Try.prog 5 #[.slice A l.length c, .int .i64 x] w fun e w' => e = .returned (.bool true) ∧ Nw w w' := by
  have hmm := @run_makeMap Try.prog
  have haw := awake19 w
  have hgr := fun w1 (q : Nw w w1) => great_any w1 _ _ A c l vcs (hs.fr q (fun _ _ h => h)) (hv.fr q (fun _ _ h => h)) hl (fun v h => (hz v h).2)
  obtain ⟨n, hn⟩ : ∃ n, n = l.length := ⟨_, rfl⟩
  rw [← hn] at hl hgr ⊢
  have HN := Lib.hid hn
  clear hn
  go_enter Try.func5, Try.ntmps5
  go_wp2_with fail
  refine haw.mono ?_
  rintro e w1 ⟨rfl, q1⟩
  go_wp2_with fail
  refine (hgr w1 q1).mono ?_
  rintro e w2 ⟨b, rfl, hb, q2⟩
  have q2 := q1.tr q2
  cases b with
  | true =>
    go_wp2_with fail
    go_ret
    exact ⟨rfl, q2⟩
  | false =>
    obtain ⟨hn150', hsm⟩ := hb rfl
    have hn150 : n ≤ 150 := by rw [HN.out]; exact hn150'
    clear hb hn150'
    go_wp2_with fail
    refine (bkNew_any w2).mono ?_
    rintro e w3 ⟨gB, FB, rfl, hb3, q3, hFB⟩
    have q23 := q2.tr q3
    have hp := pick_any (w3.alloc (.map #[] 0)) x ((n : Int) + 1) (by omega) (by omega) hx
    have hw1 : wrap64 ((n : Int) + 1) = (n : Int) + 1 := by unfold wrap64; omega
    have hM0 : MapN Try.prog 35 (w3.alloc (.map #[] 0)) w3.heap.size 0 (fun _ => none) := MapN.made w3 rfl
    have q4 : Nw w (w3.alloc (.map #[] 0)) := q23.alloc _
    have hb4 := hb3.fr ((Fr.refl (fun _ => False) w3).alloc (.map #[] 0)) (fun _ _ h => h)
    have hFB4 : ∀ q, FB q → w.heap.size ≤ q ∧ q ≠ w3.heap.size := fun q hq => ⟨Nat.le_trans q2.size (hFB q hq), fun e => by have := hb3.lt q hq; omega⟩
    have hMs : w.heap.size ≤ w3.heap.size := q23.size
    go_wp2_with fail
    refine hp.mono ?_
    rintro e w4 ⟨⟨k, hk, rfl⟩, rfl⟩
    go_wp2_with fail
    refine (bkCopy_any _ FB gB [] hb4 bookOk_nil (by simp)).mono ?_
    rintro e w5 ⟨gC, FC, rfl, hc5, hFC, q5⟩
    have hM5 := hM0.fr q5 (fun h => h)
    have hb5 := hb4.fr q5 (fun _ _ h => h)
    clear hc5 hFC
    have q55 := q4.tr q5
    go_wp2_with fail
    go_loopw [8, 9] (fun cv i wx => FiRel w gB w3.heap.size n k cv i wx) (fun _ i _ => n - (intOf i).toNat)
    case atStart => exact ⟨0, [], _, Nat.zero_le _, rfl, Nat.le_refl _, bookOk_nil, TabOk.nil w, FB, hb5, hM5, hFB4, fun h => absurd h (Nat.not_lt_zero _), q55⟩
    case round =>
      clear hb5 hM5 hFB4 q55 q5 hb4 hM0 hb3 hFB q4 q3 q2 q1 q23 hw1
      obtain ⟨j, B, f, hj, rfl, hBj, hbo, htab, hmid⟩ := hrel
      by_cases hjn : j < n
      · have hjl : j < l.length := by rw [← HN.out]; exact hjn
        obtain ⟨bA, oA, A', c', rfl, _, hcell, hc1, hc2, hs'⟩ := hs.ver hv hjl
        have hzv := hz _ (List.getElem_mem hjl)
        have hsv := small_sz (hsm _ (List.getElem_mem hjl))
        obtain ⟨v, hvj⟩ : ∃ v, l[j] = v := ⟨_, rfl⟩
        rw [hvj] at hcell hc1 hs' hzv hsv
        have hnw := hzv.1
        clear hvj hzv
        have hB150 : B.length ≤ 150 := Nat.le_trans hBj (Nat.le_trans hj hn150)
        go_upto_if 43 with (fail)
        go_cut [8] (fun cv wx => FiMid w gB w3.heap.size B f (k ≤ j) cv wx)
        case first =>
          by_cases hjk : j = k
          · obtain rfl : j = k := hjk
            obtain ⟨FB, hbk, hmp, hFB, _, q⟩ := hmid
            have hblt := hbk.lt
            have hblen := bookB_len hbo (by omega)
            have hrdb := rdBook_of B hbo (by omega)
            go_wp2_with fail
            refine (newWriter_any wr).mono ?_
            rintro e wa ⟨rfl, hw, qa⟩
            go_wp2_with fail
            refine (bkWrite_any wa FB _ gB _ B (hbk.fr qa (fun _ _ h => h)) hw (fun q h e => by have := hblt q h; omega) hbo (by omega)).mono ?_
            rintro e wb ⟨rfl, FW, hwb, fb, hFW⟩
            go_wp2_with fail
            refine (done_ok wb FW _ _ hwb rfl (by show (bookB B).length ≤ _; omega)).mono ?_
            rintro e wd ⟨A2, c2, rfl, hod, qd, hin⟩
            go_wp2_with fail
            refine (newReader_any wd _ A2 c2 (bookB B) hod.sl (by omega)).mono ?_
            rintro e we ⟨gr, FR, rfl, hrd, qe, hgr, hFR⟩
            go_wp2_with fail
            refine (bkRead_any we FR gr (some (bookB B)) hrd (by show (bookB B).length ≤ _; omega)).mono ?_
            rintro e wf ⟨ff, hres⟩
            rw [hrdb] at hres
            obtain ⟨gC, FC, rfl, hbC, _, hFC⟩ := hres
            go_wp2_with fail
            go_meet
            have s1 := qa.size
            have s2 := fb.size
            have s3 := qd.size
            have s4 := qe.size
            have s5 := q.size
            have fq : Fr (fun q => wr.heap.size ≤ q) wr wf := ((((Nw.on qa).trans fb (fun q e => .inr (by omega))).trans qd (fun _ h => h.elim)).trans qe (fun _ h => h.elim)).trans ff (fun q e => .inr (by omega))
            have hno : ∀ q, q < wr.heap.size → ¬ wr.heap.size ≤ q := fun q h => by omega
            exact ⟨FB, hbk.fr fq (fun q h => hno q (hblt q h)), hmp.fr fq (hno _ hmp.lt), hFB, fun _ => ⟨gC, FC, rfl, hbC, fun q h => ⟨by have := hFC q h; omega, fun h2 => by have := hFC q h; have := hblt q h2; omega, fun e => by have := hFC q h; have := hmp.lt; omega⟩⟩, q.trans fq (fun q h => .inr (by omega))⟩
          · go_wp2_with fail
            go_meet
            obtain ⟨FB, h1, h2, h3, h4, h5⟩ := hmid
            exact ⟨FB, h1, h2, h3, fun h => h4 (by omega), h5⟩
        case rest =>
          clear hmid
          obtain ⟨FB, hbk, hmp, hFB, htw, q⟩ := hcut
          have hcl : ∀ wx, Nw w wx → ∀ p u, (verL v A' c')[p]? = some u → wx.cell? ⟨bA, oA + j * 5 + p, none⟩ = some u := fun wx qx p u hu => (qx.cell (World.block_lt_of_cell? _ _ (hcell p u hu)) (fun h => h)).trans (hcell p u hu)
          have hcl1 := hcl wc q
          obtain ⟨xv, er, B2, hd⟩ : ∃ xv er B2, decV B v = (xv, er, B2) := ⟨_, _, _, rfl⟩
          have hbw := dec_ways hd hbo
          have hbo2 : BookOk B2 := hbw.1
          have hlen2 : B2.length ≤ B.length + 1 := hbw.2.1
          have hways : (er = 2 ∧ B2 = B) ∨ (er = 0 ∧ findV v.1 B = some xv ∧ B2 = B) ∨ (er = 0 ∧ findV v.1 B = none ∧ xv = v ∧ B2 = B ++ [v]) := hbw.2.2
          clear hbw
          have hblt := hbk.lt
          have hqs := q.size
          have hdec := bkDecide_any wc FB _ gB B hbk v A' c' (hs'.fr q (fun _ _ h => h)) (fun q h h2 => by have := (hFB q h2).1; omega) hc1 hc2 hsv (bookOk_sz hbo) hnw (by omega)
          rw [hd] at hdec
          go_wp2_with (first | (refine wl_load_cells rfl 38 _ rfl bA (oA + j * 5) rfl (verL v A' c') _ hcl1 Try.underlying38 rfl ver_size ?_))
          refine hdec.mono ?_
          rintro e wd ⟨Ax, cx, FB2, rfl, hx1, hx2, hxs, hbk2, fd, hFB2⟩
          have hds := fd.size
          have hmd := hmp.fr fd (fun h => (hFB _ h).2 rfl)
          have hqd : Nw w wd := q.trans fd (fun q h => .inr (hFB q h).1)
          have hbk2 : IsBk wd FB2 gB B2 := hbk2
          have hx1 : xv.2.2.2.length ≤ cx := hx1
          have hxs : Sl wd (fun k => wc.heap.size ≤ k ∧ ¬ FB2 k) Ax (rdgsCells xv.2.2.2) := hxs
          have hFB3 : ∀ q, FB2 q → w.heap.size ≤ q ∧ q ≠ w3.heap.size := fun q h => (hFB2 q h).elim (hFB q) (fun h => ⟨by omega, by have := hmp.lt; omega⟩)
          have hxl : xv.2.2.2.length ≤ 1000000000 := dec_told hd hbo (by have := hsv.1; omega)
          go_upto_if 75 with (fail)
          obtain ⟨W1, hW1⟩ : ∃ W1, W1 = wd.alloc (.cells #[.int .i64 xv.1.1, .int .i64 xv.1.2, .bool xv.2.1, .int .i64 xv.2.2.1, .slice Ax xv.2.2.2.length cx] 38) := ⟨_, rfl⟩
          have q11 : Nw wd W1 := by rw [hW1]; exact (Fr.refl (fun _ => False) wd).alloc _
          have hX1 : Blk W1 wd.heap.size 38 #[I64 xv.1.1, I64 xv.1.2, .bool xv.2.1, I64 xv.2.2.1, .slice Ax xv.2.2.2.length cx] := by rw [hW1]; exact Blk.new wd 38 _
          rw [← hW1]
          clear hW1
          have hqW := hqd.tr q11
          have hml := hmp.lt
          go_cut [] (fun wx => FiX w gB w3.heap.size B.length B2 f (k ≤ j) u8 wd.heap.size xv Ax cx wx)
          case first =>
            by_cases hkj : k ≤ j
            · obtain ⟨gC, FC, rfl, hbC, hFC⟩ := htw hkj
              have hCl := hbC.lt
              have q1W : Nw wc W1 → True := fun _ => trivial
              have fW : Fr FB wc W1 := fd.trans q11 (fun _ h => h.elim)
              have hbC1 := hbC.fr fW (fun q h h2 => (hFC q h).2.1 h2)
              have hdec2 := bkDecide_any W1 FC _ gC B hbC1 v A' c' (hs'.fr hqW (fun _ _ h => h)) (fun q h h2 => by have := (hFC q h2).1; omega) hc1 hc2 hsv (bookOk_sz hbo) hnw (by omega)
              rw [hd] at hdec2
              have hcl2 := hcl W1 hqW
              go_wp2_with (first | (refine wl_load_cells rfl 38 _ rfl bA (oA + j * 5) rfl (verL v A' c') _ hcl2 Try.underlying38 rfl ver_size ?_))
              refine hdec2.mono ?_
              rintro e we ⟨Ay, cy, FC2, rfl, hy1, hy2, hys, hbC2, fe, hFC2⟩
              have hbC2 : IsBk we FC2 gC B2 := hbC2
              have hys : Sl we (fun k => W1.heap.size ≤ k ∧ ¬ FC2 k) Ay (rdgsCells xv.2.2.2) := hys
              have h1s := q11.size
              have hes := fe.size
              have hX2 := hX1.fr fe (fun h => by have := hCl _ h; omega)
              have hxsC : ∀ q, (wc.heap.size ≤ q ∧ ¬ FB2 q) → ¬ FC q := fun q h h2 => by have := hCl q h2; omega
              have hxs2 := (hxs.fr q11 (fun _ _ h => h)).fr fe hxsC
              obtain ⟨W2, hW2⟩ : ∃ W2, W2 = we.alloc (.cells #[.int .i64 xv.1.1, .int .i64 xv.1.2, .bool xv.2.1, .int .i64 xv.2.2.1, .slice Ay xv.2.2.2.length cy] 38) := ⟨_, rfl⟩
              have q22 : Nw we W2 := by rw [hW2]; exact (Fr.refl (fun _ => False) we).alloc _
              have hX3 := hX2.fr q22 (fun h => h)
              have hY3 : Blk W2 we.heap.size 38 #[I64 xv.1.1, I64 xv.1.2, .bool xv.2.1, I64 xv.2.2.1, .slice Ay xv.2.2.2.length cy] := by rw [hW2]; exact Blk.new we 38 _
              have HW2 := Lib.hid hW2
              clear hW2
              have heq := equal_any W2 _ _ xv xv Ax Ay cx cy (hxs2.fr q22 (fun _ _ h => h)) (hys.fr q22 (fun _ _ h => h)) hxl
              rw [sameV_refl] at heq
              go_upto_region 21 with (fail)
              rw [← HW2.out]
              obtain ⟨x0, x1, x2, x3, x4⟩ := ver_cells hX3
              obtain ⟨y0, y1, y2, y3, y4⟩ := ver_cells hY3
              go_wp2_with fail
              refine heq.mono ?_
              rintro e wg ⟨rfl, q33⟩
              go_wp2_with fail
              go_meet
              have fall : Fr FC W1 wg := (fe.trans q22 (fun _ h => h.elim)).trans q33 (fun _ h => h.elim)
              have hCM : ¬ FC w3.heap.size := fun h => (hFC _ h).2.2 rfl
              have h2s := q22.size
              have h3s := q33.size
              refine ⟨FB2, (hbk2.fr q11 (fun _ _ h => h)).fr fall (fun q h h2 => (hFB2 q h).elim (fun h => (hFC q h2).2.1 h) (fun h => by have := hCl q h2; omega)), (hmd.fr q11 (fun h => h)).fr fall hCM, hFB3, fun _ => ⟨gC, FC2, rfl, (hbC2.fr q22 (fun _ _ h => h)).fr q33 (fun _ _ h => h), fun q h => ⟨(hFC2 q h).elim (fun h => (hFC q h).1) (fun h => by omega), fun h2 => ?_, fun e => ?_⟩⟩, hX3.fr q33 (fun h => h), ⟨by omega, by omega⟩, ((hxs2.fr q22 (fun _ _ h => h)).fr q33 (fun _ _ h => h)).mono (fun q h _ => ⟨by omega, by omega⟩), hqW.trans fall (fun q h => .inr (hFC q h).1)⟩
              · rcases hFC2 q h with h4 | h4
                · exact (hFB2 q h2).elim (fun h => (hFC q h4).2.1 h) (fun h => by have := hCl q h4; omega)
                · have := hbk2.lt q h2; omega
              · rcases hFC2 q h with h4 | h4
                · exact (hFC q h4).2.2 e
                · omega
            · go_wp2_with fail
              go_meet
              exact ⟨FB2, hbk2.fr q11 (fun _ _ h => h), hmd.fr q11 (fun h => h), hFB3, fun h => absurd h hkj, hX1, ⟨by omega, by omega⟩, (hxs.fr q11 (fun _ _ h => h)).mono (fun q h _ => ⟨by omega, by omega⟩), hqW⟩
          case rest =>
            clear hblt hqs hdec hbk hmp hFB htw hx1 hxs hbk2 hmd hFB2 hFB3 hX1 q11 hml fd hcl1
            obtain ⟨FB, hbk, hmp, hFB, htw, hX, ⟨hgX, hgM⟩, hxs, q⟩ := hcut
            have hcl1 := hcl wc q
            have hXl := hX.lt
            have hml := hmp.lt
            rcases hways with ⟨rfl, rfl⟩ | ⟨rfl, hfv, rfl⟩ | ⟨rfl, hfv, rfl, rfl⟩
            · go_wp2_with fail
              go_roundw
              case rel => exact ⟨j + 1, _, f, by omega, by go_num, by omega, hbo, htab, FB, hbk, hmp, hFB, fun h => htw (by omega), q⟩
              case measure => simp [intOf]; omega
            · obtain ⟨A3, c3, hf3, hs3⟩ := (htab v.1).2 _ hfv
              have hrun := hmp.look ru_names Try.underlying79 (verZ wc) v.1 hnw
              rw [hf3] at hrun
              simp only [Option.getD_some, Option.isSome_some] at hrun
              obtain ⟨k0, k1⟩ := nm_cells hcl1
              obtain ⟨W2, hW2⟩ : ∃ W2, W2 = wc.alloc (.cells #[.int .i64 xv.1.1, .int .i64 xv.1.2, .bool xv.2.1, .int .i64 xv.2.2.1, .slice A3 xv.2.2.2.length c3] 38) := ⟨_, rfl⟩
              have q22 : Nw wc W2 := by rw [hW2]; exact (Fr.refl (fun _ => False) wc).alloc _
              have hY : Blk W2 wc.heap.size 38 #[I64 xv.1.1, I64 xv.1.2, .bool xv.2.1, I64 xv.2.2.1, .slice A3 xv.2.2.2.length c3] := by rw [hW2]; exact Blk.new wc 38 _
              have hXX := hX.fr q22 (fun h => h)
              have HW2 := Lib.hid hW2
              clear hW2
              have heq := equal_any W2 _ _ xv xv Ax A3 cx c3 (hxs.fr q22 (fun _ _ h => h)) (hs3.fr (q.tr q22) (fun _ _ h => h)) hxl
              rw [sameV_refl] at heq
              go_upto_region 28 with (fail)
              rw [← HW2.out]
              obtain ⟨x0, x1, x2, x3, x4⟩ := ver_cells hXX
              obtain ⟨y0, y1, y2, y3, y4⟩ := ver_cells hY
              go_wp2_with fail
              refine heq.mono ?_
              rintro e wg ⟨rfl, q33⟩
              have q23 := q22.tr q33
              go_wp2_with fail
              go_roundw
              case rel => exact ⟨j + 1, _, f, by omega, by go_num, by omega, hbo, htab, FB, hbk.fr q23 (fun _ _ h => h), hmp.fr q23 (fun h => h), hFB, fun h => (htw (by omega)).fr q23 (fun _ h => h.elim), q.tr q23⟩
              case measure => simp [intOf]; omega
            · have hf3 := (htab xv.1).1 hfv
              have hrun := hmp.look ru_names Try.underlying79 (verZ wc) xv.1 hnw
              rw [hf3] at hrun
              simp only [Option.getD_none, Option.isSome_none] at hrun
              obtain ⟨k0, k1⟩ := nm_cells hcl1
              go_upto_region 26 with (fail)
              clear hrun k0 k1
              have hT := Blk.new wc 38 zeroC
              have h1T := ver_one xv.1.1 xv.1.2 xv.2.1 xv.2.2.1 (.slice A' xv.2.2.2.length c') rfl
              have hTr := hT.row #[I64 xv.1.1, I64 xv.1.2, .bool xv.2.1, I64 xv.2.2.1, .slice A' xv.2.2.2.length c']
              obtain ⟨W2, hW2⟩ : ∃ W2, W2 = (wc.alloc (.cells zeroC 38)).setRow wc.heap.size #[I64 xv.1.1, I64 xv.1.2, .bool xv.2.1, I64 xv.2.2.1, .slice A' xv.2.2.2.length c'] := ⟨_, rfl⟩
              have q12 : Nw wc W2 := by rw [hW2]; exact ((Fr.refl (fun _ => False) wc).alloc _).setRow (.inr (Nat.le_refl _)) _
              rw [← hW2] at hTr
              have HW2 := Lib.hid hW2
              clear hW2
              have hcl2 := hcl (wc.alloc (.cells zeroC 38)) (q.alloc _)
              obtain ⟨W3, hrun, hM3, q23⟩ := (hmp.fr q12.drew (fun h => h)).put ru_names Try.underlying79 (by unfold maxLen; omega) xv.1 hnw hf3 (VerV xv A' c')
              have f3 : Fr (· = w3.heap.size) wc W3 := (Nw.on q12.drew).tr q23
              have hY := hTr.drew.fr q23 (by omega)
              have hXX := hX.fr f3 hgM
              have hq3 : Nw w W3 := q.trans f3 (fun q h => .inr (by omega))
              have heq := equal_any W3 _ _ xv xv Ax A' cx c' (hxs.fr f3 (fun q h => h.2)) (hs'.fr hq3 (fun _ _ h => h)) hxl
              rw [sameV_refl] at heq
              go_upto_region 27 with (first | (refine wl_load_cells rfl 38 _ rfl bA (oA + j * 5) rfl (verL xv A' c') _ hcl2 Try.underlying38 rfl ver_size ?_) | (refine wpList_store_row rfl 38 _ _ rfl wc.heap.size _ rfl rfl 38 _ hT ver_size rfl h1T ?_; rw [← HW2.out]))
              obtain ⟨k0, k1⟩ := nm_cells (hcl W2.drew (q.tr q12.drew))
              obtain ⟨b0, b1, b2, b3, b4⟩ := ver_cells hTr.drew
              refine wp_region_tail 7 (by kernel_rfl) (by kernel_rfl) ?_
              simp only [List.take_succ_cons, List.take_zero, List.drop_succ_cons, List.drop_zero]
              repeat still_step
              refine wpStill_nil ?_
              go_upto_region 28 with (fail)
              obtain ⟨x0, x1, x2, x3, x4⟩ := ver_cells hXX
              obtain ⟨y0, y1, y2, y3, y4⟩ := ver_cells hY
              go_wp2_with fail
              refine heq.mono ?_
              rintro e wg ⟨rfl, q33⟩
              go_wp2_with fail
              go_roundw
              case rel => exact ⟨j + 1, _, _, by omega, by go_num, by rw [List.length_append]; simp; omega, hbo2, htab.snoc hs' hfv, FB, (hbk.fr f3 (fun q h e => (hFB q h).2 e)).fr q33 (fun _ _ h => h), by rw [List.length_append]; exact hM3.fr q33 (fun h => h), hFB, fun h => ((htw (by omega)).fr f3 (fun _ h => h)).fr q33 (fun _ h => h.elim), hq3.tr q33⟩
              case measure => simp [intOf]; omega
      · obtain rfl : j = n := by omega
        obtain ⟨FB, hbk, hmp, hFB, _, q⟩ := hmid
        have hz2 := bookOk_sz hbo
        have hB150 : B.length ≤ 150 := Nat.le_trans hBj hn150
        go_wp2_with fail
        refine (bkAll_any wr FB (fun _ => False) gB B hbk none 0 [] (Sl.nil _ _ _) (by simp) hz2 (by omega)).mono ?_
        rintro e w5 ⟨va, rfl, hva, q5⟩
        rw [allV_nil] at hva
        obtain ⟨Aa, ca, acs, Ia, rfl, hoa, hvv, hAa, hIa⟩ := hva
        obtain ⟨m, hm⟩ : ∃ m, m = B.length := ⟨_, rfl⟩
        have hb5 := hbk.fr q5 (fun _ _ h => h)
        have hm5 := hmp.fr q5 (fun h => h)
        have q15 := q.tr q5
        have hsp := allV_split B
        have hbt := allV_both B
        rw [← hm] at hoa hm5 hsp hB150
        have HM := Lib.hid hm
        clear hbk hmp
        go_wp2_with fail
        rw [← hm]
        clear hm
        go_loopw [21] (fun i wx => LtRel w5 m i wx) (fun i _ => m - (intOf i).toNat)
        case atStart => exact ⟨0, Nat.zero_le _, rfl, Fr.refl _ _⟩
        case round =>
          obtain ⟨t, ht, rfl, q6⟩ := hrel
          by_cases htm : t < m
          · have htl : t < B.length := by rw [← HM.out]; exact htm
            obtain ⟨b1, o1, A1, c1, rfl, _, hcell1, hl1, hm1, hs1⟩ := hoa.sl.ver hvv htl
            have hfv := findV_here hbo htl
            have hok := hbo.1 _ (List.getElem_mem htl)
            have hxl := (hz2 _ (List.getElem_mem htl))
            obtain ⟨A3, c3, hf3, hs3⟩ := (htab B[t].1).2 _ hfv
            have hnw := nm_wf (verOk_parts hok).1
            have hless := fun (t2 : Nat) (h : t2 + 1 = t) => at_less' hbo htl t2 h
            have hprev := fun (t2 : Nat) (h : t2 + 1 = t) => hoa.sl.ver hvv (k := t2) (by rw [← HM.out]; omega)
            obtain ⟨u, hu⟩ : ∃ u, B[t] = u := ⟨_, rfl⟩
            rw [hu] at hcell1 hl1 hs1 hok hxl hf3 hs3 hnw hless
            clear hu hfv
            have hx7 : ∀ p x, (verL u A1 c1)[p]? = some x → wr.cell? ⟨b1, o1 + t * 5 + p, none⟩ = some x := fun p x hp => (q6.cell (World.block_lt_of_cell? _ _ (hcell1 p x hp)) (fun h => h)).trans (hcell1 p x hp)
            have X0 := fun (n : Later wr) => n.cell (show wr.cell? ⟨b1, o1 + t * 5, none⟩ = some (I64 u.1.1) from hx7 0 _ rfl)
            have X1 := fun (n : Later wr) => n.cell (show wr.cell? ⟨b1, o1 + t * 5 + 1, none⟩ = some (I64 u.1.2) from hx7 1 _ rfl)
            have X2 := fun (n : Later wr) => n.cell (show wr.cell? ⟨b1, o1 + t * 5 + 2, none⟩ = some (.bool u.2.1) from hx7 2 _ rfl)
            have X3 := fun (n : Later wr) => n.cell (show wr.cell? ⟨b1, o1 + t * 5 + 3, none⟩ = some (I64 u.2.2.1) from hx7 3 _ rfl)
            have X4 := fun (n : Later wr) => n.cell (show wr.cell? ⟨b1, o1 + t * 5 + 4, none⟩ = some (.slice A1 u.2.2.2.length c1) from hx7 4 _ rfl)
            have hrun : ∀ (n : Later wr), (Instr.lookup 79 (.map (some w3.heap.size)) (nmKey u.1) false).run Try.prog n.at_ = .ok (VerV u A3 c3) n.at_ := fun n => by
              have h := (hm5.fr (q6.tr n.nw) (fun h => h)).look1 ru_names Try.underlying79 (verZ n.at_) u.1 hnw
              rw [hf3] at h
              exact h
            have heq : ∀ (n : Later wr), Calls Try.prog 36 #[VerV u A1 c1, VerV u A3 c3] n.at_ fun e w' => e = .returned (.bool true) ∧ Nw n.at_ w' := fun n => by
              have h := equal_any n.at_ _ _ u u A1 A3 c1 c3 (hs1.fr (q6.tr n.nw) (fun _ _ h => h)) (hs3.fr (q15.tr (q6.tr n.nw)) (fun _ _ h => h)) hxl.1
              rw [sameV_refl] at h
              exact h
            have hright := fun (w1 : World) (q : Nw wr w1) => right_one w1 Ia u A1 c1 (hs1.fr (q6.tr q) (fun _ _ h => h)) hl1 hm1 hxl
            rw [hok] at hright
            clear hcell1 hx7
            by_cases ht0 : t = 0
            · have h0i : ¬ (0 : Int) < (t : Int) := by omega
              have h0d : decide ((0 : Int) < (t : Int)) = false := decide_eq_false h0i
              have h0n : decide (0 < t) = false := decide_eq_false (by omega)
              have h0m : ¬ 0 < t := by omega
              clear ht0 hless hprev
              go_wp2_with fail
              refine wp_region_later_tail 36 (by kernel_rfl) (by kernel_rfl) ?_
              simp only [List.take_succ_cons, List.take_zero, List.drop_succ_cons, List.drop_zero]
              repeat (go_big_quiet_step ((go_at_call 36; exact Later.call (heq _))))
              refine wpQuiet_nil ?_
              intro w7 q7
              go_wp2_with fail
              refine (hright w7 q7 _ (by first | rfl | simp)).mono ?_
              rintro e w8 ⟨rfl, q8⟩
              go_wp2_with fail
              go_roundw
              case rel => exact ⟨t + 1, by omega, by go_num, (q6.tr q7).tr q8⟩
              case measure => simp [intOf]; omega
            · obtain ⟨t2, ht2⟩ : ∃ t2, t2 + 1 = t := ⟨t - 1, by omega⟩
              obtain ⟨b2, o2, A2, c2, hbb, _, hcell2, hrest⟩ := hprev t2 ht2
              injection hbb with hbb
              injection hbb with e1 e2 _
              subst e1
              subst e2
              have hle := hless t2 ht2
              have hpc := hcell2 3 _ rfl
              obtain ⟨p, hp⟩ : ∃ p, (B[t2]'(by rw [← HM.out]; omega)).2.2.1 = p := ⟨_, rfl⟩
              rw [hp] at hle hpc
              have hpw : wr.cell? ⟨b1, o1 + t2 * 5 + 3, none⟩ = some (I64 p) := (q6.cell (World.block_lt_of_cell? _ _ hpc) (fun h => h)).trans hpc
              have X5 := fun (n : Later wr) => n.cell hpw
              have hpw2 : wr.cell? ⟨b1, o1 + ((t : Int) - 1).toNat * 5 + 3, none⟩ = some (I64 p) := by rw [show ((t : Int) - 1).toNat = t2 by omega]; exact hpw
              have hpw3 : wr.cell? ⟨b1, o1 + (t - 1) * 5 + 3, none⟩ = some (I64 p) := by rw [show t - 1 = t2 by omega]; exact hpw
              have X6 := fun (n : Later wr) => n.cell hpw2
              have X7 := fun (n : Later wr) => n.cell hpw3
              have h0i : (0 : Int) < (t : Int) := by omega
              have h0d : decide ((0 : Int) < (t : Int)) = true := decide_eq_true h0i
              have h0n : decide (0 < t) = true := decide_eq_true (by omega)
              have h0m : 0 < t := by omega
              have hsub : wrap64 ((t : Int) - 1) = (t2 : Int) := by unfold wrap64; omega
              have h2m : (t2 : Int) < (m : Int) := by omega
              have h2n : t2 < m := by omega
              have hge : decide (u.2.2.1 ≤ p) = false := decide_eq_false hle
              have hgi : ¬ u.2.2.1 ≤ p := hle
              clear hpw2 hpw3 hrest hcell2 hle hpc hpw hp ht0 hless hprev ht2
              go_wp2_with fail
              refine wp_region_later_tail 36 (by kernel_rfl) (by kernel_rfl) ?_
              simp only [List.take_succ_cons, List.take_zero, List.drop_succ_cons, List.drop_zero]
              repeat (go_big_quiet_step ((go_at_call 36; exact Later.call (heq _))))
              refine wpQuiet_nil ?_
              intro w7 q7
              go_wp2_with fail
              refine (hright w7 q7 _ (by first | rfl | simp)).mono ?_
              rintro e w8 ⟨rfl, q8⟩
              go_wp2_with fail
              go_roundw
              case rel => exact ⟨t + 1, by omega, by go_num, (q6.tr q7).tr q8⟩
              case measure => simp [intOf]; omega
          · obtain rfl : t = m := by omega
            have hb6 := hb5.fr q6 (fun _ _ h => h)
            have hm6 := hm5.fr q6 (fun h => h)
            have hlen := fun ty => hm6.len Try.underlying79 ty
            have q16 := q15.tr q6
            clear htab hbo hoa hvv hAa hIa hb5 hm5
            have hmany := bkMany_any wr FB gB B hb6
            rw [← HM.out] at hmany
            obtain ⟨p, hp⟩ : ∃ p, (allV [true] B).length = p := ⟨_, rfl⟩
            obtain ⟨r, hr⟩ : ∃ r, (allV [false] B).length = r := ⟨_, rfl⟩
            rw [hp, hr] at hsp
            have hadd : wrap64 ((p : Int) + (r : Int)) = (t : Int) := by unfold wrap64; omega
            have hbl : (allV [true, false] B).length = t := by rw [hbt, HM.out]
            have HP := Lib.hid hp
            have HR := Lib.hid hr
            have HB := Lib.hid hbl
            have HS := Lib.hid hsp
            clear hp hr hbl hbt hsp
            go_wp2_with fail
            refine hmany.mono ?_
            rintro e w' ⟨rfl, rfl⟩
            go_wp2_with fail
            refine (bkAll_any _ FB (· = wr.heap.size) gB B (hb6.fr ((Fr.refl (fun _ => False) wr).alloc _) (fun _ _ h => h)) _ 1 [true] (sl_new wr 4 [.bool true] wr.heap.size rfl) (by simp) hz2 (by rw [← HM.out]; omega)).mono ?_
            rintro e w7 ⟨_, rfl, ⟨A7, c7, _, _, rfl, _⟩, q7⟩
            rw [HP.out]
            have Q7 : Nw wr w7 := ((Fr.refl (fun _ => False) wr).alloc _).tr q7
            have hb7 := hb6.fr Q7 (fun _ _ h => h)
            go_wp2_with fail
            refine (bkAll_any _ FB (· = w7.heap.size) gB B (hb7.fr ((Fr.refl (fun _ => False) w7).alloc _) (fun _ _ h => h)) _ 1 [false] (sl_new w7 4 [.bool false] w7.heap.size rfl) (by simp) hz2 (by rw [← HM.out]; omega)).mono ?_
            rintro e w8 ⟨_, rfl, ⟨A8, c8, _, _, rfl, _⟩, q8⟩
            rw [HR.out]
            have Q8 : Nw w7 w8 := ((Fr.refl (fun _ => False) w7).alloc _).tr q8
            have hb8 := hb7.fr Q8 (fun _ _ h => h)
            go_wp2_with fail
            refine (bkAll_any _ FB (· = w8.heap.size) gB B (hb8.fr ((Fr.refl (fun _ => False) w8).alloc _) (fun _ _ h => h)) _ 2 [true, false] (sl_new w8 4 [.bool true, .bool false] w8.heap.size rfl) (by simp) hz2 (by rw [← HM.out]; omega)).mono ?_
            rintro e w9 ⟨_, rfl, ⟨A9, c9, _, _, rfl, _⟩, q9⟩
            rw [HB.out]
            have Q9 : Nw w8 w9 := ((Fr.refl (fun _ => False) w8).alloc _).tr q9
            go_wp2_with fail
            go_ret
            exact ⟨rfl, ((q16.tr Q7).tr Q8).tr Q9⟩
end Go.Proofs.Ytgmcjfjdjnoljaa
