/- Rulings: the program writes a book: the walk. -/
import Derived.Test.YtgmcjfjdjnoljaaRuR
import Derived.Deep.DeepCutAuto
namespace Go.Proofs.Ytgmcjfjdjnoljaa
open Go Go.RowKit

theorem wstep {w W w1 : World} {F F1 : Nat → Prop} (f : Fr F w W) (hq : Fr F W w1) (hF : ∀ k, F1 k → F k ∨ W.heap.size ≤ k) : Fr F w w1 ∧ ∀ k, F1 k → F k ∨ w.heap.size ≤ k :=
  ⟨f.tr hq, fun k hk => (hF k hk).imp id fun h => Nat.le_trans f.size h⟩
theorem wstep2 {w w1 W w2 : World} {F F1 F2 : Nat → Prop} (G : Fr F w w1 ∧ ∀ k, F1 k → F k ∨ w.heap.size ≤ k) (f : Fr F1 w1 W) (hq : Fr F1 W w2) (hF : ∀ k, F2 k → F1 k ∨ W.heap.size ≤ k) : Fr F w w2 ∧ ∀ k, F2 k → F k ∨ w.heap.size ≤ k :=
  ⟨G.1.trans (f.tr hq) G.2, fun k hk => (hF k hk).elim (G.2 k) fun h => .inr (Nat.le_trans G.1.size (Nat.le_trans f.size h))⟩
/-- The region that writes a verdict's head. -/
def XCells (X : Nat) (v : Ver) (rl : Nat) (A : Option Addr) (c : Nat) (w : World) : Prop :=
  w.cell? ⟨X, 0, none⟩ = some (I64 v.1.1) ∧ w.cell? ⟨X, 1, none⟩ = some (I64 v.1.2) ∧ w.cell? ⟨X, 2, none⟩ = some (.bool v.2.1) ∧ w.cell? ⟨X, 3, none⟩ = some (I64 v.2.2.1) ∧ w.cell? ⟨X, 4, none⟩ = some (.slice A rl c)
set_option maxRecDepth 100000 in
set_option maxHeartbeats 8000000 in
theorem bkWrite_any (w : World) (FB FW : Nat → Prop) (g gw : Nat) (l : List Ver) (h : IsBk w FB g l) (hw : IsWr w FW gw ⟨true, []⟩) (hap : ∀ k, FB k → ¬ FW k) (hbo : BookOk l) (hl : l.length ≤ 100000) :
    Calls Try.prog 24 #[.pointer (some ⟨g, 0, none⟩), .pointer (some ⟨gw, 0, none⟩)] w fun e w' => e = .returned (.pointer (some ⟨gw, 0, none⟩)) ∧ WTo w FW gw (bookB l) w' := by
  obtain ⟨A, cap, hm, cs, I, hb, ho, hv, hM, hFg, hFA, hFm, hFI, _, hlt⟩ := id h
  have g0 : w.cell? ⟨g, 0, none⟩ = some (.slice A l.length cap) := by simpa using hb.cell 0
  have hbk : bookB l = enc l.length ++ versB l := rfl
  obtain ⟨n, hn⟩ : ∃ n, n = l.length := ⟨_, rfl⟩
  rw [← hn] at g0 hl hbk
  have HN := Lib.hid hn
  have hfr := hw.fresh
  have q0 := Blk.new w 3 #[I64 (n : Int)]
  have c0 := wn_call (w.alloc (.cells #[I64 (n : Int)] 3)) FW gw [] (hw.alloc _) w.heap.size 1 [(n : Int)] _ q0 hfr.1 rfl rfl (by decide) (fun x hx => by rw [List.mem_singleton.1 hx]; unfold Right topN; omega) (by simp)
  have hvers := versB_len l hbo.1
  generalize bookB l = out at hbk ⊢
  have HOUT := Lib.hid hbk
  clear hn hbk
  go_enter Try.func24, Try.ntmps24
  go_wp2_with (go_at_call 37; refine (bkKnown_any _ _ _ _ h).mono ?_; rintro e w' ⟨rfl, rfl⟩)
  refine c0.mono ?_
  rintro e w1 ⟨rfl, F1, hw1, hq1, hF1⟩
  have f1 : Fr FW w w1 := ((Fr.refl FW w).alloc _).tr hq1
  have g1 : w1.cell? ⟨g, 0, none⟩ = some (.slice A n cap) := (f1.cell hb.lt (hap g hFg)).trans g0
  have t1 : WTo w FW gw (enc n ++ versB (l.take 0)) w1 := by
    refine ⟨F1, ?_, f1, fun k hk => (hF1 k hk).imp id fun h => by simp at h; omega⟩
    have e : ([] : List UInt8) ++ encAll [(n : Int)] = enc n ++ versB (l.take 0) := by simp [encAll, versB]
    rw [← e]; exact hw1
  clear c0 q0 g0 hw1 hq1 hF1
  go_wp2_with fail
  go_loopw [28] (fun i wx => WkRel w FW gw (fun k => enc n ++ versB (l.take k)) n i wx) (fun i _ => n - (intOf i).toNat)
  case atStart => exact ⟨0, Nat.zero_le _, rfl, t1⟩
  case round =>
    clear t1 g1
    obtain ⟨k, hk, rfl, F, hwr, hq, hF⟩ := hrel
    by_cases hlt2 : k < n
    · have hkl : k < l.length := by rw [← HN.out]; exact hlt2
      have hno : ∀ j, FB j → ¬ FW j := hap
      have hIW : ∀ j, I j → ¬ FW j := fun j hj => hap j (hFI j hj).1
      obtain ⟨bA, oA, A', c', rfl, _, hcell, _, _, hs'⟩ := (ho.fr hq (fun j hj => hap j (hFA j hj))).sl.ver (hv.fr hq hIW) hkl
      have hvo := hbo.1 _ (List.getElem_mem hkl)
      have hsucc := versB_succ l k hkl
      have hlb : (versB (l.take k)).length ≤ 400 * l.length := by
        have := versB_len (l.take k) (fun v hv => hbo.1 v (List.mem_of_mem_take hv))
        rw [List.length_take] at this
        omega
      have hen := enc_len n
      obtain ⟨v, hvk⟩ : ∃ v, l[k] = v := ⟨_, rfl⟩
      rw [hvk] at hcell hs' hvo hsucc
      obtain ⟨hnm, hat, h6, _, hrs⟩ := verOk_parts hvo
      have HS := Lib.hid hsucc
      obtain ⟨bs0, hbs0⟩ : ∃ bs0, enc n ++ versB (l.take k) = bs0 := ⟨_, rfl⟩
      have hz0 : bs0.length ≤ 100000000 := by rw [← hbs0, List.length_append]; rw [HN.out] at hl; omega
      simp only [hbs0] at hwr
      have HB0 := Lib.hid hbs0
      -- the variable
      obtain ⟨rl, hrl⟩ : ∃ rl, v.2.2.2.length = rl := ⟨_, rfl⟩
      obtain ⟨wX, hwX⟩ : ∃ wX, wX = wr.alloc (.cells #[.int .i64 v.1.1, .int .i64 v.1.2, .bool v.2.1, .int .i64 v.2.2.1, .slice A' rl c'] 38) := ⟨_, rfl⟩
      have q12 : Nw wr wX := by rw [hwX]; exact (Fr.refl (fun _ => False) wr).alloc _
      have hT2 : Blk wX wr.heap.size 38 #[I64 v.1.1, I64 v.1.2, .bool v.2.1, I64 v.2.2.1, .slice A' rl c'] := by rw [hwX]; exact Blk.new wr 38 _
      have HWX := Lib.hid hwX
      have hcell : ∀ j u, ([I64 v.1.1, I64 v.1.2, .bool v.2.1, I64 v.2.2.1, .slice A' v.2.2.2.length c'] : List Value)[j]? = some u → wr.cell? ⟨bA, oA + k * 5 + j, none⟩ = some u := hcell
      rw [hrl] at h6 hcell
      have HRL := Lib.hid hrl
      have hFX : ¬ F wr.heap.size := hwr.fresh.1
      have hw0 : IsWr wX.drew F gw ⟨true, bs0⟩ := (hwr.fr q12 (fun _ _ h => h)).fr (S := fun _ => False) (Fr.refl _ wX).drew (fun _ _ h => h)
      have hTD : Blk wX.drew wr.heap.size 38 #[I64 v.1.1, I64 v.1.2, .bool v.2.1, I64 v.2.2.1, .slice A' rl c'] := hT2.drew
      have qD : Nw wr wX.drew := q12.drew
      have hx : ∀ w', Fr F wX.drew w' → XCells wr.heap.size v rl A' c' w' := fun w' f => by
        have h := hTD.fr f hFX
        exact ⟨by simpa using h.cell 0, by simpa using h.cell 1, by simpa using h.cell 2, by simpa using h.cell 3, by simpa using h.cell 4⟩
      have a1 := blk6 wX.drew 3 #[I64 v.1.1, I64 v.1.2, I64 v.2.2.1]
      have a2 := blk6 wX.drew 4 #[.bool v.2.1]
      have a3 := blk6 wX.drew 3 #[I64 (rl : Int)]
      have nz := hw0.fresh
      obtain ⟨bs1, hbs1⟩ : ∃ bs1, bs0 ++ encAll [v.1.1, v.1.2, v.2.2.1] = bs1 := ⟨_, rfl⟩
      obtain ⟨bs2, hbs2⟩ : ∃ bs2, bs1 ++ flagB v.2.1 = bs2 := ⟨_, rfl⟩
      obtain ⟨bs3, hbs3⟩ : ∃ bs3, bs2 ++ encAll [(rl : Int)] = bs3 := ⟨_, rfl⟩
      have hl1 := encAll_le [v.1.1, v.1.2, v.2.2.1]
      have hl3 := encAll_le [(rl : Int)]
      have hz1 : bs1.length ≤ 100000100 := by rw [← hbs1, List.length_append]; simp at hl1; omega
      have hz2 : bs2.length ≤ 100000200 := by rw [← hbs2, List.length_append]; simp [flagB]; omega
      have hz3 : bs3.length ≤ 100000300 := by rw [← hbs3, List.length_append]; simp at hl3; omega
      have hr1 : ∀ x ∈ [v.1.1, v.1.2, v.2.2.1], Right x := fun x hx => by
        unfold nmOk at hnm
        simp at hx
        unfold Right topN
        rcases hx with rfl | rfl | rfl <;> omega
      have hr3 : ∀ x ∈ [(rl : Int)], Right x := fun x hx => by rw [List.mem_singleton.1 hx]; unfold Right topN; omega
      have cN1 := fun w' b (hh : IsWr w' F gw ⟨true, bs0⟩) hb hf => wn_call w' F gw bs0 hh b 3 [v.1.1, v.1.2, v.2.2.1] #[I64 v.1.1, I64 v.1.2, I64 v.2.2.1] hb hf rfl rfl (by decide) hr1 (by omega)
      rw [hbs1] at cN1
      have cN2 := fun w' F1 b (hh : IsWr w' F1 gw ⟨true, bs1⟩) hb hf => wf_call w' F1 gw bs1 hh b v.2.1 hb hf (by omega)
      rw [hbs2] at cN2
      have cN3 := fun w' F2 b (hh : IsWr w' F2 gw ⟨true, bs2⟩) hb hf => wn_call w' F2 gw bs2 hh b 1 [(rl : Int)] #[I64 (rl : Int)] hb hf rfl rfl (by decide) hr3 (by omega)
      rw [hbs3] at cN3
      have HB1 := Lib.hid hbs1
      have HB2 := Lib.hid hbs2
      have HB3 := Lib.hid hbs3
      have hx0 : ∀ w', Fr F wX w' → XCells wr.heap.size v rl A' c' w' := fun w' f => by
        have h := hT2.fr f hFX
        exact ⟨by simpa using h.cell 0, by simpa using h.cell 1, by simpa using h.cell 2, by simpa using h.cell 3, by simpa using h.cell 4⟩
      obtain ⟨y0, y1, y2, y3, y4⟩ := hx wX.drew (Fr.refl _ _)
      have xa1 := fun o => hx _ ((Fr.refl F wX.drew).alloc o)
      have xa2 := fun o o' => hx _ (((Fr.refl F wX.drew).alloc o).alloc o')
      have xa3 := fun o o' o'' => hx _ ((((Fr.refl F wX.drew).alloc o).alloc o').alloc o'')
      have hX1 := hT2.lt
      clear hwX hT2 hsucc hbs0 hbs1 hbs2 hbs3 hr1 hr3 hl1 hl3 hvk hen hlb
      go_upto_region 7 with (refine wl_load_cells rfl 38 _ rfl bA (oA + k * 5) rfl [I64 v.1.1, I64 v.1.2, .bool v.2.1, I64 v.2.2.1, .slice A' rl c'] _ hcell Try.underlying38 rfl ver_size ?_)
      rw [← HWX.out]
      go_cut [] (fun wx => WTo wX F gw bs3 wx)
      case first =>
        go_region_held3 (fun w' => w'.cell? ⟨wr.heap.size, 0, none⟩ = some (I64 v.1.1) ∧ w'.cell? ⟨wr.heap.size, 1, none⟩ = some (I64 v.1.2) ∧ w'.cell? ⟨wr.heap.size, 2, none⟩ = some (.bool v.2.1) ∧ w'.cell? ⟨wr.heap.size, 3, none⟩ = some (I64 v.2.2.1) ∧ w'.cell? ⟨wr.heap.size, 4, none⟩ = some (.slice A' rl c')) (first | (exact ⟨y0, y1, y2, y3, y4⟩) | ((exact x1)) | ((exact x2)) | ((exact x3)) | (exact xa1 _) | (exact xa2 _ _) | (exact xa3 _ _ _) | (exact xb1 _) | (exact xb2 _ _) | (exact xc1 _) | fail)
          ((first | (go_at_call 51; refine (cN3 _ F2 _ (by first | exact hw2 | exact hw2.alloc _) (by first | exact D3.1 | exact s3.1) (by first | exact D3.2 | exact m2.1)).mono ?_; rintro e w3 ⟨rfl, F3, hw3, hq3, hF3⟩; (first | have G3 := wstep2 G2 (Fr.refl F2 w2) hq3 hF3 | have G3 := wstep2 G2 ((Fr.refl F2 w2).alloc _) hq3 hF3); have x3 := hx w3 G3.1) | (go_at_call 52; refine (cN2 _ F1 _ (by first | exact hw1 | exact hw1.alloc _ | exact (hw1.alloc _).alloc _) (by first | exact B2.1 | exact B2.1.alloc _ | exact r2.1 | exact r2.2.1 _ | exact r2.2.2.2.1 _) (by first | exact B2.2 | exact m1.1 | exact m1.2.1)).mono ?_; rintro e w2 ⟨rfl, F2, hw2, hq2, hF2⟩; (first | have D3 := wkeep B3.1 B3.2 hq2 hF2 | have D3 := wkeep (B3.1.alloc _) B3.2 hq2 hF2 | have D3 := wkeep r3.1 m1.1 hq2 hF2 | have D3 := wkeep (r3.2.1 _) m1.1 hq2 hF2 | have D3 := wkeep (r3.2.2.2.1 _) m1.2.1 hq2 hF2 | skip); (first | have G2 := wstep2 G1 (Fr.refl F1 w1) hq2 hF2 | have G2 := wstep2 G1 ((Fr.refl F1 w1).alloc _) hq2 hF2 | have G2 := wstep2 G1 (((Fr.refl F1 w1).alloc _).alloc _) hq2 hF2); have x2 := hx w2 G2.1; have xc1 := fun o => hx _ (G2.1.alloc o); have s3 := blk6 w2 3 #[I64 (rl : Int)]; have m2 := hw2.fresh) | (go_at_call 51; refine (cN1 _ _ (by first | exact hw0 | exact hw0.alloc _ | exact (hw0.alloc _).alloc _ | exact ((hw0.alloc _).alloc _).alloc _) (by first | exact a1.1 | exact a1.2.1 _ | exact a1.2.2.1 _ _ | exact a1.2.2.2.1 _ | exact a1.2.2.2.2.1 _ _ | exact a1.2.2.2.2.2 _ _) (by first | exact nz.1 | exact nz.2.1 | exact nz.2.2)).mono ?_; rintro e w1 ⟨rfl, F1, hw1, hq1, hF1⟩; (first | have B2 := wkeep (a2.1) nz.1 hq1 hF1 | have B2 := wkeep (a2.2.1 _) nz.1 hq1 hF1 | have B2 := wkeep (a2.2.2.1 _ _) nz.1 hq1 hF1 | have B2 := wkeep (a2.2.2.2.1 _) nz.2.1 hq1 hF1 | have B2 := wkeep (a2.2.2.2.2.1 _ _) nz.2.1 hq1 hF1 | have B2 := wkeep (a2.2.2.2.2.2 _ _) nz.2.2 hq1 hF1 | skip); (first | have B3 := wkeep (a3.1) nz.1 hq1 hF1 | have B3 := wkeep (a3.2.1 _) nz.1 hq1 hF1 | have B3 := wkeep (a3.2.2.1 _ _) nz.1 hq1 hF1 | have B3 := wkeep (a3.2.2.2.1 _) nz.2.1 hq1 hF1 | have B3 := wkeep (a3.2.2.2.2.1 _ _) nz.2.1 hq1 hF1 | have B3 := wkeep (a3.2.2.2.2.2 _ _) nz.2.2 hq1 hF1 | skip); (first | have G1 := wstep ((Fr.refl F wX.drew).alloc _) hq1 hF1 | have G1 := wstep (((Fr.refl F wX.drew).alloc _).alloc _) hq1 hF1 | have G1 := wstep ((((Fr.refl F wX.drew).alloc _).alloc _).alloc _) hq1 hF1); have x1 := hx w1 G1.1; have xb1 := fun o => hx _ (G1.1.alloc o); have xb2 := fun o o' => hx _ ((G1.1.alloc o).alloc o'); have r2 := blk6 w1 4 #[.bool v.2.1]; have r3 := blk6 w1 3 #[I64 (rl : Int)]; have m1 := hw1.fresh)))
        all_goals (go_wp2_with fail; go_meet; exact ⟨F3, hw3, (Fr.refl F wX).drew.tr G3.1, G3.2⟩)
      case rest =>
        clear cN1 cN2 cN3 a1 a2 a3 xa1 xa2 xa3 nz y0 y1 y2 y3 y4 hw0 hcell
        obtain ⟨F3, hw3, hq3, hF3⟩ := hcut
        obtain ⟨_, _, _, _, y4⟩ := hx0 wc hq3
        have HX0 := Lib.hid hx0
        clear hx hx0
        have h3s : wr.heap.size < wc.heap.size := Nat.lt_of_lt_of_le hX1 hq3.size
        have hs3 : Sl wc I A' (rdgsCells v.2.2.2) := (hs'.fr q12 (fun _ _ h => h)).fr hq3 (fun j hj hFj => (hF j hFj).elim (hIW j hj) (fun h => absurd (hlt j (hFI j hj).1) (by omega)))
        obtain ⟨rs, hrs0⟩ : ∃ rs, v.2.2.2 = rs := ⟨_, rfl⟩
        rw [hrs0] at hs3 hrs
        have HRS := Lib.hid hrs0
        have hrll : rs.length = rl := by rw [← hrs0]; exact HRL.out
        clear hrs0 hs'
        go_wp2_with fail
        go_loopw [55] (fun i wx => WkRel wc F3 gw (fun j => bs3 ++ rdgsB (rs.take j)) rl i wx) (fun i _ => rl - (intOf i).toNat)
        case atStart => exact ⟨0, Nat.zero_le _, rfl, F3, by simpa [rdgsB] using hw3, Fr.refl _ _, fun k h => .inl h⟩
        case round =>
          obtain ⟨j, hj, rfl, F4, hw4, hq4, hF4⟩ := hrel
          by_cases hj2 : j < rl
          · have hjr : j < rs.length := by rw [hrll]; exact hj2
            have hIF3 : ∀ q, I q → ¬ F3 q := fun q hI hf => (hF3 q hf).elim (fun h => (hF q h).elim (hIW q hI) (fun h => absurd (hlt q (hFI q hI).1) (by omega))) (fun h => absurd (hlt q (hFI q hI).1) (by have := q12.size; have := hq.size; omega))
            obtain ⟨b2, o2, rfl, _, r0, r1, r2⟩ := (hs3.fr hq4 hIF3).rdg hjr
            have hrk := hrs _ (List.getElem_mem hjr)
            have hsucc := rdgsB_succ rs j hjr
            have hlj : (rdgsB (rs.take j)).length ≤ 60 * rs.length := by
              have := rdgsB_len (rs.take j) (fun v hv => hrs v (List.mem_of_mem_take hv))
              rw [List.length_take] at this
              omega
            obtain ⟨r, hr⟩ : ∃ r, rs[j] = r := ⟨_, rfl⟩
            rw [hr] at r0 r1 r2 hrk hsucc
            obtain ⟨x1v, x2v, x3v⟩ := r
            obtain ⟨hk1, hk3⟩ := rdgOk_len hrk
            have hk1 : x1v.length ≤ 20 := hk1
            have hk3 : x3v.length ≤ 20 := hk3
            have hsucc : rdgsB (rs.take (j + 1)) = rdgsB (rs.take j) ++ (rowB x1v ++ (flagB x2v ++ rowB x3v)) := hsucc
            have HSU := Lib.hid hsucc
            obtain ⟨d0, hd0⟩ : ∃ d0, bs3 ++ rdgsB (rs.take j) = d0 := ⟨_, rfl⟩
            have hz4 : d0.length ≤ 100000700 := by rw [← hd0, List.length_append]; omega
            simp only [hd0] at hw4
            have HD0 := Lib.hid hd0
            have hcr : ∀ q u, ([StrV x1v, .bool x2v, StrV x3v] : List Value)[q]? = some u → wr.cell? ⟨b2, o2 + j * 3 + q, none⟩ = some u := by
              intro q u hu
              rcases q with _ | _ | _ | q
              · simp at hu; rw [← hu]; exact r0
              · simp at hu; rw [← hu]; exact r1
              · simp at hu; rw [← hu]; exact r2
              · simp at hu
            obtain ⟨wY, hwY⟩ : ∃ wY, wY = wr.alloc (.cells #[.string ⟨x1v.toArray⟩, .bool x2v, .string ⟨x3v.toArray⟩] 83) := ⟨_, rfl⟩
            have q13 : Nw wr wY := by rw [hwY]; exact (Fr.refl (fun _ => False) wr).alloc _
            have hU2 : Blk wY wr.heap.size 83 #[StrV x1v, .bool x2v, StrV x3v] := by rw [hwY]; exact Blk.new wr 83 _
            have HWY := Lib.hid hwY
            have hFY : ¬ F4 wr.heap.size := hw4.fresh.1
            have hw0 : IsWr wY.drew F4 gw ⟨true, d0⟩ := (hw4.fr q13 (fun _ _ h => h)).fr (S := fun _ => False) (Fr.refl _ wY).drew (fun _ _ h => h)
            have hUD : Blk wY.drew wr.heap.size 83 #[StrV x1v, .bool x2v, StrV x3v] := hU2.drew
            have hx : ∀ w', Fr F4 wY.drew w' → w'.cell? ⟨wr.heap.size, 0, none⟩ = some (StrV x1v) ∧ w'.cell? ⟨wr.heap.size, 1, none⟩ = some (.bool x2v) ∧ w'.cell? ⟨wr.heap.size, 2, none⟩ = some (StrV x3v) := fun w' f => by
              have h := hUD.fr f hFY
              exact ⟨by simpa using h.cell 0, by simpa using h.cell 1, by simpa using h.cell 2⟩
            have a1 := blk6 wY.drew 9 #[StrV x1v]
            have a2 := blk6 wY.drew 4 #[.bool x2v]
            have a3 := blk6 wY.drew 9 #[StrV x3v]
            have nz := hw0.fresh
            obtain ⟨d1, hd1⟩ : ∃ d1, d0 ++ rowB x1v = d1 := ⟨_, rfl⟩
            obtain ⟨d2, hd2⟩ : ∃ d2, d1 ++ flagB x2v = d2 := ⟨_, rfl⟩
            obtain ⟨d3, hd3⟩ : ∃ d3, d2 ++ rowB x3v = d3 := ⟨_, rfl⟩
            have e1 := enc_len x1v.length
            have hz5 : d1.length ≤ 100000800 := by rw [← hd1, List.length_append]; unfold rowB; rw [List.length_append]; omega
            have hz6 : d2.length ≤ 100000900 := by rw [← hd2, List.length_append]; simp [flagB]; omega
            have cT1 := fun w' b (hh : IsWr w' F4 gw ⟨true, d0⟩) hb hf => wt_call w' F4 gw d0 hh b x1v hb hf hk1 (by omega)
            rw [hd1] at cT1
            have cT2 := fun w' F1 b (hh : IsWr w' F1 gw ⟨true, d1⟩) hb hf => wf_call w' F1 gw d1 hh b x2v hb hf (by omega)
            rw [hd2] at cT2
            have cT3 := fun w' F2 b (hh : IsWr w' F2 gw ⟨true, d2⟩) hb hf => wt_call w' F2 gw d2 hh b x3v hb hf hk3 (by omega)
            rw [hd3] at cT3
            have HD1 := Lib.hid hd1
            have HD2 := Lib.hid hd2
            have HD3 := Lib.hid hd3
            obtain ⟨y0, y1, y2⟩ := hx wY.drew (Fr.refl _ _)
            have xa1 := fun o => hx _ ((Fr.refl F4 wY.drew).alloc o)
            have xa2 := fun o o' => hx _ (((Fr.refl F4 wY.drew).alloc o).alloc o')
            have xa3 := fun o o' o'' => hx _ ((((Fr.refl F4 wY.drew).alloc o).alloc o').alloc o'')
            clear hwY hU2 hsucc hd0 hd1 hd2 hd3 e1 hlj hr r0 r1 r2 hrk
            go_upto_region 11 with (refine wl_load_cells rfl 83 _ rfl b2 (o2 + j * 3) rfl [StrV x1v, .bool x2v, StrV x3v] _ hcr Try.underlying83 rfl rd_size ?_)
            rw [← HWY.out]
            have hend : ∀ w5 F5, IsWr w5 F5 gw ⟨true, d3⟩ → (Fr F4 wY.drew w5 ∧ ∀ q, F5 q → F4 q ∨ wY.drew.heap.size ≤ q) → WkRel wc F3 gw (fun j => bs3 ++ rdgsB (rs.take j)) rl (.int .i64 ((j + 1 : Nat) : Int)) w5 := fun w5 F5 hw5 G => by
              have g1 := hq4.size
              have g2 : wr.heap.size ≤ wY.drew.heap.size := (q13.drew).size
              refine ⟨j + 1, by omega, rfl, F5, ?_, (hq4.trans q13.drew (fun _ h => h.elim)).trans G.1 hF4, fun q hq => (G.2 q hq).elim (hF4 q) (fun h => .inr (by omega))⟩
              show IsWr w5 F5 gw ⟨true, bs3 ++ rdgsB (rs.take (j + 1))⟩
              rw [HSU.out, ← List.append_assoc, HD0.out, ← List.append_assoc, HD1.out, ← List.append_assoc, HD2.out, HD3.out]
              exact hw5
            have hme : ∀ q : Int, q = ((j + 1 : Nat) : Int) → rl - (intOf (.int .i64 q)).toNat < rl - (intOf (.int .i64 (j : Int))).toNat := fun q h => by subst h; simp [intOf]; omega
            go_region_held3 (fun w' => w'.cell? ⟨wr.heap.size, 0, none⟩ = some (StrV x1v) ∧ w'.cell? ⟨wr.heap.size, 1, none⟩ = some (.bool x2v) ∧ w'.cell? ⟨wr.heap.size, 2, none⟩ = some (StrV x3v)) (first | (exact ⟨y0, y1, y2⟩) | ((exact x1)) | ((exact x2)) | ((exact x3)) | (exact xa1 _) | (exact xa2 _ _) | (exact xa3 _ _ _) | (exact xb1 _) | (exact xb2 _ _) | (exact xc1 _) | fail)
              ((first | (go_at_call 53; refine (cT3 _ F2 _ (by first | exact hw2 | exact hw2.alloc _) (by first | exact D3.1 | exact s3.1) (by first | exact D3.2 | exact m2.1)).mono ?_; rintro e w3 ⟨rfl, F3, hw3, hq3, hF3⟩; (first | have G3 := wstep2 G2 (Fr.refl F2 w2) hq3 hF3 | have G3 := wstep2 G2 ((Fr.refl F2 w2).alloc _) hq3 hF3); have x3 := hx w3 G3.1) | (go_at_call 52; refine (cT2 _ F1 _ (by first | exact hw1 | exact hw1.alloc _ | exact (hw1.alloc _).alloc _) (by first | exact B2.1 | exact B2.1.alloc _ | exact r2.1 | exact r2.2.1 _ | exact r2.2.2.2.1 _) (by first | exact B2.2 | exact m1.1 | exact m1.2.1)).mono ?_; rintro e w2 ⟨rfl, F2, hw2, hq2, hF2⟩; (first | have D3 := wkeep B3.1 B3.2 hq2 hF2 | have D3 := wkeep (B3.1.alloc _) B3.2 hq2 hF2 | have D3 := wkeep r3.1 m1.1 hq2 hF2 | have D3 := wkeep (r3.2.1 _) m1.1 hq2 hF2 | have D3 := wkeep (r3.2.2.2.1 _) m1.2.1 hq2 hF2 | skip); (first | have G2 := wstep2 G1 (Fr.refl F1 w1) hq2 hF2 | have G2 := wstep2 G1 ((Fr.refl F1 w1).alloc _) hq2 hF2 | have G2 := wstep2 G1 (((Fr.refl F1 w1).alloc _).alloc _) hq2 hF2); have x2 := hx w2 G2.1; have xc1 := fun o => hx _ (G2.1.alloc o); have s3 := blk6 w2 9 #[StrV x3v]; have m2 := hw2.fresh) | (go_at_call 53; refine (cT1 _ _ (by first | exact hw0 | exact hw0.alloc _ | exact (hw0.alloc _).alloc _ | exact ((hw0.alloc _).alloc _).alloc _) (by first | exact a1.1 | exact a1.2.1 _ | exact a1.2.2.1 _ _ | exact a1.2.2.2.1 _ | exact a1.2.2.2.2.1 _ _ | exact a1.2.2.2.2.2 _ _) (by first | exact nz.1 | exact nz.2.1 | exact nz.2.2)).mono ?_; rintro e w1 ⟨rfl, F1, hw1, hq1, hF1⟩; (first | have B2 := wkeep (a2.1) nz.1 hq1 hF1 | have B2 := wkeep (a2.2.1 _) nz.1 hq1 hF1 | have B2 := wkeep (a2.2.2.1 _ _) nz.1 hq1 hF1 | have B2 := wkeep (a2.2.2.2.1 _) nz.2.1 hq1 hF1 | have B2 := wkeep (a2.2.2.2.2.1 _ _) nz.2.1 hq1 hF1 | have B2 := wkeep (a2.2.2.2.2.2 _ _) nz.2.2 hq1 hF1 | skip); (first | have B3 := wkeep (a3.1) nz.1 hq1 hF1 | have B3 := wkeep (a3.2.1 _) nz.1 hq1 hF1 | have B3 := wkeep (a3.2.2.1 _ _) nz.1 hq1 hF1 | have B3 := wkeep (a3.2.2.2.1 _) nz.2.1 hq1 hF1 | have B3 := wkeep (a3.2.2.2.2.1 _ _) nz.2.1 hq1 hF1 | have B3 := wkeep (a3.2.2.2.2.2 _ _) nz.2.2 hq1 hF1 | skip); (first | have G1 := wstep ((Fr.refl F4 wY.drew).alloc _) hq1 hF1 | have G1 := wstep (((Fr.refl F4 wY.drew).alloc _).alloc _) hq1 hF1 | have G1 := wstep ((((Fr.refl F4 wY.drew).alloc _).alloc _).alloc _) hq1 hF1); have x1 := hx w1 G1.1; have xb1 := fun o => hx _ (G1.1.alloc o); have xb2 := fun o o' => hx _ ((G1.1.alloc o).alloc o'); have r2 := blk6 w1 4 #[.bool x2v]; have r3 := blk6 w1 9 #[StrV x3v]; have m1 := hw1.fresh)))
            all_goals (go_wp2_with fail; go_roundw)
            all_goals first | (case rel => first | exact hend _ _ hw3 G3 | (have e : ((j : Int) + 1) = ((j + 1 : Nat) : Int) := by omega; rw [e]; exact hend _ _ hw3 G3)) | (case measure => exact hme _ (by omega)) | trace_state
          · obtain rfl : j = rl := by omega
            go_wp2_with fail
            go_roundw
            case rel =>
              have g1 := hq.size
              have g2 := q12.size
              have g3 := hq3.size
              refine ⟨k + 1, by omega, by go_num, F4, ?_, ((hq.trans q12 (fun _ h => h.elim)).trans hq3 hF).trans hq4 (fun q h => (hF3 q h).elim (hF q) (fun h => .inr (by omega))), fun q h => (hF4 q h).elim (fun h => (hF3 q h).elim (hF q) (fun h => .inr (by omega))) (fun h => .inr (by omega))⟩
              show IsWr wr F4 gw ⟨true, enc n ++ versB (l.take (k + 1))⟩
              have e2 : verB v = encAll [v.1.1, v.1.2, v.2.2.1] ++ (flagB v.2.1 ++ (encAll [(j : Int)] ++ rdgsB rs)) := by unfold verB; rw [HRS.out, hrll]; simp [encAll]
              rw [HS.out, e2, ← List.append_assoc, HB0.out, ← List.append_assoc, HB1.out, ← List.append_assoc, HB2.out, ← List.append_assoc, HB3.out]
              have hw4 : IsWr wr F4 gw ⟨true, bs3 ++ rdgsB (rs.take j)⟩ := hw4
              rw [List.take_of_length_le (by omega)] at hw4
              exact hw4
            case measure => simp [intOf]; omega
    · obtain rfl : k = n := by omega
      go_wp2_with fail
      go_ret
      refine ⟨rfl, F, ?_, hq, hF⟩
      show IsWr wr F gw ⟨true, out⟩
      rw [HOUT.out]
      have e : l.take k = l := by rw [HN.out]; exact List.take_length
      rw [← e]
      exact hwr
end Go.Proofs.Ytgmcjfjdjnoljaa
