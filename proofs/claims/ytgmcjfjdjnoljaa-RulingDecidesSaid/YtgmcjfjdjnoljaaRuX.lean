/- Rulings: the document's book as bytes. -/
import Derived.Test.YtgmcjfjdjnoljaaRuW
import Derived.Test.YtgmcjfjdjnoljaaRuR
import Derived.Test.YtgmcjfjdjnoljaaRuK
import Derived.Deep.DeepCutAuto
namespace Go.Proofs.Ytgmcjfjdjnoljaa
open Go Go.RowKit

def ByRel (w : World) (f : Nat → List UInt8) (n : Nat) (out i : Value) (wr : World) : Prop := ∃ k : Nat, k ≤ n ∧ i = .int .i64 k ∧ OutIs w (f k) out wr
def ByRel2 (w : World) (gX : Nat) (X : Array Value) (f : Nat → List UInt8) (n : Nat) (out i : Value) (wr : World) : Prop := ∃ k : Nat, k ≤ n ∧ i = .int .i64 k ∧ Blk wr gX 41 X ∧ OutIs w (f k) out wr
set_option maxRecDepth 100000 in
set_option maxHeartbeats 4000000 in
theorem rbBytes_any (w : World) (FB : Nat → Prop) (g : Nat) (l : List Ver) (h : IsRB w FB g l) (hbo : BookOk l) (hl : l.length ≤ 100000) :
    Calls Try.prog 28 #[.pointer (some ⟨g, 0, none⟩)] w fun e w' => ∃ v, e = .returned v ∧ OutIs w (bookB l) v w' := by
  obtain ⟨A, cap, cs, I, hb, ho, hv, hFg, hFA, hFI, hlt⟩ := id h
  have g0 : w.cell? ⟨g, 0, none⟩ = some (.slice A l.length cap) := by simpa using hb.cell 0
  have hbk : bookB l = enc l.length ++ versB l := rfl
  obtain ⟨n, hn⟩ : ∃ n, n = l.length := ⟨_, rfl⟩
  rw [← hn] at g0 hl hbk
  have HN := Lib.hid hn
  have c0 := rnumbers_any (w.alloc (.cells #[I64 (n : Int)] 3)) (· = w.heap.size) (some ⟨w.heap.size, 0, none⟩) 1 1 [(n : Int)] (sl_new w 3 [I64 (n : Int)] _ rfl) rfl (by decide) (fun x hx => by rw [List.mem_singleton.1 hx]; unfold Right topN; omega)
  have hvers := versB_len l hbo.1
  have hen := enc_len n
  generalize bookB l = out at hbk ⊢
  have HOUT := Lib.hid hbk
  clear hn hbk
  go_enter Try.func28, Try.ntmps28
  go_wp2_with fail
  refine c0.mono ?_
  rintro e w1 ⟨v0, rfl, ho1⟩
  have t1 : OutIs w (enc n ++ versB (l.take 0)) v0 w1 := by
    have e : encAll [(n : Int)] = enc n ++ versB (l.take 0) := by simp [encAll, versB]
    rw [← e]; exact ho1.back ((Fr.refl _ w).alloc _)
  clear c0 ho1
  go_wp2_with fail
  go_loopw [3, 4] (fun o i wx => ByRel w (fun k => enc n ++ versB (l.take k)) n o i wx) (fun _ i _ => n - (intOf i).toNat)
  case atStart => exact ⟨0, Nat.zero_le _, rfl, t1⟩
  case round =>
    clear t1
    obtain ⟨k, hk, rfl, A0, cp0, rfl, hown, hq, hA0⟩ := hrel
    obtain ⟨wo, hwo⟩ : ∃ wo, wo = wr := ⟨_, rfl⟩
    rw [← hwo] at hown hq ⊢
    clear hwo
    have g1 : wo.cell? ⟨g, 0, none⟩ = some (.slice A n cap) := (hq.cell (World.block_lt_of_cell? _ _ g0) (fun h => h)).trans g0
    by_cases hlt2 : k < n
    · have hkl : k < l.length := by rw [← HN.out]; exact hlt2
      obtain ⟨bA, oA, A', c', rfl, _, hcell, _, _, hs'⟩ := ho.sl.ver hv hkl
      have hvo := hbo.1 _ (List.getElem_mem hkl)
      have hsucc := versB_succ l k hkl
      have hlb : (versB (l.take k)).length ≤ 400 * l.length := by
        have := versB_len (l.take k) (fun v hv => hbo.1 v (List.mem_of_mem_take hv))
        rw [List.length_take] at this
        omega
      obtain ⟨v, hvk⟩ : ∃ v, l[k] = v := ⟨_, rfl⟩
      rw [hvk] at hcell hs' hvo hsucc
      obtain ⟨hnm, hat, h6, _, hrs⟩ := verOk_parts hvo
      have HS := Lib.hid hsucc
      obtain ⟨bs0, hbs0⟩ : ∃ bs0, enc n ++ versB (l.take k) = bs0 := ⟨_, rfl⟩
      have hz0 : bs0.length ≤ 100000000 := by rw [← hbs0, List.length_append]; rw [HN.out] at hl; omega
      simp only [hbs0] at hown ⊢
      have HB0 := Lib.hid hbs0
      obtain ⟨rl, hrl⟩ : ∃ rl, v.2.2.2.length = rl := ⟨_, rfl⟩
      obtain ⟨n0, hn0⟩ : ∃ n0, n0 = bs0.length := ⟨_, rfl⟩
      rw [← hn0] at hown hz0 ⊢
      have HN0 := Lib.hid hn0
      obtain ⟨wX, hwX⟩ : ∃ wX, wX = wo.alloc (.cells #[.int .i64 v.1.1, .int .i64 v.1.2, .bool v.2.1, .int .i64 v.2.2.1, .slice A' rl c'] 41) := ⟨_, rfl⟩
      have q12 : Nw wo wX := by rw [hwX]; exact (Fr.refl (fun _ => False) wo).alloc _
      have hT2 : Blk wX wo.heap.size 41 #[I64 v.1.1, I64 v.1.2, .bool v.2.1, I64 v.2.2.1, .slice A' rl c'] := by rw [hwX]; exact Blk.new wo 41 _
      have HWX := Lib.hid hwX
      have hcell : ∀ j u, ([I64 v.1.1, I64 v.1.2, .bool v.2.1, I64 v.2.2.1, .slice A' v.2.2.2.length c'] : List Value)[j]? = some u → wo.cell? ⟨bA, oA + k * 5 + j, none⟩ = some u := fun j u hu => (hq.cell (World.block_lt_of_cell? _ _ (hcell j u hu)) (fun h => h)).trans (hcell j u hu)
      rw [hrl] at h6 hcell
      have HRL := Lib.hid hrl
      have qD : Nw w wX.drew := (hq.tr q12).drew
      have G0 : Grow wX.drew A0 bs0 A0 n0 cp0 wX.drew := Grow.start ((hown.fr q12 (fun _ _ h => h)).fr (S := fun _ => False) (Fr.refl _ wX).drew (fun _ _ h => h))
      have hTD : Blk wX.drew wo.heap.size 41 #[I64 v.1.1, I64 v.1.2, .bool v.2.1, I64 v.2.2.1, .slice A' rl c'] := hT2.drew
      have hAx : ¬ inA A0 wo.heap.size := fun h => by have := hown.lt _ h; omega
      have hx : ∀ w', Fr (inA A0) wX.drew w' → w'.cell? ⟨wo.heap.size, 0, none⟩ = some (I64 v.1.1) ∧ w'.cell? ⟨wo.heap.size, 1, none⟩ = some (I64 v.1.2) ∧ w'.cell? ⟨wo.heap.size, 2, none⟩ = some (.bool v.2.1) ∧ w'.cell? ⟨wo.heap.size, 3, none⟩ = some (I64 v.2.2.1) ∧ w'.cell? ⟨wo.heap.size, 4, none⟩ = some (.slice A' rl c') := fun w' f => by
        have h := hTD.fr f hAx
        exact ⟨by simpa using h.cell 0, by simpa using h.cell 1, by simpa using h.cell 2, by simpa using h.cell 3, by simpa using h.cell 4⟩
      have hX4 : ∀ w', Fr (inA A0) wX.drew w' → w'.cell? ⟨wo.heap.size, 4, none⟩ = some (.slice A' rl c') := fun w' f => (hx w' f).2.2.2.2
      have hr1 : ∀ x ∈ [v.1.1, v.1.2, v.2.2.1], Right x := fun x hx => by
        unfold nmOk at hnm
        simp at hx
        unfold Right topN
        rcases hx with rfl | rfl | rfl <;> omega
      have hr3 : ∀ x ∈ [(rl : Int)], Right x := fun x hx => by rw [List.mem_singleton.1 hx]; unfold Right topN; omega
      have hN1 := rnumbers_any (wX.drew.alloc (.cells #[I64 v.1.1, I64 v.1.2, I64 v.2.2.1] 3)) (· = wX.drew.heap.size) (some ⟨wX.drew.heap.size, 0, none⟩) 3 3 [v.1.1, v.1.2, v.2.2.1] (sl_new wX.drew 3 [I64 v.1.1, I64 v.1.2, I64 v.2.2.1] _ rfl) rfl (by decide) hr1
      have hF2 := fun w' => rflag_out w' v.2.1
      have hN3 := fun w' => rnumbers_any (w'.alloc (.cells #[I64 (rl : Int)] 3)) (· = w'.heap.size) (some ⟨w'.heap.size, 0, none⟩) 1 1 [(rl : Int)] (sl_new w' 3 [I64 (rl : Int)] _ rfl) rfl (by decide) hr3
      have hl1 := encAll_le [v.1.1, v.1.2, v.2.2.1]
      have hl3 := encAll_le [(rl : Int)]
      have hl2 : (flagB v.2.1).length = 1 := rfl
      obtain ⟨y1, hy1⟩ : ∃ y1, encAll [v.1.1, v.1.2, v.2.2.1] = y1 := ⟨_, rfl⟩
      obtain ⟨y2, hy2⟩ : ∃ y2, flagB v.2.1 = y2 := ⟨_, rfl⟩
      obtain ⟨y3, hy3⟩ : ∃ y3, encAll [(rl : Int)] = y3 := ⟨_, rfl⟩
      rw [hy1] at hN1 hl1
      rw [hy2] at hF2 hl2
      rw [hy3] at hN3 hl3
      have hm1 : y1.length ≤ 27 := by simpa using hl1
      have hm3 : y3.length ≤ 9 := by simpa using hl3
      have hm2 : y2.length ≤ 1 := by omega
      clear hl1 hl2 hl3
      have HY1 := Lib.hid hy1
      have HY2 := Lib.hid hy2
      have HY3 := Lib.hid hy3
      obtain ⟨z0, z1, z2, z3, z4⟩ := hx wX.drew (Fr.refl _ _)
      have xa1 := fun o => hx _ ((Fr.refl (inA A0) wX.drew).alloc o)
      clear hwX hT2 hsucc hbs0 hr1 hr3 hvk hlb hy1 hy2 hy3 hn0 hvo hen hrl
      go_upto_region 6 with (refine wl_load_cells rfl 41 _ rfl bA (oA + k * 5) rfl [I64 v.1.1, I64 v.1.2, .bool v.2.1, I64 v.2.2.1, .slice A' rl c'] _ hcell Try.underlying41 rfl rver_size ?_)
      rw [← HWX.out]
      go_region_held3 (fun w' => w'.cell? ⟨wo.heap.size, 0, none⟩ = some (I64 v.1.1) ∧ w'.cell? ⟨wo.heap.size, 1, none⟩ = some (I64 v.1.2) ∧ w'.cell? ⟨wo.heap.size, 2, none⟩ = some (.bool v.2.1) ∧ w'.cell? ⟨wo.heap.size, 3, none⟩ = some (I64 v.2.2.1) ∧ w'.cell? ⟨wo.heap.size, 4, none⟩ = some (.slice A' rl c')) (first | (exact ⟨z0, z1, z2, z3, z4⟩) | ((exact x1)) | ((exact x2)) | ((exact x3)) | ((exact x4)) | (exact xa1 _) | fail)
        ((first | (refine step_append2g (by rfl) _ _ _ (by rfl) 1 (.int .u8 0) Try.underlying57 info_u8 rfl (by decide) (by rfl) G3.1 (by rfl) o2.sl (by simp) (B8_oneCell _) (by omega) (by unfold maxLen; omega) ?_; intro B2 d2 w4 hap4; have G4 := G3.app hap4; have x4 := hx w4 G4.2.1) | (refine step_append2g (by rfl) _ _ _ (by rfl) 1 (.int .u8 0) Try.underlying57 info_u8 rfl (by decide) (by rfl) G1.1 (by rfl) o1.sl (by simp) (B8_oneCell _) (by omega) (by unfold maxLen; omega) ?_; intro B1 d1 w2 hap2; have G2 := G1.app hap2; have x2 := hx w2 G2.2.1) | (go_at_call 57; refine (hF2 _).mono ?_; rintro e w3 ⟨_, rfl, A2, c2, rfl, o2, q2, n2⟩; have G3 := G2.call ( q2); have x3 := hx w3 G3.2.1) | (go_at_call 56; refine hN1.mono ?_; rintro e w1 ⟨_, rfl, A1, c1, rfl, o1, q1, n1⟩; have G1 := G0.call (((Fr.refl (fun _ => False) _).alloc _).tr q1); have x1 := hx w1 G1.2.1)))
      obtain ⟨_, _, _, _, x44⟩ := x4
      go_wp2_with (first | (go_at_call 56; refine (hN3 _).mono ?_; rintro e w5 ⟨_, rfl, A3, c3, rfl, o3, q3, n3⟩; have G5 := G4.call (((Fr.refl (fun _ => False) _).alloc _).tr q3)) | (at_builtin; refine wl_append2 rfl _ _ _ rfl 1 (.int .u8 0) Try.underlying57 info_u8 rfl (by decide) rfl G5.1 rfl o3.sl (by simp) (B8_oneCell _) (by omega) (by unfold maxLen; omega) ?_; intro B3 d3 w6 hap6; have G6 := G5.app hap6; have hX6 := hTD.fr G6.2.1 hAx; have x6 := hX4 w6 G6.2.1))
      obtain ⟨bs3, hbs3⟩ : ∃ bs3, bs0 ++ y1 ++ y2 ++ y3 = bs3 := ⟨_, rfl⟩
      obtain ⟨m3, hm3⟩ : ∃ m3, n0 + y1.length + y2.length + y3.length = m3 := ⟨_, rfl⟩
      rw [hbs3, hm3] at G6
      rw [hm3]
      obtain ⟨rs, hrs0⟩ : ∃ rs, v.2.2.2 = rs := ⟨_, rfl⟩
      rw [hrs0] at hs' hrs
      have HRS := Lib.hid hrs0
      have hrll : rs.length = rl := by rw [← hrs0]; exact HRL.out
      have hm3b : m3 = bs3.length := by rw [← hm3, ← hbs3, HN0.out]; simp only [List.length_append]
      have hz3 : m3 ≤ 100000200 := by omega
      have t6 : OutIs w (bs3 ++ rdgsB (rs.take 0)) (.slice B3 m3 d3) w6 := by
        have e : bs3 ++ rdgsB (rs.take 0) = bs3 := by simp [rdgsB]
        rw [e]
        exact G6.out qD hA0 hm3b
      have HBS3 := Lib.hid hbs3
      have hz3' : bs3.length ≤ 100000200 := by omega
      clear hrs0 hbs3 hm3 hm3b hz3 G0 G1 G2 G3 G4 G5 G6 hap2 hap4 hap6 x1 x2 x3 z0 z1 z2 z3 z4 hN1 hF2 hN3 hx hX4 xa1 o1 o2 o3 q1 q2 q3 n1 n2 n3 hTD
      go_wp2_with fail
      go_loopw [3, 6] (fun o i wx => ByRel2 w wo.heap.size #[I64 v.1.1, I64 v.1.2, .bool v.2.1, I64 v.2.2.1, .slice A' rl c'] (fun j => bs3 ++ rdgsB (rs.take j)) rl o i wx) (fun _ i _ => rl - (intOf i).toNat)
      case atStart => exact ⟨0, Nat.zero_le _, rfl, hX6, t6⟩
      case round =>
        clear t6 hX6 x6 x44
        obtain ⟨j, hj, rfl, hX7, A5, cp5, rfl, hown5, hq5, hA5⟩ := hrel
        have x7 : wr.cell? ⟨wo.heap.size, 4, none⟩ = some (.slice A' rl c') := by simpa using hX7.cell 4
        have hlj : (rdgsB (rs.take j)).length ≤ 60 * rs.length := by
          have := rdgsB_len (rs.take j) (fun v hv => hrs v (List.mem_of_mem_take hv))
          rw [List.length_take] at this
          omega
        obtain ⟨d0, hd0⟩ : ∃ d0, bs3 ++ rdgsB (rs.take j) = d0 := ⟨_, rfl⟩
        have hz4 : d0.length ≤ 100000700 := by rw [← hd0, List.length_append]; omega
        simp only [hd0] at hown5 ⊢
        obtain ⟨n5, hn5⟩ : ∃ n5, n5 = d0.length := ⟨_, rfl⟩
        rw [← hn5] at hown5 hz4 ⊢
        have HD0 := Lib.hid hd0
        have HN5 := Lib.hid hn5
        clear hd0 hn5 hlj
        by_cases hj2 : j < rl
        · have hjr : j < rs.length := by rw [hrll]; exact hj2
          obtain ⟨b2, o2, rfl, _, r0, r1, r2⟩ := (hs'.fr hq5 (fun _ _ h => h)).rdg hjr
          have hrk := hrs _ (List.getElem_mem hjr)
          have hsucc := rdgsB_succ rs j hjr
          obtain ⟨r, hr⟩ : ∃ r, rs[j] = r := ⟨_, rfl⟩
          rw [hr] at r0 r1 r2 hrk hsucc
          obtain ⟨x1v, x2v, x3v⟩ := r
          obtain ⟨hk1, hk3⟩ := rdgOk_len hrk
          have hk1 : x1v.length ≤ 20 := hk1
          have hk3 : x3v.length ≤ 20 := hk3
          have hsucc : rdgsB (rs.take (j + 1)) = rdgsB (rs.take j) ++ (rowB x1v ++ (flagB x2v ++ rowB x3v)) := hsucc
          have hcr : ∀ q u, ([StrV x1v, .bool x2v, StrV x3v] : List Value)[q]? = some u → wr.cell? ⟨b2, o2 + j * 3 + q, none⟩ = some u := by
            intro q u hu
            rcases q with _ | _ | _ | q
            · simp at hu; rw [← hu]; exact r0
            · simp at hu; rw [← hu]; exact r1
            · simp at hu; rw [← hu]; exact r2
            · simp at hu
          obtain ⟨wY, hwY⟩ : ∃ wY, wY = wr.alloc (.cells #[.string ⟨x1v.toArray⟩, .bool x2v, .string ⟨x3v.toArray⟩] 83) := ⟨_, rfl⟩
          have q13 : Nw wr wY := by rw [hwY]; exact (Fr.refl (fun _ => False) wr).alloc _
          have hU2 : Blk wY wr.heap.size 83 #[StrV x1v, .bool x2v, StrV x3v] := by rw [hwY]; exact Blk.new wr 83 _
          have HWY := Lib.hid hwY
          have hAy : ¬ inA A5 wr.heap.size := fun h => by have := hown5.lt _ h; omega
          have hUD : Blk wY.drew wr.heap.size 83 #[StrV x1v, .bool x2v, StrV x3v] := hU2.drew
          have hx : ∀ w', Fr (inA A5) wY.drew w' → w'.cell? ⟨wr.heap.size, 0, none⟩ = some (StrV x1v) ∧ w'.cell? ⟨wr.heap.size, 1, none⟩ = some (.bool x2v) ∧ w'.cell? ⟨wr.heap.size, 2, none⟩ = some (StrV x3v) := fun w' f => by
            have h := hUD.fr f hAy
            exact ⟨by simpa using h.cell 0, by simpa using h.cell 1, by simpa using h.cell 2⟩
          have q14 : Nw wr wY.drew := q13.drew
          have hX8 : Blk wY.drew wo.heap.size 41 #[I64 v.1.1, I64 v.1.2, .bool v.2.1, I64 v.2.2.1, .slice (some ⟨b2, o2, none⟩) rl c'] := hX7.fr q14 (fun h => h)
          have K0 : Grow wY.drew A5 d0 A5 n5 cp5 wY.drew := Grow.start (hown5.fr q14 (fun _ _ h => h))
          have hne : ¬ inA A5 wo.heap.size := K0.1.ne_ hX8 (by decide)
          have hT1 := fun w' => rtext_any w' x1v (by omega)
          have hT2 := fun w' => rflag_out w' x2v
          have hT3 := fun w' => rtext_any w' x3v (by omega)
          have e1 := enc_len x1v.length
          have e3 := enc_len x3v.length
          have hl1 : (rowB x1v).length ≤ 30 := by unfold rowB; rw [List.length_append]; omega
          have hl2 : (flagB x2v).length ≤ 1 := Nat.le_refl _
          have hl3 : (rowB x3v).length ≤ 30 := by unfold rowB; rw [List.length_append]; omega
          obtain ⟨p1, hp1⟩ : ∃ p1, rowB x1v = p1 := ⟨_, rfl⟩
          obtain ⟨p2, hp2⟩ : ∃ p2, flagB x2v = p2 := ⟨_, rfl⟩
          obtain ⟨p3, hp3⟩ : ∃ p3, rowB x3v = p3 := ⟨_, rfl⟩
          rw [hp1] at hT1 hl1 hsucc
          rw [hp2] at hT2 hl2 hsucc
          rw [hp3] at hT3 hl3 hsucc
          have HSU := Lib.hid hsucc
          have hend : ∀ w6 A c n, Grow wY.drew A5 (d0 ++ p1 ++ p2 ++ p3) A n c w6 → n = n5 + p1.length + p2.length + p3.length → ByRel2 w wo.heap.size #[I64 v.1.1, I64 v.1.2, .bool v.2.1, I64 v.2.2.1, .slice (some ⟨b2, o2, none⟩) rl c'] (fun j => bs3 ++ rdgsB (rs.take j)) rl (.slice A n c) (.int .i64 ((j : Int) + 1)) w6 := fun w6 A c n G hn => by
            refine ⟨j + 1, by omega, by go_num, hX8.fr G.2.1 hne, ?_⟩
            show OutIs w (bs3 ++ rdgsB (rs.take (j + 1))) _ _
            rw [HSU.out, ← List.append_assoc, HD0.out, ← List.append_assoc, ← List.append_assoc]
            exact G.out (hq5.tr q14) hA5 (by rw [hn, HN5.out]; simp only [List.length_append])
          clear hwY hU2 hsucc hp1 hp2 hp3 e1 e3 hr r0 r1 r2 hrk
          obtain ⟨z0, z1, z2⟩ := hx wY.drew (Fr.refl _ _)
          go_upto_region 12 with (refine wl_load_cells rfl 83 _ rfl b2 (o2 + j * 3) rfl [StrV x1v, .bool x2v, StrV x3v] _ hcr Try.underlying83 rfl rd_size ?_)
          rw [← HWY.out]
          go_region_held3 (fun w' => w'.cell? ⟨wr.heap.size, 0, none⟩ = some (StrV x1v) ∧ w'.cell? ⟨wr.heap.size, 1, none⟩ = some (.bool x2v) ∧ w'.cell? ⟨wr.heap.size, 2, none⟩ = some (StrV x3v)) (first | (exact ⟨z0, z1, z2⟩) | ((exact x1)) | ((exact x2)) | ((exact x3)) | ((exact x4)) | ((exact x5)) | ((exact x6)) | fail)
            ((first | (refine step_append2g (by rfl) _ _ _ (by rfl) 1 (.int .u8 0) Try.underlying57 info_u8 rfl (by decide) (by rfl) K5.1 (by rfl) o3.sl (by simp) (B8_oneCell _) (by omega) (by unfold maxLen; omega) ?_; intro B3 d3 w6 hap6; have K6 := K5.app hap6; have x6 := hx w6 K6.2.1) | (refine step_append2g (by rfl) _ _ _ (by rfl) 1 (.int .u8 0) Try.underlying57 info_u8 rfl (by decide) (by rfl) K3.1 (by rfl) o2.sl (by simp) (B8_oneCell _) (by omega) (by unfold maxLen; omega) ?_; intro B2 d2 w4 hap4; have K4 := K3.app hap4; have x4 := hx w4 K4.2.1) | (refine step_append2g (by rfl) _ _ _ (by rfl) 1 (.int .u8 0) Try.underlying57 info_u8 rfl (by decide) (by rfl) K1.1 (by rfl) o1.sl (by simp) (B8_oneCell _) (by omega) (by unfold maxLen; omega) ?_; intro B1 d1 w2 hap2; have K2 := K1.app hap2; have x2 := hx w2 K2.2.1) | (go_at_call 58; refine (hT3 _).mono ?_; rintro e w5 ⟨_, rfl, A3, c3, rfl, o3, q3, n3⟩; have K5 := K4.call q3; have x5 := hx w5 K5.2.1) | (go_at_call 57; refine (hT2 _).mono ?_; rintro e w3 ⟨_, rfl, A2, c2, rfl, o2, q2, n2⟩; have K3 := K2.call q2; have x3 := hx w3 K3.2.1) | (go_at_call 58; refine (hT1 _).mono ?_; rintro e w1 ⟨_, rfl, A1, c1, rfl, o1, q1, n1⟩; have K1 := K0.call q1; have x1 := hx w1 K1.2.1)))
          have hrel := hend _ _ _ _ K6 rfl
          go_wp2_with fail
          go_roundw
          case rel => exact hrel
          case measure => simp [intOf]; omega
        · obtain rfl : j = rl := by omega
          have hfin : OutIs w (enc n ++ versB (l.take (k + 1))) (.slice A5 n5 cp5) wr := by
            have e2 : verB v = encAll [v.1.1, v.1.2, v.2.2.1] ++ (flagB v.2.1 ++ (encAll [(j : Int)] ++ rdgsB rs)) := by unfold verB; rw [HRS.out, hrll]; simp [encAll]
            have e3 : rs.take j = rs := List.take_of_length_le (by omega)
            have e4 : enc n ++ versB (l.take (k + 1)) = d0 := by
              rw [← HD0.out, e3, ← HBS3.out, ← HB0.out, ← HY1.out, ← HY2.out, ← HY3.out, HS.out, e2]
              simp only [List.append_assoc]
            rw [e4, HN5.out]
            exact ⟨A5, cp5, rfl, by rw [← HN5.out]; exact hown5, hq5, hA5⟩
          go_wp2_with fail
          go_roundw
          case rel => exact ⟨k + 1, by omega, by go_num, hfin⟩
          case measure => simp [intOf]; omega
    · obtain rfl : k = n := by omega
      have e : l.take k = l := by rw [HN.out]; exact List.take_length
      simp only [e] at hown ⊢
      rw [← HOUT.out] at hown ⊢
      go_wp2_with fail
      go_ret
      exact ⟨_, rfl, A0, cp0, rfl, hown, hq, hA0⟩
end Go.Proofs.Ytgmcjfjdjnoljaa
