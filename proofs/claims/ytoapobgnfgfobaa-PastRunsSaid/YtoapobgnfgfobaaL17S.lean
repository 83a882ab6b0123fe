/- PastRuns: the walk. -/
import Derived.Test.YtoapobgnfgfobaaL17R
namespace Go.Proofs.Ytoapobgnfgfobaa
open Go Go.RowKit

/-- How many names. -/
def nmSum (n : Nat) (rs : List (List Nm)) : Nat := n + (rs.map List.length).sum
theorem nmSum_succ (n : Nat) (rs : List (List Nm)) (k : Nat) (h : k < rs.length) : nmSum n (rs.take (k + 1)) = nmSum n (rs.take k) + rs[k].length := by
  unfold nmSum
  rw [List.take_succ_eq_append_getElem h, List.map_append, List.sum_append]
  simp only [List.map_cons, List.map_nil, List.sum_cons, List.sum_nil]
  omega
theorem nmSum_ge (n : Nat) (rs : List (List Nm)) (k : Nat) (h : k < rs.length) : n + rs[k].length ≤ nmSum n rs := by
  unfold nmSum
  induction rs generalizing k with
  | nil => simp at h
  | cons x rs ih =>
    cases k with
    | zero => simp
    | succ k =>
      have := ih k (by simpa using h)
      simp only [List.map_cons, List.sum_cons, List.getElem_cons_succ]
      omega
def CountRel (rs : List (List Nm)) (n0 : Nat) (n i : Value) : Prop := ∃ k : Nat, k ≤ rs.length ∧ i = .int .i64 k ∧ n = .int .i64 (nmSum n0 (rs.take k) : Nat) ∧ nmSum n0 (rs.take k) ≤ 20000000000000

theorem Own.apart {w : World} {E E' : TypeId} {s s' n n' c c' : Nat} {A A' : Option Addr} {cs cs' : List Value} (h : Own w E s A n c cs) (h' : Own w E' s' A' n' c' cs') (hne : E' ≠ E) : ∀ j, inA A' j → ¬ inA A j := by
  intro j hj hh
  rcases h'.2 with ⟨rfl, _⟩ | ⟨g, cur, rfl, hbk, _⟩
  · exact inA_none _ hj
  · have hj' := (inA_some _ _).1 hj
    subst hj'
    exact h.ne_ hbk hne hh

set_option maxRecDepth 100000 in
set_option maxHeartbeats 4000000 in
theorem runs_walk (w : World) (A0 A1 : Option Addr) (c0 c1 : Nat) (rs : List (List Nm)) (vs : List Value) (ask : List Nm) (S0 : Sl w (· < w.heap.size) A0 vs) (R0 : RowsN w (· < w.heap.size) vs rs) (S1 : Sl w (· < w.heap.size) A1 (nmCells ask))
    (hl0 : rs.length ≤ 8796093022208) (he0 : ∀ x ∈ rs, x.length ≤ 8796093022208) (hl1 : ask.length ≤ 8796093022208) :
    Calls Try.prog 3 #[.slice A0 rs.length c0, .slice A1 ask.length c1] w fun e w' => e = .returned (.bool true) ∧ Nw w w' := by
  go_enter Try.func3, Try.ntmps3
  go_wp2_with fail
  go_loop [5, 6] (fun n i => CountRel rs ask.length n i) (fun _ i => rs.length - (intOf i).toNat)
  case atStart => exact ⟨0, Nat.zero_le _, rfl, rfl, by simp [nmSum]; omega⟩
  case round =>
    obtain ⟨k, hk, rfl, rfl, hs⟩ := hrel
    by_cases hgt : 1000 < nmSum ask.length (rs.take k)
    · have hd : decide (((nmSum ask.length (rs.take k) : Nat) : Int) ≤ 1000) = false := decide_eq_false (by omega)
      have hgt' : (1000 : Int) < ((nmSum ask.length (rs.take k) : Nat) : Int) := by omega
      by_cases hlt : k < rs.length
      all_goals
        go_wp2_with fail
        refine (awake17 _).mono ?_
        rintro e w1 ⟨rfl, q1⟩
        go_wp2_with fail
        go_ret
        exact ⟨rfl, q1⟩
    · by_cases hlt : k < rs.length
      · obtain ⟨v, hv, A2, c2, rfl, hn2, hm2, hs2⟩ := R0.2 k hlt
        obtain ⟨b, o, rfl, _, _, hcs⟩ := S0.at_ (by rintro rfl; simp at hv)
        have hc := hcs k _ hv
        clear hcs hv
        have hsm := he0 _ (List.getElem_mem hlt)
        have hsucc := nmSum_succ ask.length rs k hlt
        generalize nmSum ask.length (rs.take k) = m at hs hgt hsucc
        have HS := Lib.hid hsucc
        clear hsucc
        have hle : (m : Int) ≤ 1000 := by omega
        go_wp2_with fail
        go_round
        case rel => exact ⟨k + 1, by omega, by go_num, by rw [HS.out]; go_num, by rw [HS.out]; omega⟩
        case measure => simp [intOf]; omega
      · have e : rs.take k = rs := List.take_of_length_le (by omega)
        rw [e] at hgt hs ⊢
        clear e
        have hall : ∀ j (h : j < rs.length), ask.length + rs[j].length ≤ 1000 := fun j h => by have := nmSum_ge ask.length rs j h; omega
        have hask : ask.length ≤ 1000 := by have : ask.length ≤ nmSum ask.length rs := by unfold nmSum; omega
                                            omega
        generalize nmSum ask.length rs = m at hs hgt ⊢
        have hle : (m : Int) ≤ 1000 := by omega
        have HALL := Lib.hid hall
        clear hall
        by_cases h20 : 20 < rs.length
        · go_wp2_with fail
          refine (awake17 _).mono ?_
          rintro e w1 ⟨rfl, q1⟩
          go_wp2_with fail
          go_ret
          exact ⟨rfl, q1⟩
        · obtain rfl : k = rs.length := by omega
          have hd1 : decide (1000 < (m : Int)) = false := decide_eq_false (by omega)
          have hd2 : decide (20 < (rs.length : Int)) = false := decide_eq_false (by omega)
          go_wp2_with fail
          clear hd1 hd2
          go_loopw [7, 8, 9] (fun p m i wr => RunsRel w rs p m i wr) (fun _ _ i _ => rs.length - (intOf i).toNat)
          case atStart => exact ⟨0, [], [], none, 0, none, 0, Nat.zero_le _, rfl, rfl, rfl, rfl, rfl, Own.nil _ _ _, Own.nil _ _ _, ⟨rfl, fun k h => by simp at h⟩, ⟨rfl, fun k h => by simp at h⟩, Fr.refl _ _, fun k hk => (inA_none k hk).elim, fun k hk => (inA_none k hk).elim, by simp, by simp⟩
          case round =>
            obtain ⟨k, gs, hs, Ap, cp, Am, cm, hk, rfl, hgl, hhl, rfl, rfl, ho, ho2, hps, hms, hq, hA, hAm, hgw, hhw⟩ := hrel
            have HGL := Lib.hid hgl
            have HHL := Lib.hid hhl
            clear hgl hhl
            by_cases hlt : k < rs.length
            · obtain ⟨v, hv, A2, c2, rfl, hn2, hm2, hs2⟩ := R0.2 k hlt
              obtain ⟨b, o, rfl, hbF, _, hcs⟩ := S0.at_ (by rintro rfl; simp at hv)
              have hc := (hq.cell (p := ⟨b, o + k, none⟩) hbF (fun h => h)).trans (hcs k _ hv)
              clear hcs hv
              have hsm := HALL.out k hlt
              have hsw := hq.size
              have hnx := fun (w1 w2 w3 w4 : World) (A' A'' : Option Addr) (c' c'' gp gm : Nat) => RunsRel.next (w := w) (wr := wr) (w1 := w1) (w2 := w2) (w3 := w3) (w4 := w4) (A' := A') (A'' := A'') (c' := c') (c'' := c'') (gp := gp) (gm := gm) hlt HGL.out HHL.out ho ho2 hps hms hq hA hAm hgw hhw
              have HNX := Lib.hid hnx
              clear hnx
              obtain ⟨x, hx⟩ : ∃ x, rs[k] = x := ⟨_, rfl⟩
              rw [hx] at hn2 hs2 hc hsm HNX
              have HX := Lib.hid hx
              clear hx
              go_wp2_with fail
              refine (pastNew_any _).mono ?_
              rintro e w1 ⟨rfl, hp, q1⟩
              have lp : w.heap.size ≤ wr.heap.size := hq.size
              have hbF' : b < w.heap.size := hbF
              have hpl := hp.2.lt
              generalize hgp : wr.heap.size = gp at hp hpl lp ⊢
              have HGP := Lib.hid hgp
              clear hgp
              have hc1 := fun ob => ((q1.alloc ob).cell (p := ⟨b, o + k, none⟩) (World.block_lt_of_cell? _ _ hc) (fun h => h)).trans hc
              go_wp2_with fail
              clear hc1
              have hs3 := (hs2.fr (hq.tr q1) (fun _ _ h => h)).alloc (.cells (I64 0 :: pNew.map I64).toArray 32)
              have hm3 : IsRP (w1.alloc (.cells (I64 0 :: pNew.map I64).toArray 32)) w1.heap.size pNew := ⟨rfl, Blk.new _ _ _⟩
              have hp3 := hp.fr (S := fun _ => False) ((Fr.refl _ w1).alloc (.cells (I64 0 :: pNew.map I64).toArray 32)) (fun h => h)
              have q3 : Nw wr (w1.alloc (.cells (I64 0 :: pNew.map I64).toArray 32)) := q1.alloc _
              have hc3 := (q3.cell (p := ⟨b, o + k, none⟩) (World.block_lt_of_cell? _ _ hc) (fun h => h)).trans hc
              have hml := hm3.2.lt
              have hlw := q1.size
              generalize hgm : w1.heap.size = gm at hm3 hml hpl hlw ⊢
              clear hgm
              refine (lent_names _ _ _ _ x hs3 (by omega)).mono ?_
              rintro e w4 ⟨gl, rfl, hlent, q4, hgl⟩
              have hs4 := hs3.fr q4 (fun _ _ h => h)
              have hm4 := hm3.fr q4 (fun h => h)
              have hp4 := hp3.fr q4 (fun h => h)
              have q5 := q3.tr q4
              have hc4 := (q4.cell (p := ⟨b, o + k, none⟩) (World.block_lt_of_cell? _ _ hc3) (fun h => h)).trans hc3
              have hbl := World.block_lt_of_cell? _ _ hc4
              clear hs3 hm3 hp3 q3 hc3 q1 hp q4 hc
              have hpl4 := hp4.2.lt
              have hml4 := hm4.2.lt
              obtain ⟨E, hE⟩ : ∃ E, raiseE x = E := ⟨_, rfl⟩
              obtain ⟨P, hP⟩ : ∃ P, raiseP x pNew = P := ⟨_, rfl⟩
              have hra := fun (W : World) (hs : LentN W (some ⟨gl, 0, none⟩) x) => pastRight_any W _ _ (x.length + 12) x hs.names (by omega)
              have hrl := fun (W : World) (hs : Sl W (· < w.heap.size) A2 (nmCells x)) => lawAll_any W _ _ c2 x hs (by omega)
              have hrs := fun (W : World) (hi : IsPast W gp pNew) (hs : LentN W (some ⟨gl, 0, none⟩) x) => pastRaise_any W _ _ (x.length + 12) x hs.names (by omega) gp pNew hi (fun h => by have h2 : gp = gl := (inA_some _ _).1 h; omega)
              have hrr := fun (W : World) (hi : IsRP W gm pNew) (hs : Sl W (· < w.heap.size) A2 (nmCells x)) => rRaise_any W _ _ c2 x hs (by omega) gm pNew hi (by omega)
              rw [hE, hP] at hrs hrr
              rw [hP] at HNX
              have HRS := Lib.hid hrs
              have HRR := Lib.hid hrr
              clear hrs hrr hE hP
              cases hB : allOk x
              all_goals
                rw [hB] at hra hrl
                have HRA := Lib.hid hra
                have HRL := Lib.hid hrl
                clear hra hrl hB
                have hne : gp ≠ gm := by omega
                have hbp : b ≠ gp := by omega
                have hbm : b ≠ gm := by omega
                have hbl4 : b < w4.heap.size := hbl
                have hi0 : (k : Int) < (rs.length : Int) := by omega
                go_wp2_with fail
                (go_region_held3 (fun w' => w'.cell? ⟨b, o + k, none⟩ = some (.slice A2 x.length c2)) (first | go_keep | ((exact g1)) | ((exact g2)) | ((exact g3)) | ((exact g4)) | ((exact g5)) | ((exact g6)))
                  ((first | (go_at_call 14; refine (HRA.out _ (hlent.fr (Fr.refl (fun _ => False) w4).drew (fun _ _ h => h))).mono ?_; rintro e v1 ⟨rfl, r1⟩; have r1' : Nw w4 v1 := ((Fr.refl _ w4).drew).tr r1; have g1 : v1.cell? ⟨b, o + k, none⟩ = some (.slice A2 x.length c2) := (r1'.cell (p := ⟨b, o + k, none⟩) hbl4 (fun h => h)).trans hc4) | (go_at_call 15; refine (HRL.out _ (hs4.fr r1' (fun _ _ h => h))).mono ?_; rintro e v2 ⟨rfl, r2⟩; have r2' : Nw w4 v2 := r1'.tr r2; have g2 : v2.cell? ⟨b, o + k, none⟩ = some (.slice A2 x.length c2) := (r2'.cell (p := ⟨b, o + k, none⟩) hbl4 (fun h => h)).trans hc4) | (go_at_call 16; refine (HRS.out _ (hp4.fr r2' (fun h => h)) (hlent.fr r2' (fun _ _ h => h))).mono ?_; rintro e v3 ⟨rfl, p3, r3⟩; have r3' : Fr (· = gp) w4 v3 := (Nw.on r2').tr r3; have g3 : v3.cell? ⟨b, o + k, none⟩ = some (.slice A2 x.length c2) := (r3'.cell (p := ⟨b, o + k, none⟩) hbl4 hbp).trans hc4) | (go_at_call 17; refine (HRR.out _ (hm4.fr r3' (fun h => hne h.symm)) (hs4.fr r3' (fun j (h1 : j < w.heap.size) (h2 : j = gp) => by omega))).mono ?_; rintro e v4 ⟨rfl, m4, r4⟩; have r4' : Fr (fun j => j = gp ∨ j = gm) w4 v4 := (r3'.mono (fun j h => .inl (.inl h))).trans r4 (fun j h => .inl (.inr h)); have p4 := p3.fr r4 hne; have g4 : v4.cell? ⟨b, o + k, none⟩ = some (.slice A2 x.length c2) := (r4'.cell (p := ⟨b, o + k, none⟩) hbl4 (fun h => h.elim hbp hbm)).trans hc4) | (go_at_call 18; refine (same17 _ _ _ _ p4 m4).mono ?_; rintro e v5 ⟨rfl, r5⟩; have r5' := r4'.tr (Nw.on r5); have p5 := p4.fr r5 (fun h => h); have m5 := m4.fr r5 (fun h => h); have g5 : v5.cell? ⟨b, o + k, none⟩ = some (.slice A2 x.length c2) := (r5'.cell (p := ⟨b, o + k, none⟩) hbl4 (fun h => h.elim hbp hbm)).trans hc4) | (go_at_call 19; refine (kept_names _ (· < w.heap.size) _ _ c2 x (hlent.fr r5' (fun j h1 h2 => by have h3 : j = gl := (inA_some _ _).1 h1; omega)) (hs4.fr r5' (fun j (h1 : j < w.heap.size) h2 => by omega)) (by omega)).mono ?_; rintro e v6 ⟨rfl, r6⟩; have p6 := p5.fr r6 (fun h => h); have m6 := m5.fr r6 (fun h => h); have r6' := r5'.tr (Nw.on r6); have g6 : v6.cell? ⟨b, o + k, none⟩ = some (.slice A2 x.length c2) := (r6'.cell (p := ⟨b, o + k, none⟩) hbl4 (fun h => h.elim hbp hbm)).trans hc4))))
                have lp2 : wr.heap.size ≤ gp := Nat.le_of_eq HGP.out
                have qv : Nw wr v6 := q5.new r6' (fun j h => h.elim (fun e => by rw [e]; exact lp2) (fun e => by rw [e]; exact hlw))
                have ho6 := ho.fr qv (fun _ _ h => h)
                have ho26 := ho2.fr qv (fun _ _ h => h)
                clear hs4 hm4 hp4 hc4 hlent r1 r2 r3 r4 r5 r6 r1' r2' r3' r4' r5' r6' p3 p4 p5 m4 m5 g1 g2 g3 g4 g5 g6 HRA HRL HRS HRR
                go_wp2_with (first | (at_builtin; refine wl_append2 rfl _ _ _ rfl 8 (.pointer none) Try.underlying25 info_PPast rfl (by decide) rfl (ho6.alloc _) rfl (sl_new v6 27 [PtrV gp] _ rfl) rfl (Ptr_one [gp]) (by omega) (by unfold maxLen; omega) ?_; intro A' c' v7 hap1; have ho27 := (ho26.alloc (.cells #[PtrV gp] 27)).fr hap1.fr ((ho6.alloc (.cells #[PtrV gp] 27)).apart (ho26.alloc (.cells #[PtrV gp] 27)) (by decide))) | (at_builtin; refine wl_append2 rfl _ _ _ rfl 8 (.pointer none) Try.underlying26 info_PRPast rfl (by decide) rfl (ho27.alloc _) rfl (sl_new v7 29 [PtrV gm] _ rfl) rfl (Ptr_one [gm]) (by omega) (by unfold maxLen; omega) ?_; intro A'' c'' v8 hap2))
                go_roundw
                case rel => exact HNX.out v6 v7 _ v8 A' A'' c' c'' gp gm qv p6 m6 lp2 hlw hap1 rfl hap2
                case measure => simp [intOf]; omega
            · obtain rfl : k = rs.length := by omega
              rw [List.take_of_length_le (Nat.le_refl _)] at hps hms
              have hPs : ∀ q ∈ PSs rs, PstOk q := fun q hq => by
                obtain ⟨l, _, rfl⟩ := List.mem_map.1 hq
                exact raiseP_ok pNew_ok l
              have hPok := pMerge_pst pNew_ok (PSs rs) hPs
              clear hPs
              generalize PSs rs = qs at hps hms hPok
              have hpsl := hps.lt
              have hmsl := hms.lt
              have hsz := hq.size
              have hgl2 : gs.length ≤ 1000000000 := by have := HGL.out; omega
              have hhl2 : hs.length ≤ 1000000000 := by have := HHL.out; omega
              have hpm := fun (W : World) (gp : Nat) (h1 : Sl W (inA Ap) Ap (gs.map PtrV)) (h2 : ArePasts W gs qs) (h3 : IsPast W gp pNew) (h4 : ¬ inA Ap gp) (h5 : ∀ k ∈ gs, k ≠ gp) => pastMerge_any W (inA Ap) Ap cp gs qs h1 hgl2 h2 gp pNew h3 h4 h5
              have hmm := fun (W : World) (gm : Nat) (h1 : Sl W (inA Am) Am (hs.map PtrV)) (h2 : AreRPs W hs qs) (h3 : IsRP W gm pNew) (h4 : ¬ inA Am gm) (h5 : ∀ k ∈ hs, k ≠ gm) => rMerge_any W (inA Am) Am cm hs qs h1 hhl2 h2 gm pNew h3 h4 h5
              rw [HGL.out] at hpm
              rw [HHL.out] at hmm
              obtain ⟨P, hP⟩ : ∃ P, pMerge pNew qs = P := ⟨_, rfl⟩
              rw [hP] at hpm hmm hPok
              have HPM := Lib.hid hpm
              have HMM := Lib.hid hmm
              have HPO := Lib.hid hPok
              clear hpm hmm hP hPok
              have hApl := ho.lt
              have hAml := ho2.lt
              go_wp2_with fail
              refine (pastNew_any _).mono ?_
              rintro e w1 ⟨rfl, hp, q1⟩
              have hpl := hp.2.lt
              have lp : w.heap.size ≤ wr.heap.size := hsz
              generalize hgp : wr.heap.size = gp at hp hpl lp hpsl hmsl hApl hAml ⊢
              have q2 := hq.tr q1
              clear hgp
              go_wp2_with fail
              have hm3 : IsRP (w1.alloc (.cells (I64 0 :: pNew.map I64).toArray 32)) w1.heap.size pNew := ⟨rfl, Blk.new _ _ _⟩
              have q3 : Nw wr (w1.alloc (.cells (I64 0 :: pNew.map I64).toArray 32)) := q1.alloc _
              have hp3 := hp.fr (S := fun _ => False) ((Fr.refl _ w1).alloc (.cells (I64 0 :: pNew.map I64).toArray 32)) (fun h => h)
              have hml := hm3.2.lt
              generalize hgm : w1.heap.size = gm at hm3 hml hpl ⊢
              clear hgm
              have q4 := hq.tr q3
              refine (HMM.out _ gm (ho2.fr q3 (fun _ _ h => h)).sl (hms.fr q3 (fun _ _ h => h)) hm3 (fun h => by have := hAml _ h; omega) (fun j hj => by have := hmsl _ hj; omega)).mono ?_
              rintro e w5 ⟨rfl, hm5, f5⟩
              have hp5 := hp3.fr f5 (by omega)
              have q5 : Nw w w5 := q4.new f5 (fun j h => by rw [h]; omega)
              have ho5 := (ho.fr q3 (fun _ _ h => h)).fr f5 (fun j hj e => by have := hApl _ hj; omega)
              have hps5 := (hps.fr q3 (fun _ _ h => h)).fr f5 (fun j hj e => by have := hpsl _ hj; omega)
              clear hp hp3 hm3 hms ho2 q1 q2 q3 q4 f5 hq
              go_wp2_with fail
              refine (HPM.out _ gp ho5.sl hps5 hp5 (fun h => by have := hApl _ h; omega) (fun j hj => by have := hpsl _ hj; omega)).mono ?_
              rintro e w6 ⟨rfl, hp6, f6⟩
              have hm6 := hm5.fr f6 (by omega)
              have q6 : Nw w w6 := q5.new f6 (fun j h => by rw [h]; omega)
              clear hp5 hm5 ho5 hps5 hps ho q5 f6 HPM HMM
              go_wp2_with fail
              refine (same17 _ _ _ _ hp6 hm6).mono ?_
              rintro e w7 ⟨rfl, q7⟩
              have hp7 := hp6.fr q7 (fun h => h)
              have hm7 := hm6.fr q7 (fun h => h)
              go_wp2_with fail
              refine (pastCopy_any _ _ _ hp7).mono ?_
              rintro e w8 ⟨gc, rfl, hc8, hgc, q8⟩
              have hp8 := hp7.fr q8 (fun h => h)
              have hm8 := hm7.fr q8 (fun h => h)
              have q9 := (q6.tr q7).tr q8
              have hpl7 := hp7.2.lt
              have hml7 := hm7.2.lt
              have hsz7 := (q6.tr q7).size
              have hcl8 := hc8.2.lt
              clear hp6 hm6 hp7 hm7 q6 q7 q8
              have hw : wrNums P ⟨true, []⟩ = ⟨true, encAll P⟩ := by rw [wrNums_right P _ HPO.out.right]; rfl
              have hlen := encAll_le P
              rw [HPO.out.1] at hlen
              have HW := Lib.hid hw
              clear hw
              go_wp2_with fail
              refine (newWriter_any _).mono ?_
              rintro e w12 ⟨rfl, iw, q25⟩
              have hp17 := hp8.fr q25 (fun h => h)
              have hm17 := hm8.fr q25 (fun h => h)
              have hc17 := hc8.fr q25 (fun h => h)
              have hwl := iw.bound _ rfl
              have hpl8 := hp8.2.lt
              have hml8 := hm8.2.lt
              go_wp2_with fail
              refine (pastWrite_any _ gp P hp17 _ _ _ iw (by omega) (by decide)).mono ?_
              rintro e w13 ⟨rfl, F2, iw2, f25, nf2⟩
              rw [HW.out] at iw2
              have hp18 := hp17.fr f25 (by omega)
              have hm18 := hm17.fr f25 (by omega)
              have hc18 := hc17.fr f25 (by omega)
              have q26 : Nw w w13 := (q9.tr q25).new f25 (fun b hb => by rw [hb]; exact q9.size)
              go_wp2_with fail
              refine (done_ok _ _ _ _ iw2 rfl (by show (encAll P).length ≤ _; omega)).mono ?_
              rintro e w14 ⟨A5, c5, rfl, hob, q27, nb⟩
              have hp19 := hp18.fr q27 (fun h => h)
              have hm19 := hm18.fr q27 (fun h => h)
              have hc19 := hc18.fr q27 (fun h => h)
              have q28 := q26.tr q27
              clear hp8 hm8 hc8 hp17 hm17 hc17 hp18 hm18 hc18 iw iw2 q9 q25 f25 nf2 q26 q27 HW
              go_wp2_with fail
              refine (rBytes_any _ _ _ hm19 HPO.out).mono ?_
              rintro e w15 ⟨v15, rfl, A6, c6, rfl, hob2, q29, nb2⟩
              have hp20 := hp19.fr q29 (fun h => h)
              have hm20 := hm19.fr q29 (fun h => h)
              have hc20 := hc19.fr q29 (fun h => h)
              have q30 := q28.tr q29
              go_wp2_with fail
              refine (same_u8 _ _ _ _ _ _ _ _ _ (hob.fr q29 (fun _ _ h => h)).sl hob2.sl (by omega)).mono ?_
              rintro e w16 ⟨rfl, n16, rfl⟩
              rw [decide_eq_true rfl]
              clear hp19 hm19 hc19 hob nb hob2 q28 q29 nb2
              go_wp2_with fail
              have hpl16 := hp20.2.lt
              have hml16 := hm20.2.lt
              have hp21 := hp20.drewN n16
              have hm21 := hm20.drewN n16
              have hc21 := hc20.drewN n16
              have q31 := q30.drewN n16
              clear hp20 hm20 hc20 q30
              have hrs := fun (W : World) (hi : IsPast W gc P) (hs : Sl W (· < w.heap.size) A1 (nmCells ask)) => pastRaise_any W _ A1 c1 ask hs (by omega) gc P hi (by omega)
              have hrr := fun (W : World) (hi : IsRP W gm P) (hs : Sl W (· < w.heap.size) A1 (nmCells ask)) => rRaise_any W _ A1 c1 ask hs (by omega) gm P hi (by omega)
              have hra := fun (W : World) (hs : Sl W (· < w.heap.size) A1 (nmCells ask)) => lawAll_any W _ A1 c1 ask hs (by omega)
              obtain ⟨C, hC⟩ : ∃ C, raiseP ask P = C := ⟨_, rfl⟩
              rw [hC] at hrs hrr
              have hEB : (allOk ask = true ∧ raiseE ask = 0) ∨ (allOk ask = false ∧ raiseE ask = 2) := by
                cases h : allOk ask
                · exact .inr ⟨rfl, (raise_wrong ask P h).1⟩
                · exact .inl ⟨rfl, (raise_right ask P h).1⟩
              have HRR := Lib.hid hrr
              clear hrr hC
              have hfin : ∀ (W : World), IsPast W gp P → IsRP W gm P → IsPast W gc C → Nw w W → True := fun _ _ _ _ _ => trivial
              clear hfin
              rcases hEB with ⟨hB, hE⟩ | ⟨hB, hE⟩
              all_goals
                rw [hE] at hrs
                rw [hB] at hra
                have HRS := Lib.hid hrs
                have HRA := Lib.hid hra
                clear hrs hra hB hE
                refine (HRS.out _ hc21 (S1.fr q31 (fun _ _ h => h))).mono ?_
                rintro e x1 ⟨rfl, hc22, f1⟩
                have hp22 := hp21.fr f1 (by omega)
                have hm22 := hm21.fr f1 (by omega)
                have q32 : Nw w x1 := q31.new f1 (fun j h => by rw [h]; omega)
                clear hp21 hm21 hc21 q31 f1
                go_wp2_with (go_at_call 15; refine (HRA.out _ (S1.fr q32 (fun _ _ h => h))).mono ?_; rintro e x2 ⟨rfl, r2⟩; have hp22' := hp22.fr r2 (fun h => h); have hm22' := hm22.fr r2 (fun h => h); have hc22' := hc22.fr r2 (fun h => h); have q32' := q32.tr r2; clear hp22 hm22 hc22 q32 r2; have hp22 := hp22'; have hm22 := hm22'; have hc22 := hc22'; have q32 := q32'; clear hp22' hm22' hc22' q32')
                refine (same17 _ _ _ _ hp22 hm22).mono ?_
                rintro e x3 ⟨rfl, r3⟩
                have hp23 := hp22.fr r3 (fun h => h)
                have hm23 := hm22.fr r3 (fun h => h)
                have hc23 := hc22.fr r3 (fun h => h)
                have q33 := q32.tr r3
                clear hp22 hm22 hc22 q32 r3
                go_wp2_with fail
                go_loopw [18] (fun i wx => KnownNw x3 ask.length i wx) (fun i _ => ask.length - (intOf i).toNat)
                case atStart => exact ⟨0, Nat.zero_le _, rfl, Fr.refl _ _⟩
                case round =>
                  obtain ⟨j, hj, rfl, hq⟩ := hrel
                  have q34 := q33.tr hq
                  have hp24 := hp23.fr hq (fun h => h)
                  have hm24 := hm23.fr hq (fun h => h)
                  have hc24 := hc23.fr hq (fun h => h)
                  by_cases hlt : j < ask.length
                  · obtain ⟨b, o, rfl, _, hc1, hc2⟩ := (S1.fr q34 (fun _ _ h => h)).name hlt
                    have hi1 : (j : Int) < (ask.length : Int) := by omega
                    have his := fun (W : World) (hi : IsPast W gp P) => pastIs_any W gp P hi ask[j]
                    have hir := fun (W : World) (hi : IsRP W gm P) => rIs_any W gm P hi ask[j]
                    generalize pIs P ask[j] = B at his hir
                    have d1 := fun (n : Later wr) => n.cell hc1
                    have d2 := fun (n : Later wr) => n.cell hc2
                    have HIS := Lib.hid his
                    have HIR := Lib.hid hir
                    clear hc1 hc2 his hir
                    go_wp2_with fail
                    refine wp_region_later (by kernel_rfl) (by kernel_rfl) ?_
                    repeat (go_big_quiet_step ((first | (go_at_call 28; exact Later.call (HIS.out _ (hp24.fr (Later.nw _) (fun h => h)))) | (go_at_call 29; exact Later.call (HIR.out _ (hm24.fr (Later.nw _) (fun h => h)))))))
                    refine wpQuiet_later fun w5 q5 => ?_
                    clear d1 d2
                    go_wp2_with fail
                    go_roundw
                    case rel => exact ⟨j + 1, by omega, by go_num, hq.tr q5⟩
                    case measure => simp [intOf]; omega
                  · go_wp2_with fail
                    refine (HRR.out _ hm24 (S1.fr q34 (fun _ _ h => h))).mono ?_
                    rintro e y1 ⟨rfl, hm25, f2⟩
                    have hc25 := hc24.fr f2 (by omega)
                    have q35 : Nw w y1 := q34.new f2 (fun j h => by rw [h]; omega)
                    go_wp2_with fail
                    refine (same17 _ _ _ _ hc25 hm25).mono ?_
                    rintro e y2 ⟨rfl, r4⟩
                    go_wp2_with fail
                    refine (awake17 _).mono ?_
                    rintro e y3 ⟨rfl, r5⟩
                    go_wp2_with fail
                    go_ret
                    exact ⟨rfl, (q35.tr r4).tr r5⟩
end Go.Proofs.Ytoapobgnfgfobaa
