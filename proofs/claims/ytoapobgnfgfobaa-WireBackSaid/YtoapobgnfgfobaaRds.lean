/- WireBack: reading in the order of writing. -/
import Derived.Test.YtoapobgnfgfobaaL02A
import Derived.Test.YtoapobgnfgfobaaRdQ
import Derived.Deep.RegionHeld3
import Derived.Deep.DeepCutAuto
namespace Go.Proofs.Ytoapobgnfgfobaa
open Go Go.RowKit

theorem IsRd.drew {w : World} {F : Nat → Prop} {g : Nat} {s : Rd} (h : IsRd w F g s) : IsRd w.drew F g s := h.fr (S := fun _ => False) (Fr.refl _ w).drew (fun h => h) (fun _ _ h => h)

theorem RdTo.drewL {w w1 w2 : World} {F : Nat → Prop} {g : Nat} {s1 s2 : Rd} (h : RdTo w F g s1 w1) (k : RdTo w1.drew F g s2 w2) : RdTo w F g s2 w2 := ⟨k.1, h.2.drew.tr k.2⟩
theorem RdTo.drewN {w w1 : World} {F : Nat → Prop} {g : Nat} {s : Rd} (h : RdTo w F g s w1) (n : Nat) : RdTo w F g s (w1.drewN n) := ⟨h.1.fr (S := fun _ => False) ((Fr.refl _ w1).drewN n) (fun h => h) (fun _ _ h => h), h.2.drewN n⟩

/-- Where the reading stands. -/
def AtQ (w : World) (F : Nat → Prop) (g : Nat) (q : RdQ) (ok : Value) (wx : World) : Prop := ok = .bool q.1 ∧ RdTo w F g q.2 wx ∧ rdLeft q.2 ≤ 1000000000000
def LoopQ (w : World) (F : Nat → Prop) (g : Nat) (f : Nat → RdQ) (n : Nat) (ok i : Value) (wx : World) : Prop := ∃ k : Nat, k ≤ n ∧ i = .int .i64 k ∧ AtQ w F g (f k) ok wx

set_option maxRecDepth 100000 in
set_option maxHeartbeats 4000000 in
theorem reads2_any (w : World) (F F0 : Nat → Prop) (g : Nat) (st : Rd) (h : IsRd w F g st) (hsz : rdLeft st ≤ 1000000000000) (n : Nat) (hn : n ≤ 1000000000)
    (A2 A3 A4 A5 : Option Addr) (c2 c3 c4 c5 : Nat) (nums : List Int) (flags : List Bool) (texts : List ByteArray) (rows : List (List UInt8)) (vs : List Value)
    (h2 : Sl w F0 A2 (nums.map I64)) (h3 : Sl w F0 A3 (flags.map Value.bool)) (h4 : Sl w F0 A4 (texts.map Value.string)) (h5 : Sl w F0 A5 vs) (hrs : RowsV w F0 vs rows)
    (h0 : ∀ k, F0 k → k ≠ g) (ht : ∀ t ∈ texts, t.size ≤ 1000000000) (hr : ∀ t ∈ rows, t.length ≤ 1000000000) :
    Calls Try.prog 57 #[.pointer (some ⟨g, 0, none⟩), .int .i64 n, .slice A2 nums.length c2, .slice A3 flags.length c3, .slice A4 texts.length c4, .slice A5 rows.length c5] w
      fun e w' => e = .returned (.bool (roundsQ rows flags nums texts n (true, st)).1) ∧ RdTo w F g (roundsQ rows flags nums texts n (true, st)).2 w' := by
  go_enter Try.func57, Try.ntmps57
  go_wp2_with fail
  go_loopw [13, 14] (fun ok i wx => LoopQ w F g (fun k => roundsQ rows flags nums texts k (true, st)) n ok i wx) (fun _ i _ => n - (intOf i).toNat)
  case atStart => exact ⟨0, Nat.zero_le _, rfl, rfl, RdTo.refl h, hsz⟩
  case round =>
    obtain ⟨k, hk, rfl, hat⟩ := hrel
    change AtQ w F g (roundsQ rows flags nums texts k (true, st)) _ wr at hat
    generalize hq : roundsQ rows flags nums texts k (true, st) = q at hat
    have HQ := Lib.hid hq
    clear hq
    obtain ⟨rfl, hrd, hle⟩ := hat
    by_cases hlt : k < n
    · go_upto_if 23 with (fail)
      go_cut [13] (fun ok wx => AtQ w F g (optQ rowQ rows[k]? q) ok wx)
      case first =>
        by_cases hl : k < rows.length
        · obtain ⟨v, hv, A6, c6, rfl, hcl1, hcl2, hs6⟩ := (hrs.fr hrd.2 h0).2 k hl
          obtain ⟨b, o, rfl, hF0, _, hcs⟩ := (h5.fr hrd.2 h0).at_ (by rintro rfl; simp at hv)
          have hc := hcs k _ hv
          clear hcs
          have HV := Lib.hid hv
          clear hv
          have hi0 : (k : Int) < (rows.length : Int) := by omega
          have HOP := Lib.hid (optQ_some rowQ rows k q hl)
          have hb := h0 b hF0
          have hbl := World.block_lt_of_cell? _ _ hc
          have hsm := hr _ (List.getElem_mem hl)
          have HR := Lib.hid (rdRow_left (rows[k].length : Nat) q.2)
          have hrl : (rdRow (rows[k].length : Nat) q.2).1.length ≤ 1000000000000 := by
            rcases rdNum_cases (rows[k].length : Nat) q.2 with hn | ⟨bs, m, r, hq2, hn, _, hm, _⟩
            · rw [rdRow_none hn]; exact Nat.zero_le _
            · rw [rdRow_some hn]
              split
              · exact Nat.zero_le _
              · rw [List.length_take]; omega
          obtain ⟨x, hx⟩ : ∃ x, (rdRow (rows[k].length : Nat) q.2).1 = x := ⟨_, rfl⟩
          have hcon := fun (W : World) (hi : IsRd W F g q.2) => rdrow_any W F g q.2 hi (rows[k].length : Nat) hle
          rw [hx] at hcon hrl
          have HX := Lib.hid hx
          clear hx
          have HC := Lib.hid hcon
          clear hcon
          have hfin : ∀ (w1 : World) (m : Nat) (B : Bool), B = (decide (x = rows[k]) && q.1) → RdTo wr.drew F g (rdRow (rows[k].length : Nat) q.2).2 w1 → AtQ w F g (optQ rowQ rows[k]? q) (.bool B) (w1.drewN m) := fun w1 m B hB h1 => by
            rw [HOP.out]
            refine ⟨by rw [hB]; simp only [rowQ, HX.out], (hrd.drewL h1).drewN m, Nat.le_trans HR.out hle⟩
          have HF := Lib.hid hfin
          clear hfin
          by_cases hbq : decide (x = rows[k]) = true
          · go_wp2_with fail
            first | (go_region_held3 (fun w' => w'.cell? ⟨b, o + k, none⟩ = some (.slice A6 rows[k].length c6)) (first | go_keep | ((rw [h1.2.cell hbl hb]; exact hc)))
              ((first | (go_at_call 53; refine (HC.out _ hrd.1.drew).mono ?_; rintro e w1 ⟨A7, c7, rfl, ho, h1, hn1⟩; have hc1 : w1.cell? ⟨b, o + k, none⟩ = some (.slice A6 rows[k].length c6) := (h1.2.cell hbl hb).trans hc) | (go_at_call 26; refine (same_u8 _ _ _ _ _ _ _ _ _ ho.sl ((hs6.fr (Fr.refl _ _).drew h0).fr h1.2 h0) hrl).mono ?_; rintro e w2 ⟨rfl, n2, rfl⟩)))) | fail
            go_wp2_with fail
            go_meet
            exact HF.out _ _ _ (by rw [hbq]; rfl) h1
          · have hbq : decide (x = rows[k]) = false := by simpa using hbq
            have hcd : wr.drew.cell? ⟨b, o + k, none⟩ = some (.slice A6 rows[k].length c6) := hc
            go_wp2_with fail
            first | (go_region_with ((first | (go_at_call 53; refine (HC.out _ hrd.1.drew).mono ?_; rintro e w1 ⟨A7, c7, rfl, ho, h1, hn1⟩; have hc1 : w1.cell? ⟨b, o + k, none⟩ = some (.slice A6 rows[k].length c6) := (h1.2.cell hbl hb).trans hc) | (go_at_call 26; refine (same_u8 _ _ _ _ _ _ _ _ _ ho.sl ((hs6.fr (Fr.refl _ _).drew h0).fr h1.2 h0) hrl).mono ?_; rintro e w2 ⟨rfl, n2, rfl⟩)))) | fail
            all_goals
              go_wp2_with fail
              go_meet
              exact HF.out _ _ _ (by rw [hbq]; rfl) h1
        · go_wp2_with fail
          go_meet
          rw [optQ_none _ _ _ _ hl]
          exact ⟨rfl, hrd, hle⟩
      case rest =>
        obtain ⟨hok, hrd1, hle1⟩ := hcut
        clear hrd hle
        generalize hq1 : optQ rowQ rows[k]? q = q1 at hok hrd1 hle1
        have HQ1 := Lib.hid hq1
        clear hq1
        subst hok
        go_upto_if 42 with (fail)
        go_cut [13] (fun ok wx => AtQ w F g (optQ flagQ flags[k]? q1) ok wx)
        case first =>
          by_cases hl : k < flags.length
          · obtain ⟨b, o, rfl, hF0, hc⟩ := (h3.fr hrd1.2 h0).get hl
            have hi0 : (k : Int) < (flags.length : Int) := by omega
            have HOP := Lib.hid (optQ_some flagQ flags k q1 hl)
            have hb := h0 b hF0
            have hbl := World.block_lt_of_cell? _ _ hc
            have HR := Lib.hid (rdFlag_left q1.2)
            have hfin : ∀ (w1 : World) (B : Bool), B = (((rdFlag q1.2).1 == flags[k]) && q1.1) → RdTo wc.drew F g (rdFlag q1.2).2 w1 → AtQ w F g (optQ flagQ flags[k]? q1) (.bool B) w1 := fun w1 B hB h1 => by
              rw [HOP.out]
              exact ⟨by rw [hB]; simp only [flagQ], hrd1.drewL h1, Nat.le_trans HR.out hle1⟩
            have HF := Lib.hid hfin
            clear hfin
            by_cases hbq : ((rdFlag q1.2).1 == flags[k]) = true
            · go_wp2_with fail
              first | (go_region_held3 (fun w' => w'.cell? ⟨b, o + k, none⟩ = some (.bool flags[k])) (first | go_keep | ((rw [h1.2.cell hbl hb]; exact hc)))
                ((go_at_call 49; refine (rdflag_any _ F g q1.2 hrd1.1.drew).mono ?_; rintro e w1 ⟨rfl, h1⟩; have hc1 : w1.cell? ⟨b, o + k, none⟩ = some (.bool flags[k]) := (h1.2.cell hbl hb).trans hc))) | fail
              go_wp2_with fail
              go_meet
              exact HF.out _ _ (by rw [hbq]; rfl) h1
            · have hbq : ((rdFlag q1.2).1 == flags[k]) = false := by simpa using hbq
              have hcd : wc.drew.cell? ⟨b, o + k, none⟩ = some (.bool flags[k]) := hc
              go_wp2_with fail
              first | (go_region_with ((go_at_call 49; refine (rdflag_any _ F g q1.2 hrd1.1.drew).mono ?_; rintro e w1 ⟨rfl, h1⟩; have hc1 : w1.cell? ⟨b, o + k, none⟩ = some (.bool flags[k]) := (h1.2.cell hbl hb).trans hc))) | fail
              all_goals
                go_wp2_with fail
                go_meet
                exact HF.out _ _ (by rw [hbq]; rfl) h1
          · go_wp2_with fail
            go_meet
            rw [optQ_none _ _ _ _ hl]
            exact ⟨rfl, hrd1, hle1⟩
        case rest =>
          obtain ⟨hok, hrd2, hle2⟩ := hcut
          clear hrd1 hle1
          generalize hq2 : optQ flagQ flags[k]? q1 = q2 at hok hrd2 hle2
          have HQ2 := Lib.hid hq2
          clear hq2
          subst hok
          go_upto_if 56 with (fail)
          go_cut [13] (fun ok wx => AtQ w F g (optQ numQ nums[k]? q2) ok wx)
          case first =>
            by_cases hl : k < nums.length
            · obtain ⟨b, o, rfl, hF0, hc⟩ := (h2.fr hrd2.2 h0).get hl
              have hi0 : (k : Int) < (nums.length : Int) := by omega
              have HOP := Lib.hid (optQ_some numQ nums k q2 hl)
              have hb := h0 b hF0
              have hbl := World.block_lt_of_cell? _ _ hc
              have HR := Lib.hid (rdNum_left nums[k] q2.2)
              have hfin : ∀ (w1 : World) (B : Bool), B = (((rdNum nums[k] q2.2).1 == nums[k]) && q2.1) → RdTo wc.drew F g (rdNum nums[k] q2.2).2 w1 → AtQ w F g (optQ numQ nums[k]? q2) (.bool B) w1 := fun w1 B hB h1 => by
                rw [HOP.out]
                exact ⟨by rw [hB]; simp only [numQ], hrd2.drewL h1, Nat.le_trans HR.out hle2⟩
              have HF := Lib.hid hfin
              clear hfin
              by_cases hbq : ((rdNum nums[k] q2.2).1 == nums[k]) = true
              · go_wp2_with fail
                first | (go_region_held3 (fun w' => w'.cell? ⟨b, o + k, none⟩ = some (I64 nums[k])) (first | go_keep | ((rw [h1.2.cell hbl hb]; exact hc)))
                  ((go_at_call 33; refine (rdnumber_any _ F g q2.2 hrd2.1.drew nums[k]).mono ?_; rintro e w1 ⟨rfl, h1⟩; have hc1 : w1.cell? ⟨b, o + k, none⟩ = some (I64 nums[k]) := (h1.2.cell hbl hb).trans hc))) | fail
                go_wp2_with fail
                go_meet
                exact HF.out _ _ (by rw [hbq]; rfl) h1
              · have hbq : ((rdNum nums[k] q2.2).1 == nums[k]) = false := by simpa using hbq
                have hcd : wc.drew.cell? ⟨b, o + k, none⟩ = some (I64 nums[k]) := hc
                go_wp2_with fail
                first | (go_region_with ((go_at_call 33; refine (rdnumber_any _ F g q2.2 hrd2.1.drew nums[k]).mono ?_; rintro e w1 ⟨rfl, h1⟩; have hc1 : w1.cell? ⟨b, o + k, none⟩ = some (I64 nums[k]) := (h1.2.cell hbl hb).trans hc))) | fail
                all_goals
                  go_wp2_with fail
                  go_meet
                  exact HF.out _ _ (by rw [hbq]; rfl) h1
            · go_wp2_with fail
              go_meet
              rw [optQ_none _ _ _ _ hl]
              exact ⟨rfl, hrd2, hle2⟩
          case rest =>
            obtain ⟨hok, hrd3, hle3⟩ := hcut
            clear hrd2 hle2
            generalize hq3 : optQ numQ nums[k]? q2 = q3 at hok hrd3 hle3
            have HQ3 := Lib.hid hq3
            clear hq3
            subst hok
            have hend : ∀ (ok : Value) (wx : World), AtQ w F g (optQ textQ texts[k]? q3) ok wx → LoopQ w F g (fun k => roundsQ rows flags nums texts k (true, st)) n ok (.int .i64 ((k : Int) + 1)) wx := fun ok wx hx => by
              refine ⟨k + 1, by omega, by go_num, ?_⟩
              show AtQ w F g (roundsQ rows flags nums texts (k + 1) (true, st)) _ _
              have e : roundsQ rows flags nums texts (k + 1) (true, st) = optQ textQ texts[k]? q3 := by
                rw [roundsQ, HQ.out, roundQ, HQ1.out, HQ2.out, HQ3.out]
              rw [e]
              exact hx
            have HE := Lib.hid hend
            clear hend
            by_cases hl : k < texts.length
            · obtain ⟨b, o, rfl, hF0, hc⟩ := (h4.fr hrd3.2 h0).get hl
              have hi0 : (k : Int) < (texts.length : Int) := by omega
              have HOP := Lib.hid (optQ_some textQ texts k q3 hl)
              have hb := h0 b hF0
              have hbl := World.block_lt_of_cell? _ _ hc
              have HR := Lib.hid (rdRow_left (texts[k].size : Nat) q3.2)
              have hsm := ht _ (List.getElem_mem hl)
              have hfin : ∀ (w1 : World) (B : Bool), B = (((rdRow (texts[k].size : Nat) q3.2).1 == texts[k].toList) && q3.1) → RdTo wc.drew F g (rdRow (texts[k].size : Nat) q3.2).2 w1 → AtQ w F g (optQ textQ texts[k]? q3) (.bool B) w1 := fun w1 B hB h1 => by
                rw [HOP.out]
                exact ⟨by rw [hB]; simp only [textQ], hrd3.drewL h1, Nat.le_trans HR.out hle3⟩
              have HF := Lib.hid hfin
              clear hfin
              by_cases hbq : ((rdRow (texts[k].size : Nat) q3.2).1 == texts[k].toList) = true
              · go_wp2_with fail
                first | (go_region_held3 (fun w' => w'.cell? ⟨b, o + k, none⟩ = some (.string texts[k])) (first | go_keep | ((rw [h1.2.cell hbl hb]; exact hc)))
                  ((go_at_call 51; refine (rdtext_any _ F g q3.2 hrd3.1.drew (texts[k].size : Nat) hle3).mono ?_; rintro e w1 ⟨rfl, h1⟩; have hc1 : w1.cell? ⟨b, o + k, none⟩ = some (.string texts[k]) := (h1.2.cell hbl hb).trans hc))) | fail
                go_wp2_with fail
                go_roundw
                case rel => exact HE.out _ _ (HF.out _ _ (by rw [hbq]; rfl) h1)
                case measure => simp [intOf]; omega
              · have hbq : ((rdRow (texts[k].size : Nat) q3.2).1 == texts[k].toList) = false := by simpa using hbq
                have hcd : wc.drew.cell? ⟨b, o + k, none⟩ = some (.string texts[k]) := hc
                go_wp2_with fail
                first | (go_region_with ((go_at_call 51; refine (rdtext_any _ F g q3.2 hrd3.1.drew (texts[k].size : Nat) hle3).mono ?_; rintro e w1 ⟨rfl, h1⟩; have hc1 : w1.cell? ⟨b, o + k, none⟩ = some (.string texts[k]) := (h1.2.cell hbl hb).trans hc))) | fail
                all_goals
                  go_wp2_with fail
                  go_roundw
                  case rel => exact HE.out _ _ (HF.out _ _ (by rw [hbq]; rfl) h1)
                  case measure => simp [intOf]; omega
            · go_wp2_with fail
              go_roundw
              case rel =>
                refine HE.out _ _ ?_
                rw [optQ_none _ _ _ _ hl]
                exact ⟨rfl, hrd3, hle3⟩
              case measure => simp [intOf]; omega
    · have hkn : k = n := by omega
      subst hkn
      go_wp2_with fail
      go_ret
      rw [HQ.out]
      exact ⟨rfl, hrd⟩
end Go.Proofs.Ytoapobgnfgfobaa
