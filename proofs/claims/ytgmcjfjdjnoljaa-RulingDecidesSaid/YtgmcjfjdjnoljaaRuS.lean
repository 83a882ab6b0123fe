/- Rulings: the law's look at how much comes in. -/
import Derived.Test.YtgmcjfjdjnoljaaRuF
import Derived.Test.YtgmcjfjdjnoljaaRuB
import Derived.Deep.QuietTactic
namespace Go.Proofs.Ytgmcjfjdjnoljaa
open Go Go.RowKit

def RdgLen2 (r : Rdg) : Prop := r.1.length ≤ maxLen ∧ r.2.2.length ≤ maxLen
def RdgSmall (r : Rdg) : Prop := r.1.length ≤ 7000 ∧ r.2.2.length ≤ 7000
def VerSmall (v : Ver) : Prop := v.2.2.2.length ≤ 1300 ∧ ∀ r ∈ v.2.2.2, RdgSmall r
def GrRel (w : World) (l : List Ver) (n i : Value) (wr : World) : Prop :=
  ∃ j N : Nat, j ≤ l.length ∧ i = .int .i64 j ∧ n = .int .i64 N ∧ l.length ≤ N ∧ N ≤ 4000000000000000000 ∧ (N ≤ 150 → ∀ x (h : x < l.length), x < j → VerSmall l[x]) ∧ Nw w wr
def GiRel (w : World) (l : List Ver) (j : Nat) (rs : List Rdg) (n i : Value) (wr : World) : Prop :=
  ∃ k N : Nat, k ≤ rs.length ∧ i = .int .i64 k ∧ n = .int .i64 N ∧ l.length ≤ N ∧ rs.length / 8 ≤ N ∧ N ≤ 4000000000000000000 ∧ (N ≤ 150 → ∀ x (h : x < l.length), x < j → VerSmall l[x]) ∧ (N ≤ 150 → ∀ x (h : x < rs.length), x < k → RdgSmall rs[x]) ∧ Nw w wr
theorem quo_nat (a b : Nat) (ha : a ≤ 9223372036854775807) : IntKind.i64.wrap ((a : Int).tdiv (b : Int)) = ((a / b : Nat) : Int) := by
  rw [← Int.ofNat_tdiv, IntKind.wrap_i64]
  have := Nat.div_le_self a b
  generalize a / b = q at *
  omega
theorem w_div8 (a d : Nat) (ha : a ≤ 9223372036854775807) (hd : a / 8 = d) : wrap64 ((a : Int) / 8) = (d : Int) := by
  subst hd; unfold wrap64; omega
theorem w_div40 (a d : Nat) (ha : a ≤ 9223372036854775807) (hd : a / 40 = d) : wrap64 ((a : Int) / 40) = (d : Int) := by
  subst hd; unfold wrap64; omega
theorem w_add (a b m : Nat) (h : a + b = m) (hm : m ≤ 9000000000000000000) : wrap64 ((a : Int) + (b : Int)) = (m : Int) := by
  subst h; unfold wrap64; omega
theorem d40_le (a d : Nat) (ha : a ≤ 9223372036854775807) (hd : a / 40 = d) : d ≤ 230584300921369396 := by omega
theorem d8_le (a d : Nat) (ha : a ≤ 9223372036854775807) (hd : a / 8 = d) : d ≤ 1152921504606846976 := by omega
theorem small_of (n a b d e : Nat) (hd : a / 40 = d) (he : b / 40 = e) (h : n + d + e ≤ 150) : a ≤ 7000 ∧ b ≤ 7000 := by omega
theorem sum_le (n a b m p : Nat) (hn : n ≤ 150) (ha : a ≤ 230584300921369396) (hb : b ≤ 230584300921369396) (h1 : n + a = m) (h2 : m + b = p) : m ≤ 4000000000000000000 ∧ p ≤ 4000000000000000000 ∧ n ≤ p := by omega
theorem gr_step (n a b : Nat) (hn : n ≤ 150) (ha : a ≤ 9223372036854775807) (hb : b ≤ 9223372036854775807) :
    wrap64 (wrap64 ((n : Int) + wrap64 ((a : Int) / 40)) + wrap64 ((b : Int) / 40)) = ((n + a / 40 + b / 40 : Nat) : Int) ∧ n + a / 40 + b / 40 ≤ 4000000000000000000 ∧ (n + a / 40 + b / 40 ≤ 150 → a ≤ 7000 ∧ b ≤ 7000) := by
  obtain ⟨d, hd⟩ : ∃ d, a / 40 = d := ⟨_, rfl⟩
  obtain ⟨e, he⟩ : ∃ e, b / 40 = e := ⟨_, rfl⟩
  have h1 := d40_le a d ha hd
  have h2 := d40_le b e hb he
  have h3 := sum_le n d e _ _ hn h1 h2 rfl rfl
  rw [w_div40 a d ha hd, w_div40 b e hb he, w_add n d _ rfl (Nat.le_trans h3.1 (by decide)), w_add (n + d) e _ rfl (Nat.le_trans h3.2.1 (by decide)), hd, he]
  exact ⟨rfl, h3.2.1, small_of n a b d e hd he⟩
def GreatTo (w : World) (l : List Ver) (e : Ending) (w' : World) : Prop := ∃ b, e = .returned (.bool b) ∧ (b = false → l.length ≤ 150 ∧ ∀ v ∈ l, VerSmall v) ∧ Nw w w'
set_option maxRecDepth 100000 in
set_option maxHeartbeats 4000000 in
theorem great_any (w : World) (F I : Nat → Prop) (A : Option Addr) (c : Nat) (l : List Ver) (cs : List Value) (hs : Sl w F A cs) (hv : VersC w I l cs) (hl : l.length ≤ 3000000000000) (hz : ∀ v ∈ l, v.2.2.2.length ≤ maxLen ∧ ∀ r ∈ v.2.2.2, RdgLen2 r) :
    Calls Try.prog 6 #[.slice A l.length c] w fun e w' => GreatTo w l e w' := by
  go_enter Try.func6, Try.ntmps6
  go_wp2_with fail
  go_loopw [3, 4] (fun n i wx => GrRel w l n i wx) (fun n i _ => l.length - (intOf i).toNat)
  case atStart => exact ⟨0, l.length, Nat.zero_le _, rfl, rfl, Nat.le_refl _, by omega, fun _ _ _ h => by omega, Fr.refl _ _⟩
  case round =>
    obtain ⟨j, N, hj, rfl, rfl, hlN, hN, hsm, hq⟩ := hrel
    have HSM := Lib.hid hsm
    clear hsm
    by_cases hlt : j < l.length
    · by_cases h150 : N ≤ 150
      · obtain ⟨bA, oA, A', c', rfl, _, hcell, hc1, hc2, hs'⟩ := (hs.fr hq (fun _ _ h => h)).ver (hv.fr hq (fun _ _ h => h)) hlt
        have hzk := hz _ (List.getElem_mem hlt)
        have hi0 : (j : Int) < (l.length : Int) := by omega
        have hi1 : (N : Int) ≤ 150 := by omega
        have x4 := hcell 4 _ rfl
        obtain ⟨rs, hrs⟩ : ∃ rs, l[j].2.2.2 = rs := ⟨_, rfl⟩
        rw [hrs] at x4 hs' hzk hc1
        have HRS := Lib.hid hrs
        obtain ⟨d, hd⟩ : ∃ d, rs.length / 8 = d := ⟨_, rfl⟩
        obtain ⟨rl, hrl⟩ : ∃ rl, rs.length = rl := ⟨_, rfl⟩
        have hrlm : rl ≤ 9223372036854775807 := by have := hzk.1; unfold maxLen at this; omega
        rw [hrl] at x4 hd hc1
        have hd9 := d8_le rl d hrlm hd
        obtain ⟨M, hM⟩ : ∃ M, N + d = M := ⟨_, rfl⟩
        have HM := Lib.hid hM
        have HD := Lib.hid hd
        have HRL := Lib.hid hrl
        clear hrs hcell hM hd hrl
        obtain ⟨wB, hwB⟩ : ∃ wB, wB = wr := ⟨_, rfl⟩
        rw [← hwB] at hq x4 hs' ⊢
        clear hwB
        go_wp2_with fail
        go_loopw [3, 5] (fun n i wx => GiRel wB l j rs n i wx) (fun _ i _ => rl - (intOf i).toNat)
        case atStart =>
          have h1 := HM.out
          have h2 := HD.out
          have h3 := HRL.out
          exact ⟨0, M, Nat.zero_le _, rfl, congrArg (Value.int .i64) (by omega), by omega, by omega, by omega, fun h x hx hxj => HSM.out (by omega) x hx hxj, fun _ _ _ h => by omega, Fr.refl _ _⟩
        case round =>
          obtain ⟨k, N2, hk, rfl, rfl, hlN2, hdN2, hN2, hsm2, hrm2, hq2⟩ := hrel
          have hkr : k ≤ rl := by rw [← HRL.out]; exact hk
          have HSM2 := Lib.hid hsm2
          have HRM2 := Lib.hid hrm2
          clear hsm2 hrm2
          have x4' := (hq2.cell (World.block_lt_of_cell? _ _ x4) (fun h => h)).trans x4
          by_cases hkl : k < rl
          · by_cases h2 : N2 ≤ 150
            · have hkr2 : k < rs.length := by rw [HRL.out]; exact hkl
              obtain ⟨b2, o2, rfl, _, r0, _, r2⟩ := (hs'.fr hq2 (fun _ _ h => h)).rdg hkr2
              have hlr := hzk.2 _ (List.getElem_mem hkr2)
              have hm1 : rs[k].1.length ≤ 9223372036854775807 := by have := hlr.1; unfold maxLen at this; exact this
              have hm2 : rs[k].2.2.length ≤ 9223372036854775807 := by have := hlr.2; unfold maxLen at this; exact this
              have HG := Lib.hid (gr_step N2 rs[k].1.length rs[k].2.2.length h2 hm1 hm2)
              clear hlr hzk hm1 hm2
              go_wp2_with fail
              go_quiet (fail)
              go_wp2_with fail
              go_roundw
              case rel =>
                obtain ⟨g1, g2, g3⟩ := HG.out
                refine ⟨k + 1, N2 + rs[k].1.length / 40 + rs[k].2.2.length / 40, hkr2, by go_num, congrArg (Value.int .i64) g1, Nat.le_trans hlN2 (Nat.le_trans (Nat.le_add_right _ _) (Nat.le_add_right _ _)), Nat.le_trans hdN2 (Nat.le_trans (Nat.le_add_right _ _) (Nat.le_add_right _ _)), g2, fun _ => HSM2.out h2, fun h x hx hxk => ?_, hq2.drewN _⟩
                rcases Nat.lt_or_ge x k with h4 | h4
                · exact HRM2.out h2 x hx h4
                · obtain rfl : x = k := Nat.le_antisymm (Nat.le_of_lt_succ hxk) h4
                  exact g3 h
              case measure => simp [intOf]; omega
            · have hj1 : ¬ (N2 : Int) ≤ 150 := fun h => h2 (Int.ofNat_le.1 h)
              have hj0 : (k : Int) < (rl : Int) := Int.ofNat_lt.2 hkl
              have hq3 := hq.tr hq2
              go_wp2_with fail
              exact ⟨⟨j + 1, N2, hlt, by go_num, rfl, hlN2, hN2, fun h => absurd h h2, hq3⟩, by simp [intOf]; omega⟩
          · have hke : k = rl := Nat.le_antisymm hkr (Nat.le_of_not_lt hkl)
            have hq3 := hq.tr hq2
            have hj0 : ¬ (k : Int) < (rl : Int) := fun h => hkl (Int.ofNat_lt.1 h)
            have hjd : decide ((k : Int) < (rl : Int)) = false := decide_eq_false hj0
            go_wp2_with fail
            refine ⟨⟨j + 1, N2, hlt, by go_num, rfl, hlN2, hN2, fun h x hx hxj => ?_, hq3⟩, by simp [intOf]; omega⟩
            rcases Nat.lt_or_ge x j with h4 | h4
            · exact HSM2.out h x hx h4
            · obtain rfl : x = j := Nat.le_antisymm (Nat.le_of_lt_succ hxj) h4
              have h5 := HRL.out
              have h6 : rl / 8 ≤ 150 := by rw [← h5]; exact Nat.le_trans hdN2 h
              refine ⟨by rw [HRS.out, h5]; omega, fun r hr => ?_⟩
              rw [HRS.out] at hr
              obtain ⟨y, hy, rfl⟩ := List.mem_iff_getElem.1 hr
              exact HRM2.out h y hy (by omega)
      · have hi1 : ¬ (N : Int) ≤ 150 := by omega
        have hi0 : (j : Int) < (l.length : Int) := by omega
        have hi2 : decide ((150 : Int) < (N : Int)) = true := decide_eq_true (by omega)
        go_wp2_with fail
        go_ret
        exact ⟨_, rfl, fun h => by simp at h, hq⟩
    · have hi0 : ¬ (j : Int) < (l.length : Int) := by omega
      go_wp2_with fail
      go_ret
      refine ⟨_, rfl, fun h => ?_, hq⟩
      have hN150 : N ≤ 150 := by
        have h1 := of_decide_eq_false h
        omega
      refine ⟨by omega, fun v hv2 => ?_⟩
      obtain ⟨x, hx, rfl⟩ := List.mem_iff_getElem.1 hv2
      exact HSM.out hN150 x hx (by omega)
end Go.Proofs.Ytgmcjfjdjnoljaa
