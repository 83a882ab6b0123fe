/- Orders: the law's look at how much comes in. -/
import Derived.Test.YtkjnlhidnkbelaaGreatDoorOfD
import Derived.Deep.QuietTactic
namespace Go.Proofs.YtkjnlhidnkbelaaGreatDoor
open Go Go.RowKit

theorem w_div8 (a d : Nat) (ha : a ≤ 9223372036854775807) (hd : a / 8 = d) : wrap64 ((a : Int) / 8) = (d : Int) := by
  subst hd; unfold wrap64; omega
theorem w_add (a b m : Nat) (h : a + b = m) (hm : m ≤ 9000000000000000000) : wrap64 ((a : Int) + (b : Int)) = (m : Int) := by
  subst h; unfold wrap64; omega
theorem d8_le (a d : Nat) (ha : a ≤ 9223372036854775807) (hd : a / 8 = d) : d ≤ 1152921504606846976 := by omega
def ActSmall (a : ActT) : Prop := a.key.length ≤ 40007 ∧ a.val.length ≤ 40007
theorem small8 (n a b d e : Nat) (hd : a / 8 = d) (he : b / 8 = e) (h : n + 1 + d + e ≤ 5000) : a ≤ 40007 ∧ b ≤ 40007 := by omega
theorem sum8 (n a b m p q : Nat) (hn : n ≤ 5000) (ha : a ≤ 1152921504606846976) (hb : b ≤ 1152921504606846976) (h0 : n + 1 = q) (h1 : q + a = m) (h2 : m + b = p) : q ≤ 4000000000000000000 ∧ m ≤ 4000000000000000000 ∧ p ≤ 4000000000000000000 := by omega
theorem ao_step (n a b : Nat) (hn : n ≤ 5000) (ha : a ≤ 9223372036854775807) (hb : b ≤ 9223372036854775807) :
    wrap64 (wrap64 ((n : Int) + 1 + wrap64 ((a : Int) / 8)) + wrap64 ((b : Int) / 8)) = ((n + 1 + a / 8 + b / 8 : Nat) : Int) ∧ n + 1 + a / 8 + b / 8 ≤ 4000000000000000000 ∧ (n + 1 + a / 8 + b / 8 ≤ 5000 → a ≤ 40007 ∧ b ≤ 40007) := by
  obtain ⟨d, hd⟩ : ∃ d, a / 8 = d := ⟨_, rfl⟩
  obtain ⟨e, he⟩ : ∃ e, b / 8 = e := ⟨_, rfl⟩
  have h1 := d8_le a d ha hd
  have h2 := d8_le b e hb he
  have h3 := sum8 n d e _ _ _ hn h1 h2 rfl rfl rfl
  have h4 : ((n : Int) + 1) = ((n + 1 : Nat) : Int) := by omega
  rw [w_div8 a d ha hd, w_div8 b e hb he, h4, w_add (n + 1) d _ rfl (Nat.le_trans h3.2.1 (by decide)), w_add (n + 1 + d) e _ rfl (Nat.le_trans h3.2.2 (by decide)), hd, he]
  exact ⟨rfl, h3.2.2, small8 n a b d e hd he⟩
def AoRel (w : World) (l : List ActT) (n i : Value) (wr : World) : Prop :=
  ∃ j N : Nat, j ≤ l.length ∧ i = .int .i64 j ∧ n = .int .i64 N ∧ j ≤ N ∧ N ≤ 4000000000000000000 ∧ (N ≤ 5000 → ∀ x (h : x < l.length), x < j → ActSmall l[x]) ∧ Nw w wr
def AoTo (w : World) (l : List ActT) (e : Ending) (w' : World) : Prop := ∃ N : Nat, e = .returned (.int .i64 N) ∧ N ≤ 4000000000000000000 ∧ (N ≤ 5000 → l.length ≤ 5000 ∧ ∀ a ∈ l, ActSmall a) ∧ Nw w w'
set_option maxRecDepth 100000 in
set_option maxHeartbeats 4000000 in
theorem actsOf_any (w : World) (F : Nat → Prop) (A : Option Addr) (c : Nat) (l : List ActT) (hs : Sl w F A (actsCells l)) (hl : l.length ≤ 3000000000000) (hz : ActSz l) :
    Calls Tryz.prog 54 #[.slice A l.length c, .int .i64 5000] w fun e w' => AoTo w l e w' := by
  go_enter Tryz.func54, Tryz.ntmps54
  go_wp2_with fail
  go_loopw [5, 6] (fun n i wx => AoRel w l n i wx) (fun n i _ => l.length - (intOf i).toNat)
  case atStart => exact ⟨0, 0, Nat.zero_le _, rfl, rfl, Nat.le_refl _, by omega, fun _ _ _ h => by omega, Fr.refl _ _⟩
  case round =>
    obtain ⟨j, N, hj, rfl, rfl, hlN, hN, hsm, hq⟩ := hrel
    have HSM := Lib.hid hsm
    clear hsm
    by_cases hlt : j < l.length
    · have hi0 : (j : Int) < (l.length : Int) := by omega
      by_cases h5 : N ≤ 5000
      · have hi1 : (N : Int) ≤ 5000 := by omega
        obtain ⟨b, o, rfl, _, r0, r1, r2, r3⟩ := (hs.fr hq (fun _ _ h => h)).act hlt
        have hzk := hz _ (List.getElem_mem hlt)
        have HG := Lib.hid (ao_step N l[j].key.length l[j].val.length h5 (Nat.le_trans hzk.2.1 (by decide)) (Nat.le_trans hzk.2.2 (by decide)))
        clear hzk
        go_wp2_with fail
        go_quiet (fail)
        go_wp2_with fail
        go_roundw
        case rel =>
          obtain ⟨g1, g2, g3⟩ := HG.out
          refine ⟨j + 1, N + 1 + l[j].key.length / 8 + l[j].val.length / 8, hlt, by go_num, congrArg (Value.int .i64) g1, Nat.le_trans (Nat.succ_le_succ hlN) (Nat.le_trans (Nat.le_add_right _ _) (Nat.le_add_right _ _)), g2, fun h x hx hxj => ?_, hq.drewN _⟩
          rcases Nat.lt_or_ge x j with h4 | h4
          · exact HSM.out h5 x hx h4
          · obtain rfl : x = j := Nat.le_antisymm (Nat.le_of_lt_succ hxj) h4
            exact g3 h
        case measure => simp [intOf]; omega
      · have hi1 : ¬ (N : Int) ≤ 5000 := by omega
        have hi2 : decide ((N : Int) ≤ 5000) = false := decide_eq_false hi1
        go_wp2_with fail
        go_ret
        exact ⟨N, rfl, hN, fun h => absurd h h5, hq⟩
    · have hi0 : ¬ (j : Int) < (l.length : Int) := by omega
      go_wp2_with fail
      go_ret
      refine ⟨N, rfl, hN, fun h => ⟨by omega, fun a ha => ?_⟩, hq⟩
      obtain ⟨x, hx, rfl⟩ := List.mem_iff_getElem.1 ha
      exact HSM.out h x hx (by omega)
def Great22 (w : World) (l : List ActT) (nr nb ns : Nat) (e : Ending) (w' : World) : Prop := ∃ b, e = .returned (.bool b) ∧ (b = false → (l.length ≤ 5000 ∧ ∀ a ∈ l, ActSmall a) ∧ nr ≤ 5000 ∧ nb ≤ 5000 ∧ ns ≤ 5000) ∧ Nw w w'
set_option maxRecDepth 100000 in
set_option maxHeartbeats 4000000 in
theorem great22_any (w : World) (F : Nat → Prop) (A Ar Ab : Option Addr) (c nr cr nb cb : Nat) (l : List ActT) (lo hi : List UInt8) (hs : Sl w F A (actsCells l)) (hl : l.length ≤ 3000000000000) (hz : ActSz l) (hlo : lo.length ≤ 140737488355328) (hhi : hi.length ≤ 140737488355328) :
    Calls Tryz.prog 14 #[.slice A l.length c, .slice Ar nr cr, .slice Ab nb cb, .agg #[StrV lo, StrV hi]] w fun e w' => Great22 w l nr nb (lo.length + hi.length) e w' := by
  obtain ⟨W0, hW0⟩ : ∃ W0, W0 = w.alloc (.cells #[StrV lo, StrV hi] 29) := ⟨_, rfl⟩
  have q0 : Nw w W0 := by rw [hW0]; exact (Fr.refl (fun _ => False) w).alloc _
  have x0 : Blk W0 w.heap.size 29 #[StrV lo, StrV hi] := by rw [hW0]; exact Blk.new w _ _
  have hs0 := str_size lo
  have hs1 := str_size hi
  have hcon := actsOf_any W0 F A c l (hs.fr q0 (fun _ _ h => h)) hl hz
  have hS : ∀ w1, Nw W0 w1 → w1.cell? ⟨w.heap.size, 0, none⟩ = some (.string ⟨lo.toArray⟩) ∧ w1.cell? ⟨w.heap.size, 1, none⟩ = some (.string ⟨hi.toArray⟩) := fun w1 f => by
    have b := x0.fr f (fun h => h)
    exact ⟨by simpa using b.cell 0, by simpa using b.cell 1⟩
  have HW0 := Lib.hid hW0
  show Calls Tryz.prog 14 #[.slice A l.length c, .slice Ar nr cr, .slice Ab nb cb, .agg #[.string ⟨lo.toArray⟩, .string ⟨hi.toArray⟩]] w fun e w' => _
  have HW0 : Hid (W0 = w.alloc (.cells #[.string ⟨lo.toArray⟩, .string ⟨hi.toArray⟩] 29)) := HW0
  generalize (⟨lo.toArray⟩ : ByteArray) = slo at hs0 hS HW0 ⊢
  generalize (⟨hi.toArray⟩ : ByteArray) = shi at hs1 hS HW0 ⊢
  clear hW0 x0 hs
  go_enter Tryz.func14, Tryz.ntmps14
  go_upto_region 1 with (fail)
  rw [← HW0.out]
  go_wp2_with fail
  refine hcon.mono ?_
  rintro e w1 ⟨N, rfl, hN, hNf, q1⟩
  obtain ⟨k0, k1⟩ := hS w1 q1
  have HN := Lib.hid hNf
  have HQ := Lib.hid (q0.tr q1)
  clear hNf hcon
  by_cases h1 : (5000 : Int) < (N : Int)
  · have d1 : decide ((5000 : Int) < (N : Int)) = true := decide_eq_true h1
    go_wp2_with fail
    go_ret
    exact ⟨true, rfl, (fun h => by cases h), HQ.out⟩
  · have d1 : decide ((5000 : Int) < (N : Int)) = false := decide_eq_false h1
    by_cases h2 : (5000 : Int) < (nr : Int)
    · have d2 : decide ((5000 : Int) < (nr : Int)) = true := decide_eq_true h2
      go_wp2_with fail
      go_ret
      exact ⟨true, rfl, (fun h => by cases h), HQ.out⟩
    · have d2 : decide ((5000 : Int) < (nr : Int)) = false := decide_eq_false h2
      by_cases h3 : (5000 : Int) < (nb : Int)
      · have d3 : decide ((5000 : Int) < (nb : Int)) = true := decide_eq_true h3
        go_wp2_with fail
        go_ret
        exact ⟨true, rfl, (fun h => by cases h), HQ.out⟩
      · have d3 : decide ((5000 : Int) < (nb : Int)) = false := decide_eq_false h3
        go_wp2_with fail
        go_ret
        refine ⟨_, rfl, fun h => ⟨HN.out (by omega), by omega, by omega, ?_⟩, HQ.out⟩
        simp at h
        omega
end Go.Proofs.YtkjnlhidnkbelaaGreatDoor
