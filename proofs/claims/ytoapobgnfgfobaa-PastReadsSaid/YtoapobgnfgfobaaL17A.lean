/- PastReads: the past that is read of any bytes, or that there is none, is what the document tells: the walk. -/
import Derived.Test.YtoapobgnfgfobaaPsL
namespace Go.Proofs.Ytoapobgnfgfobaa
open Go Go.RowKit

set_option maxRecDepth 100000 in
set_option maxHeartbeats 1000000 in
theorem reads17_walk (w : World) (A0 : Option Addr) (c0 : Nat) (bs : List UInt8) (hb : Sl w (· < w.heap.size) A0 (bs.map B8)) (hc0 : bs.length ≤ c0) (hm0 : c0 ≤ maxLen) :
    Calls Try.prog 5 #[.slice A0 bs.length c0] w fun e w' => e = .returned (.bool true) ∧ Nw w w' := by
  have hlen : bs.length ≤ 9223372036854775807 := by unfold maxLen at hm0; omega
  by_cases hgt : 1000 < bs.length
  · go_enter Try.func5, Try.ntmps5
    go_wp2_with (go_at_call 11; refine (awake17 _).mono ?_; rintro e w1 ⟨rfl, q1⟩)
    go_ret
    exact ⟨rfl, q1⟩
  · have hle : bs.length ≤ 1000 := by omega
    go_enter Try.func5, Try.ntmps5
    go_wp2_with fail
    refine (newReader_any _ _ _ _ _ hb (by omega)).mono ?_
    rintro e w1 ⟨g, F, rfl, i1, q1, l1, n1⟩
    go_wp2_with fail
    have hb2 := (hb.fr q1 (fun _ _ h => h)).alloc (.cells #[.slice A0 bs.length c0, .bool false] 65)
    have i2 : IsRR (w1.alloc (.cells #[.slice A0 bs.length c0, .bool false] 65)) (· < w.heap.size) w1.heap.size (some bs) :=
      ⟨A0, c0, Blk.new _ _ _, hc0, hm0, hb2, by have := q1.size; omega, fun k hk => by have := q1.size; simp; omega⟩
    have i1' := i1.fr (S := fun _ => False) ((Fr.refl _ w1).alloc (.cells #[.slice A0 bs.length c0, .bool false] 65)) (fun h => h) (fun _ _ h => h)
    have q2 : Nw w (w1.alloc (.cells #[.slice A0 bs.length c0, .bool false] 65)) := q1.alloc _
    have hgl := i1.lt
    have hFl := i1.out.2
    obtain ⟨gr, hgr⟩ : ∃ gr, w1.heap.size = gr := ⟨_, rfl⟩
    have HG := Lib.hid hgr
    rw [hgr] at i2 hgl ⊢
    have hsz : (w1.alloc (.cells #[.slice A0 bs.length c0, .bool false] 65)).heap.size = gr + 1 := by rw [World.size_alloc, hgr]
    have HSZ := Lib.hid hsz
    clear hsz
    generalize hW2 : w1.alloc (.cells #[.slice A0 bs.length c0, .bool false] 65) = w2 at i2 i1' q2 HSZ ⊢
    clear hW2 hgr i1
    refine (pastRead_any _ _ _ _ i1').mono ?_
    rintro e w3 ⟨i3, f3, hcase⟩
    have i4 : IsRR w3 (· < w.heap.size) gr (some bs) := i2.fr f3 (by omega) (fun k hk e => by omega)
    have q3 : Nw w w3 := q2.new f3 (fun b hb => by rw [hb]; exact l1)
    obtain ⟨ns, st, hq⟩ : ∃ ns st, rdNums 1073741824 8 (some bs) = (ns, st) := ⟨_, _, rfl⟩
    have hrr := fun (W : World) (hi : IsRR W (· < w.heap.size) gr (some bs)) => rRead_any W _ gr _ hi (by show bs.length ≤ _; omega)
    rw [hq] at hcase i3 hrr
    have HRR := Lib.hid hrr
    clear hrr hq
    simp only at hcase i3
    rcases hcase with ⟨rfl, rfl⟩ | ⟨bs2, rfl, gp, hgp, hFgp, hp, rfl⟩
    · go_wp2_with fail
      refine (HRR.out _ i4).mono ?_
      rintro e w4 ⟨i5, f5, hcase⟩
      simp only at hcase i5
      rcases hcase with ⟨_, rfl⟩ | ⟨_, h, _⟩
      rotate_left
      · cases h
      have q4 : Nw w w4 := q3.new f5 (fun b hb => by rw [hb]; have := HSZ.out; have := q1.size; omega)
      go_wp2_with fail
      refine wp_region_later (by kernel_rfl) (by kernel_rfl) ?_
      repeat (go_big_quiet_step ((go_at_call 11; exact Later.call (awake17 _))))
      refine wpQuiet_later fun w5 q5 => ?_
      go_wp2_with fail
      go_ret
      exact ⟨rfl, q4.tr q5⟩
    · go_wp2_with fail
      refine (HRR.out _ i4).mono ?_
      rintro e w4 ⟨i5, f5, hcase⟩
      simp only at hcase i5
      rcases hcase with ⟨h, _⟩ | ⟨bs3, h, gq, hgq, hFgq, hq, rfl⟩
      · cases h
      injection h with h
      subst h
      have q4 : Nw w w4 := q3.new f5 (fun b hb => by rw [hb]; have := HSZ.out; have := q1.size; omega)
      have hp4 : IsPast w4 gp ns := hp.fr f5 (by have := HSZ.out; omega)
      have i6 : IsRd w4 F g (some bs2) := i3.fr f5 (by have := HSZ.out; omega) (fun k hk e => by have := hFl k hk; have := HG.out; omega)
      obtain ⟨A5, cap5, hb5, _⟩ := i5
      have hleft : ∀ W, IsRd W F g (some bs2) → Calls Try.prog 32 #[.pointer (some ⟨g, 0, none⟩)] W fun e w' => e = .returned (.int .i64 (bs2.length : Nat)) ∧ W = w' := fun W hi => rdleft_any W F g _ hi
      have HL := Lib.hid hleft
      clear hleft
      have hc := hb5.cell 0
      simp at hc
      have d0 := fun (n : Later w4) => n.cell hc
      go_wp2_with fail
      refine wp_region_later (by kernel_rfl) (by kernel_rfl) ?_
      repeat (go_big_quiet_step ((first | (go_at_call 18; exact Later.call (same17 _ _ _ _ (hp4.fr (Later.nw _) (fun h => h)) (hq.fr (Later.nw _) (fun h => h)))) | (go_at_call 32; exact Later.same (HL.out _ (i6.fr (Later.nw _) (fun h => h) (fun _ _ h => h)))) | (go_at_call 11; exact Later.call (awake17 _)))))
      refine wpQuiet_later fun w5 q5 => ?_
      clear d0
      go_wp2_with fail
      go_ret
      exact ⟨rfl, q4.tr q5⟩
end Go.Proofs.Ytoapobgnfgfobaa
