/- The program's reader: what its exported methods do. -/
import Derived.Test.YtippdjaakcgeoaaRdB
namespace Go.Proofs.Ytippdjaakcgeoaa
open Go Go.RowKit

theorem rdnumber_any (w : World) (F : Nat → Prop) (g : Nat) (s : Rd) (h : IsRd w F g s) (most : Int) :
    Calls Try.prog 61 #[.pointer (some ⟨g, 0, none⟩), .int .i64 most] w fun e w' => e = .returned (.int .i64 (rdNum most s).1) ∧ RdTo w F g (rdNum most s).2 w' := by
  cases s with
  | some bs => exact rdnumber_some w F g bs h most
  | none =>
    go_enter Try.func61, Try.ntmps61
    go_wp2_with (go_at_call 85; refine (ron_any _ _ _ _ h).mono ?_; rintro e w' ⟨rfl, rfl⟩)
    go_ret
    exact ⟨rfl, RdTo.refl h⟩

theorem rdflag_any (w : World) (F : Nat → Prop) (g : Nat) (s : Rd) (h : IsRd w F g s) :
    Calls Try.prog 89 #[.pointer (some ⟨g, 0, none⟩)] w fun e w' => e = .returned (.bool (rdFlag s).1) ∧ RdTo w F g (rdFlag s).2 w' := by
  cases s with
  | none =>
    go_enter Try.func89, Try.ntmps89
    go_wp2_with (go_at_call 85; refine (ron_any _ _ _ _ h).mono ?_; rintro e w' ⟨rfl, rfl⟩)
    go_ret
    exact ⟨rfl, RdTo.refl h⟩
  | some bs =>
    cases bs with
    | nil =>
      go_enter Try.func89, Try.ntmps89
      go_wp2_with (go_at_call 85; refine (ron_any _ _ _ _ h).mono ?_; rintro e w' ⟨rfl, rfl⟩)
      refine (take_none _ _ _ h).mono ?_
      rintro e w1 ⟨rfl, h1⟩
      have c1 := h1.1.1.cell 1
      simp at c1
      go_wp2_with (go_at_call 87; refine (fail_any _ _ _ _ h1.1).mono ?_; rintro e w2 ⟨rfl, h2⟩)
      go_ret
      exact ⟨rfl, h1.trans h2⟩
    | cons b r =>
      have hb256 : b.toNat < 256 := b.toNat_lt
      by_cases hb : 1 < b.toNat
      · have HD := Lib.hid (show rdFlag (some (b :: r)) = (false, none) by simp [rdFlag, hb])
        go_enter Try.func89, Try.ntmps89
        go_wp2_with (go_at_call 85; refine (ron_any _ _ _ _ h).mono ?_; rintro e w' ⟨rfl, rfl⟩)
        refine (take_one _ _ _ _ _ h).mono ?_
        rintro e w1 ⟨b', o, rfl, hc, h1⟩
        obtain ⟨A, cap, hb, _⟩ := id h1.1
        have c1 := hb.cell 1
        simp at c1
        go_wp2_with (go_at_call 87; refine (fail_any _ _ _ _ h1.1).mono ?_; rintro e w2 ⟨rfl, h2⟩)
        go_ret
        rw [HD.out]
        exact ⟨rfl, h1.trans h2⟩
      · have HD := Lib.hid (show rdFlag (some (b :: r)) = (((b.toNat : Int) == 1), some r) by simp [rdFlag, hb])
        go_enter Try.func89, Try.ntmps89
        go_wp2_with (go_at_call 85; refine (ron_any _ _ _ _ h).mono ?_; rintro e w' ⟨rfl, rfl⟩)
        refine (take_one _ _ _ _ _ h).mono ?_
        rintro e w1 ⟨b', o, rfl, hc, h1⟩
        obtain ⟨A, cap, hb, _⟩ := id h1.1
        have c1 := hb.cell 1
        simp at c1
        go_wp2_with fail
        go_ret
        rw [HD.out]
        exact ⟨rfl, h1⟩

theorem newReader_any (w : World) (F : Nat → Prop) (A : Option Addr) (c : Nat) (bs : List UInt8) (hs : Sl w F A (bs.map B8)) (hsz : bs.length ≤ 1000000000000) :
    Calls Try.prog 60 #[.slice A bs.length c] w fun e w' => ∃ g F', e = .returned (.pointer (some ⟨g, 0, none⟩)) ∧ IsRd w' F' g (some bs) ∧ Fr (fun _ => False) w w' ∧ w.heap.size ≤ g ∧ ∀ k, F' k → w.heap.size ≤ k := by
  go_enter Try.func60, Try.ntmps60
  go_wp2_with (go_at_call 56; refine (clone_u8 _ _ _ _ _ hs hsz).mono ?_; rintro e w1 ⟨A', c', rfl, ho, hf, hn⟩)
  go_ret
  refine ⟨w1.heap.size, inA A', rfl, ⟨A', c', Blk.new _ _ _, ho.cap_le.1, ho.cap_le.2, ho.sl.alloc _, fun h => by have := ho.lt _ h; omega, fun k hk => by have := ho.lt k hk; simp; omega⟩, hf.alloc _, hf.size, hn⟩

theorem rdrow_any (w : World) (F : Nat → Prop) (g : Nat) (s : Rd) (h : IsRd w F g s) (most : Int) (hsz : rdLeft s ≤ 1000000000000) :
    Calls Try.prog 92 #[.pointer (some ⟨g, 0, none⟩), .int .i64 most] w fun e w' => ∃ A c, e = .returned (.slice A (rdRow most s).1.length c) ∧ Own w' 5 1 A (rdRow most s).1.length c ((rdRow most s).1.map B8) ∧ RdTo w F g (rdRow most s).2 w' ∧ ∀ k, inA A k → w.heap.size ≤ k := by
  rcases rdNum_cases most s with hn | ⟨bs, m, r, rfl, hn, hm, _, hbs⟩
  · have HD := Lib.hid (rdRow_none hn)
    have hcon := rdnumber_any _ _ _ _ h most
    rw [hn] at hcon
    clear hn
    go_enter Try.func92, Try.ntmps92
    go_wp2_with (first | (go_at_call 61; refine hcon.mono ?_; rintro e w1 ⟨rfl, h1⟩) | (go_at_call 85; refine (ron_any _ _ _ _ h1.1).mono ?_; rintro e w' ⟨rfl, rfl⟩))
    go_ret
    rw [HD.out]
    exact ⟨none, 0, rfl, Own.nil _ _ _, h1, fun k hk => (inA_none k hk).elim⟩
  · have HD := Lib.hid (rdRow_some hn)
    have hcon := rdnumber_any _ _ _ _ h most
    rw [hn] at hcon
    have hrl : r.length ≤ 1000000000000 := by
      have : rdLeft (some bs) = bs.length := rfl
      rw [this, hbs, List.length_append] at hsz
      omega
    clear hn hbs
    unfold topN at hm
    by_cases hlt : r.length < m
    · go_enter Try.func92, Try.ntmps92
      go_wp2_with fail
      refine hcon.mono ?_
      rintro e w1 ⟨rfl, h1⟩
      go_wp2_with (go_at_call 85; refine (ron_any _ _ _ _ h1.1).mono ?_; rintro e w' ⟨rfl, rfl⟩)
      refine (take_any _ _ _ _ h1.1 m).mono ?_
      intro e w2 hh
      unfold TakeTo at hh
      rw [if_pos hlt] at hh
      obtain ⟨rfl, h2⟩ := hh
      go_wp2_with (go_at_call 56; refine (clone_u8 _ (fun _ => False) none 0 [] (.inl rfl) (by decide)).mono ?_; rintro e w3 ⟨A', c', rfl, ho, hf, hfresh⟩)
      go_ret
      rw [HD.out, if_pos hlt]
      exact ⟨A', c', rfl, ho, ⟨h2.1.fr hf (fun h => h) (fun _ _ h => h), h1.2.tr (h2.2.tr (hf.mono fun _ h => h.elim))⟩, fun k hk => Nat.le_trans (Nat.le_trans h1.2.size h2.2.size) (hfresh k hk)⟩
    · go_enter Try.func92, Try.ntmps92
      go_wp2_with fail
      refine hcon.mono ?_
      rintro e w1 ⟨rfl, h1⟩
      go_wp2_with (go_at_call 85; refine (ron_any _ _ _ _ h1.1).mono ?_; rintro e w' ⟨rfl, rfl⟩)
      refine (take_any _ _ _ _ h1.1 m).mono ?_
      intro e w2 hh
      unfold TakeTo at hh
      rw [if_neg hlt] at hh
      obtain ⟨A2, rfl, h2, h3⟩ := hh
      have htl : (r.take m).length = m := by rw [List.length_take]; omega
      have hcl := clone_u8 w2 F A2 m (r.take m) h3 (by omega)
      rw [htl] at hcl
      have HT := Lib.hid htl
      clear htl
      go_wp2_with (go_at_call 56; refine hcl.mono ?_; rintro e w3 ⟨A', c', rfl, ho, hf, hfresh⟩)
      go_ret
      rw [HD.out, if_neg hlt]
      simp only [HT.out]
      exact ⟨A', c', rfl, ho, ⟨h2.1.fr hf (fun h => h) (fun _ _ h => h), h1.2.tr (h2.2.tr (hf.mono fun _ h => h.elim))⟩, fun k hk => Nat.le_trans (Nat.le_trans h1.2.size h2.2.size) (hfresh k hk)⟩
end Go.Proofs.Ytippdjaakcgeoaa
