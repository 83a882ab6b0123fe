/- The reference's writing: a number, a flag, a row as bytes. -/
import Derived.Test.YtgmcjfjdjnoljaaKitA
import Derived.Test.YtgmcjfjdjnoljaaMemB
namespace Go.Proofs.Ytgmcjfjdjnoljaa
open Go Go.RowKit

theorem info_i64 : (Try.prog.info? 3).map (fun i => (i.zero, i.size, i.bytes)) = some (some (.int .i64 0), 1, 8) := by kernel_rfl
theorem I64_one (l : List Int) : ∀ u ∈ l.map I64, u.oneCell' = true := by
  intro u hu
  obtain ⟨_, _, rfl⟩ := List.mem_map.1 hu
  rfl

theorem and127 (n : Nat) (h : n ≤ 4611686018427387903) : bits BinOp.and IntKind.i64 (n : Int) 127 = ((n % 128 : Nat) : Int) := by
  show IntKind.i64.wrap ((BitVec.ofInt 64 (n : Int) &&& BitVec.ofInt 64 ((127 : Nat) : Int)).toNat : Int) = _
  rw [BitVec.toNat_and, ofInt_i64_nat n (by omega), ofInt_i64_nat 127 (by omega), show (127 : Nat) = 2 ^ 7 - 1 from rfl, Nat.and_two_pow_sub_one_eq_mod, IntKind.wrap_i64]
  omega
theorem or128 (m : Nat) : bits BinOp.or IntKind.u8 ((UInt8.ofNat (m % 128)).toNat : Int) 128 = ((UInt8.ofNat (m % 128 + 128)).toNat : Int) := by
  have h := orByte (m % 128)
  rw [Nat.mod_mod] at h
  rw [← h, UInt8.toNat_ofNat']
  congr 1
theorem byte127 (m : Nat) : ((m % 128 : Nat) : Int) % 256 = ((UInt8.ofNat (m % 128)).toNat : Int) := lowByte (m % 128) (by omega)

theorem rnum_bad (w : World) (n : Int) (hn : n < 0 ∨ 4611686018427387903 < n) :
    Calls Try.prog 87 #[.int .i64 n] w fun e w' => e = .returned (.tuple #[.slice none 0 0, .bool false]) ∧ w = w' := by
  by_cases h0 : n < 0
  · go_enter Try.func87, Try.ntmps87
    go_wp2_with fail
    go_ret2
    exact ⟨rfl, rfl⟩
  · have h1 : 4611686018427387903 < n := by omega
    go_enter Try.func87, Try.ntmps87
    go_wp2_with fail
    go_ret2
    exact ⟨rfl, rfl⟩

/-- What was made of a number so far: all but m's bytes, and m's first seven bits. -/
def RNumRel (w : World) (n : Nat) (v out : Value) (wr : World) : Prop :=
  ∃ (m : Nat) (p : List UInt8) (g cap : Nat), v = .int .i64 (m / 128 : Nat) ∧ out = .slice (some ⟨g, 0, none⟩) (p.length + 1) cap ∧ m ≤ topN ∧ p.length + (enc m).length = (enc n).length ∧ p ++ enc m = enc n ∧
    Own wr 5 1 (some ⟨g, 0, none⟩) (p.length + 1) cap ((p ++ [UInt8.ofNat (m % 128)]).map B8) ∧ Nw w wr ∧ w.heap.size ≤ g

theorem and256 (n : Nat) (h : n ≤ 4611686018427387903) : bits BinOp.and IntKind.i64 (n : Int) 127 % 256 = ((UInt8.ofNat (n % 128)).toNat : Int) := by
  rw [and127 n h]
  exact byte127 n

set_option maxHeartbeats 1000000 in
theorem rnum_ok (w : World) (n : Nat) (hn : n ≤ 4611686018427387903) :
    Calls Try.prog 87 #[.int .i64 n] w fun e w' => ∃ A c, e = .returned (.tuple #[.slice A (enc n).length c, .bool true]) ∧ Own w' 5 1 A (enc n).length c ((enc n).map B8) ∧ Nw w w' ∧ ∀ k, inA A k → w.heap.size ≤ k := by
  go_enter Try.func87, Try.ntmps87
  go_wp2_with fail
  go_loopw [0, 4] (fun v out wr => RNumRel w n v out wr) (fun v _ _ => (intOf v).toNat)
  case atStart =>
    refine ⟨n, [], w.heap.size, 1, by go_num, rfl, hn, by simp, rfl, ?_, (Fr.refl _ w).alloc _, Nat.le_refl _⟩
    rw [and256 n hn]
    exact Own.new w 5 1 1 1 #[B8 (UInt8.ofNat (n % 128))] (Nat.le_refl _) (by decide) rfl
  case round =>
    obtain ⟨m, p, g, cap, rfl, rfl, hm, hl, he, ho, hq, hg⟩ := hrel
    have HE := Lib.hid he
    have HL := Lib.hid hl
    have hlen := enc_len n
    have hpl : p.length ≤ 9 := by omega
    clear he hl hlen
    have hm' := hm
    unfold topN at hm'
    obtain ⟨k, hk⟩ : ∃ k, m / 128 = k := ⟨_, rfl⟩
    rw [hk]
    have HK := Lib.hid hk
    have hk2 : k ≤ 4611686018427387903 := by omega
    clear hk
    by_cases hpos : 0 < k
    · have hc := ho.cellAt (k := p.length) (by omega)
      have e : ((p ++ [UInt8.ofNat (m % 128)]).map B8)[p.length]? = some (B8 (UInt8.ofNat (m % 128))) := by simp
      rw [e] at hc
      have hfz := ho.frozenAt p.length
      have hor := or128 m
      have hbk := and256 k hk2
      have hst := ho.store p.length (B8 (UInt8.ofNat (m % 128 + 128)))
      have e2 : ((p ++ [UInt8.ofNat (m % 128)]).map B8).set p.length (B8 (UInt8.ofNat (m % 128 + 128))) = (p ++ [UInt8.ofNat (m % 128 + 128)]).map B8 := by simp
      rw [e2] at hst
      have henc := enc_big m (by have := HK.out; omega) hm
      rw [HK.out] at henc
      have HN := Lib.hid henc
      clear e e2 henc
      obtain ⟨x, hx⟩ : ∃ x, UInt8.ofNat (m % 128) = x := ⟨_, rfl⟩
      obtain ⟨y, hy⟩ : ∃ y, UInt8.ofNat (m % 128 + 128) = y := ⟨_, rfl⟩
      obtain ⟨z, hz⟩ : ∃ z, UInt8.ofNat (k % 128) = z := ⟨_, rfl⟩
      rw [hx] at hor hc
      rw [hy] at hor hst HN
      rw [hz] at hbk
      have HZ := Lib.hid hz
      clear hx hy hz ho
      go_wp2_with (at_builtin; refine wl_append2 rfl _ _ _ rfl 1 (.int .u8 0) Try.underlying57 info_u8 rfl (by decide) rfl (hst.alloc _) rfl (sl_new _ _ [B8 z] _ (by simp)) rfl (B8_oneCell [z]) (by omega) (by unfold maxLen; omega) ?_; intro A' cap' w2 hap)
      have hfin : ∀ (W : World) (A' : Option Addr) (cap' : Nat) (w2 : World), Nw w W → w.heap.size ≤ W.heap.size → AppTo W 5 1 (some ⟨g, 0, none⟩) (p.length + 1) cap 1 ((p ++ [y]).map B8) [B8 z] A' cap' w2 → RNumRel w n (.int .i64 ((k : Int) / 128)) (.slice A' (p.length + 1 + 1) cap') w2 := by
        intro W A' cap' w2 hW hWs hap
        obtain ⟨ho2, _, hcase⟩ := hap
        obtain ⟨g', rfl, hg', hf⟩ : ∃ g', A' = some ⟨g', 0, none⟩ ∧ w.heap.size ≤ g' ∧ Nw w w2 := by
          rcases hcase with ⟨_, rfl, _, hf⟩ | ⟨_, rfl, hf⟩
          · exact ⟨g, rfl, hg, hW.new hf (fun b hb => by rw [(inA_some _ _).1 hb]; exact hg)⟩
          · exact ⟨_, rfl, hWs, hW.tr hf⟩
        have h1 := HL.out
        have h2 := HE.out
        rw [HN.out] at h1 h2
        refine ⟨k, p ++ [y], g', cap', by go_num, by simp, by unfold topN; omega, by simp at h1 ⊢; omega, by rw [← h2]; simp, ?_, hf, hg'⟩
        rw [HZ.out]
        simpa using ho2
      refine ⟨hfin _ _ _ _ (((hq.setCell (p := ⟨g, p.length, none⟩) (.inr hg) _).alloc _)) (by have := hq.size; simp [World.setCell]; omega) hap, ?_⟩
      simp [intOf]
      omega
    · go_wp2_with fail
      go_ret2
      have hm128 : m < 128 := by have := HK.out; omega
      have h2 := HE.out
      rw [enc_small m hm128] at h2
      have h3 : UInt8.ofNat (m % 128) = UInt8.ofNat m := by rw [Nat.mod_eq_of_lt hm128]
      rw [h3, h2] at ho
      have h4 : (enc n).length = p.length + 1 := by rw [← h2]; simp
      exact ⟨some ⟨g, 0, none⟩, cap, by rw [h4]; rfl, by rw [h4]; exact ho, hq, fun j hj => by rw [(inA_some _ _).1 hj]; exact hg⟩

/-- A row of the call's own: its bytes in a block that was not there. -/
def OwnNew (w : World) (bs : List UInt8) (v : Value) (w' : World) : Prop :=
  ∃ A c, v = .slice A bs.length c ∧ Own w' 5 1 A bs.length c (bs.map B8) ∧ ∀ k, inA A k → w.heap.size ≤ k

theorem rflag_any (w : World) (b : Bool) : Calls Try.prog 57 #[.bool b] w fun e w' => ∃ A c, e = .returned (.slice A 1 c) ∧ Own w' 5 1 A 1 c ([if b then 1 else 0].map B8) ∧ Nw w w' ∧ ∀ k, inA A k → w.heap.size ≤ k := by
  cases b
  · go_enter Try.func57, Try.ntmps57
    go_wp2_with fail
    go_ret
    exact ⟨some ⟨w.heap.size, 0, none⟩, 1, rfl, Own.new w 5 1 1 1 #[B8 0] (Nat.le_refl _) (by decide) rfl, (Fr.refl _ w).alloc _, fun k hk => by rw [(inA_some _ _).1 hk]; exact Nat.le_refl _⟩
  · go_enter Try.func57, Try.ntmps57
    go_wp2_with fail
    go_ret
    exact ⟨some ⟨w.heap.size, 0, none⟩, 1, rfl, Own.new w 5 1 1 1 #[B8 1] (Nat.le_refl _) (by decide) rfl, (Fr.refl _ w).alloc _, fun k hk => by rw [(inA_some _ _).1 hk]; exact Nat.le_refl _⟩

theorem rrow_any (w : World) (F : Nat → Prop) (A : Option Addr) (c : Nat) (bs : List UInt8) (h : Sl w F A (bs.map B8)) (hsz : bs.length ≤ 1000000000000) :
    Calls Try.prog 79 #[.slice A bs.length c] w fun e w' => ∃ A' c', e = .returned (.slice A' ((enc bs.length).length + bs.length) c') ∧ Own w' 5 1 A' ((enc bs.length).length + bs.length) c' ((enc bs.length ++ bs).map B8) ∧ Nw w w' ∧ ∀ k, inA A' k → w.heap.size ≤ k := by
  have hlen := enc_len bs.length
  go_enter Try.func79, Try.ntmps79
  go_wp2_with (first | (go_at_call 87; refine (rnum_ok _ bs.length (by omega)).mono ?_; rintro e w1 ⟨A1, c1, rfl, ho1, q1, n1⟩; have h1 := h.fr q1 (fun _ _ h => h)) | (at_builtin; refine wl_append2 rfl _ _ _ rfl 1 (.int .u8 0) Try.underlying57 info_u8 rfl (by decide) rfl ho1 rfl h1 (by simp) (B8_oneCell bs) (by omega) (by unfold maxLen; omega) ?_; intro A' cap' w2 hap))
  go_ret
  obtain ⟨ho2, _, hcase⟩ := hap
  refine ⟨A', cap', rfl, by rw [List.map_append]; exact ho2, ?_, ?_⟩
  · rcases hcase with ⟨_, rfl, _, hf⟩ | ⟨_, rfl, hf⟩
    · exact q1.new hf n1
    · exact q1.tr hf
  · intro k hk
    rcases hcase with ⟨_, rfl, _, hf⟩ | ⟨_, rfl, hf⟩
    · exact n1 k hk
    · rw [(inA_some _ _).1 hk]; exact q1.size
end Go.Proofs.Ytgmcjfjdjnoljaa
