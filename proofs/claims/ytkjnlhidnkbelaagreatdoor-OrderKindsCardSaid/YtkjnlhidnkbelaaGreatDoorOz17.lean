/- Lemmas of the walks: Gr8, ByA, ApA, ApC. (Laid together by shake.py.) -/
import Derived.Deep.DeepCutAuto
import Derived.Test.YtkjnlhidnkbelaaGreatDoorProg
import Derived.Deep.QuietTactic
import Derived.Deep.RegionHeld3
import Derived.BigQuiet
import Derived.Test.YtkjnlhidnkbelaaGreatDoorOz01
import Derived.Test.YtkjnlhidnkbelaaGreatDoorOz02
import Derived.Test.YtkjnlhidnkbelaaGreatDoorOz04
import Derived.Test.YtkjnlhidnkbelaaGreatDoorOz12
import Derived.Test.YtkjnlhidnkbelaaGreatDoorOz16
set_option linter.unusedVariables false
set_option linter.unusedSimpArgs false
/- The reference's writing: a number, a flag, a row as bytes. -/
namespace Go.Proofs.YtkjnlhidnkbelaaGreatDoor
open Go Go.RowKit

theorem and127 (n : Nat) (h : n ≤ 4611686018427387903) : bits BinOp.and IntKind.i64 (n : Int) 127 = ((n % 128 : Nat) : Int) := by
  show IntKind.i64.wrap ((BitVec.ofInt 64 (n : Int) &&& BitVec.ofInt 64 ((127 : Nat) : Int)).toNat : Int) = _
  rw [BitVec.toNat_and, ofInt_i64_nat n (by omega), ofInt_i64_nat 127 (by omega), show (127 : Nat) = 2 ^ 7 - 1 from rfl, Nat.and_two_pow_sub_one_eq_mod, IntKind.wrap_i64]
  omega
theorem or128 (m : Nat) : bits BinOp.or IntKind.u8 ((UInt8.ofNat (m % 128)).toNat : Int) 128 = ((UInt8.ofNat (m % 128 + 128)).toNat : Int) := by
  have h := orByte (m % 128)
  rw [Nat.mod_mod] at h
  rw [← h, UInt8.toNat_ofNat']
  congr 1
theorem byte127 (m : Nat) : ((m % 128 : Nat) : Int) % 256 = ((UInt8.ofNat (m % 128)).toNat : Int) := lowByte (m % 128) (by omega)

theorem rnum_bad (w : World) (n : Int) (hn : n < 0 ∨ 4611686018427387903 < n) :
    Calls Tryz.prog 111 #[.int .i64 n] w fun e w' => e = .returned (.tuple #[.slice none 0 0, .bool false]) ∧ w = w' := by
  by_cases h0 : n < 0
  · go_enter Tryz.func111, Tryz.ntmps111
    go_wp2_with fail
    go_ret2
    exact ⟨rfl, rfl⟩
  · have h1 : 4611686018427387903 < n := by omega
    go_enter Tryz.func111, Tryz.ntmps111
    go_wp2_with fail
    go_ret2
    exact ⟨rfl, rfl⟩

/-- What was made of a number so far: all but m's bytes, and m's first seven bits. -/
def RNumRel (w : World) (n : Nat) (v out : Value) (wr : World) : Prop :=
  ∃ (m : Nat) (p : List UInt8) (g cap : Nat), v = .int .i64 (m / 128 : Nat) ∧ out = .slice (some ⟨g, 0, none⟩) (p.length + 1) cap ∧ m ≤ topN ∧ p.length + (enc m).length = (enc n).length ∧ p ++ enc m = enc n ∧
    Own wr 5 1 (some ⟨g, 0, none⟩) (p.length + 1) cap ((p ++ [UInt8.ofNat (m % 128)]).map B8) ∧ Nw w wr ∧ w.heap.size ≤ g

theorem and256 (n : Nat) (h : n ≤ 4611686018427387903) : bits BinOp.and IntKind.i64 (n : Int) 127 % 256 = ((UInt8.ofNat (n % 128)).toNat : Int) := by
  rw [and127 n h]
  exact byte127 n

set_option maxHeartbeats 1000000 in
theorem rnum_ok (w : World) (n : Nat) (hn : n ≤ 4611686018427387903) :
    Calls Tryz.prog 111 #[.int .i64 n] w fun e w' => ∃ A c, e = .returned (.tuple #[.slice A (enc n).length c, .bool true]) ∧ Own w' 5 1 A (enc n).length c ((enc n).map B8) ∧ Nw w w' ∧ ∀ k, inA A k → w.heap.size ≤ k := by
  go_enter Tryz.func111, Tryz.ntmps111
  go_wp2_with fail
  go_loopw [0, 4] (fun v out wr => RNumRel w n v out wr) (fun v _ _ => (intOf v).toNat)
  case atStart =>
    refine ⟨n, [], w.heap.size, 1, by go_num, rfl, hn, by simp, rfl, ?_, (Fr.refl _ w).alloc _, Nat.le_refl _⟩
    rw [and256 n hn]
    exact Own.new w 5 1 1 1 #[B8 (UInt8.ofNat (n % 128))] (Nat.le_refl _) (by decide) rfl
  case round =>
    obtain ⟨m, p, g, cap, rfl, rfl, hm, hl, he, ho, hq, hg⟩ := hrel
    have HE := Lib.hid he
    have HL := Lib.hid hl
    have hlen := enc_len n
    have hpl : p.length ≤ 9 := by omega
    clear he hl hlen
    have hm' := hm
    unfold topN at hm'
    obtain ⟨k, hk⟩ : ∃ k, m / 128 = k := ⟨_, rfl⟩
    rw [hk]
    have HK := Lib.hid hk
    have hk2 : k ≤ 4611686018427387903 := by omega
    clear hk
    by_cases hpos : 0 < k
    · have hc := ho.cellAt (k := p.length) (by omega)
      have e : ((p ++ [UInt8.ofNat (m % 128)]).map B8)[p.length]? = some (B8 (UInt8.ofNat (m % 128))) := by simp
      rw [e] at hc
      have hfz := ho.frozenAt p.length
      have hor := or128 m
      have hbk := and256 k hk2
      have hst := ho.store p.length (B8 (UInt8.ofNat (m % 128 + 128)))
      have e2 : ((p ++ [UInt8.ofNat (m % 128)]).map B8).set p.length (B8 (UInt8.ofNat (m % 128 + 128))) = (p ++ [UInt8.ofNat (m % 128 + 128)]).map B8 := by simp
      rw [e2] at hst
      have henc := enc_big m (by have := HK.out; omega) hm
      rw [HK.out] at henc
      have HN := Lib.hid henc
      clear e e2 henc
      obtain ⟨x, hx⟩ : ∃ x, UInt8.ofNat (m % 128) = x := ⟨_, rfl⟩
      obtain ⟨y, hy⟩ : ∃ y, UInt8.ofNat (m % 128 + 128) = y := ⟨_, rfl⟩
      obtain ⟨z, hz⟩ : ∃ z, UInt8.ofNat (k % 128) = z := ⟨_, rfl⟩
      rw [hx] at hor hc
      rw [hy] at hor hst HN
      rw [hz] at hbk
      have HZ := Lib.hid hz
      clear hx hy hz ho
      go_wp2_with (at_builtin; refine wl_append2 rfl _ _ _ rfl 1 (.int .u8 0) Tryz.underlying22 info_u8 rfl (by decide) rfl (hst.alloc _) rfl (sl_new _ _ [B8 z] _ (by simp)) rfl (B8_oneCell [z]) (by omega) (by unfold maxLen; omega) ?_; intro A' cap' w2 hap)
      have hfin : ∀ (W : World) (A' : Option Addr) (cap' : Nat) (w2 : World), Nw w W → w.heap.size ≤ W.heap.size → AppTo W 5 1 (some ⟨g, 0, none⟩) (p.length + 1) cap 1 ((p ++ [y]).map B8) [B8 z] A' cap' w2 → RNumRel w n (.int .i64 ((k : Int) / 128)) (.slice A' (p.length + 1 + 1) cap') w2 := by
        intro W A' cap' w2 hW hWs hap
        obtain ⟨ho2, _, hcase⟩ := hap
        obtain ⟨g', rfl, hg', hf⟩ : ∃ g', A' = some ⟨g', 0, none⟩ ∧ w.heap.size ≤ g' ∧ Nw w w2 := by
          rcases hcase with ⟨_, rfl, _, hf⟩ | ⟨_, rfl, hf⟩
          · exact ⟨g, rfl, hg, hW.new hf (fun b hb => by rw [(inA_some _ _).1 hb]; exact hg)⟩
          · exact ⟨_, rfl, hWs, hW.tr hf⟩
        have h1 := HL.out
        have h2 := HE.out
        rw [HN.out] at h1 h2
        refine ⟨k, p ++ [y], g', cap', by go_num, by simp, by unfold topN; omega, by simp at h1 ⊢; omega, by rw [← h2]; simp, ?_, hf, hg'⟩
        rw [HZ.out]
        simpa using ho2
      refine ⟨hfin _ _ _ _ (((hq.setCell (p := ⟨g, p.length, none⟩) (.inr hg) _).alloc _)) (by have := hq.size; simp [World.setCell]; omega) hap, ?_⟩
      simp [intOf]
      omega
    · go_wp2_with fail
      go_ret2
      have hm128 : m < 128 := by have := HK.out; omega
      have h2 := HE.out
      rw [enc_small m hm128] at h2
      have h3 : UInt8.ofNat (m % 128) = UInt8.ofNat m := by rw [Nat.mod_eq_of_lt hm128]
      rw [h3, h2] at ho
      have h4 : (enc n).length = p.length + 1 := by rw [← h2]; simp
      exact ⟨some ⟨g, 0, none⟩, cap, by rw [h4]; rfl, by rw [h4]; exact ho, hq, fun j hj => by rw [(inA_some _ _).1 hj]; exact hg⟩

theorem rflag_any (w : World) (b : Bool) : Calls Tryz.prog 77 #[.bool b] w fun e w' => ∃ A c, e = .returned (.slice A 1 c) ∧ Own w' 5 1 A 1 c ([if b then 1 else 0].map B8) ∧ Nw w w' ∧ ∀ k, inA A k → w.heap.size ≤ k := by
  cases b
  · go_enter Tryz.func77, Tryz.ntmps77
    go_wp2_with fail
    go_ret
    exact ⟨some ⟨w.heap.size, 0, none⟩, 1, rfl, Own.new w 5 1 1 1 #[B8 0] (Nat.le_refl _) (by decide) rfl, (Fr.refl _ w).alloc _, fun k hk => by rw [(inA_some _ _).1 hk]; exact Nat.le_refl _⟩
  · go_enter Tryz.func77, Tryz.ntmps77
    go_wp2_with fail
    go_ret
    exact ⟨some ⟨w.heap.size, 0, none⟩, 1, rfl, Own.new w 5 1 1 1 #[B8 1] (Nat.le_refl _) (by decide) rfl, (Fr.refl _ w).alloc _, fun k hk => by rw [(inA_some _ _).1 hk]; exact Nat.le_refl _⟩

theorem rrow_any (w : World) (F : Nat → Prop) (A : Option Addr) (c : Nat) (bs : List UInt8) (h : Sl w F A (bs.map B8)) (hsz : bs.length ≤ 1000000000000) :
    Calls Tryz.prog 80 #[.slice A bs.length c] w fun e w' => ∃ A' c', e = .returned (.slice A' ((enc bs.length).length + bs.length) c') ∧ Own w' 5 1 A' ((enc bs.length).length + bs.length) c' ((enc bs.length ++ bs).map B8) ∧ Nw w w' ∧ ∀ k, inA A' k → w.heap.size ≤ k := by
  have hlen := enc_len bs.length
  go_enter Tryz.func80, Tryz.ntmps80
  go_wp2_with (first | (go_at_call 111; refine (rnum_ok _ bs.length (by omega)).mono ?_; rintro e w1 ⟨A1, c1, rfl, ho1, q1, n1⟩; have h1 := h.fr q1 (fun _ _ h => h)) | (at_builtin; refine wl_append2 rfl _ _ _ rfl 1 (.int .u8 0) Tryz.underlying22 info_u8 rfl (by decide) rfl ho1 rfl h1 (by simp) (B8_oneCell bs) (by omega) (by unfold maxLen; omega) ?_; intro A' cap' w2 hap))
  go_ret
  obtain ⟨ho2, _, hcase⟩ := hap
  refine ⟨A', cap', rfl, by rw [List.map_append]; exact ho2, ?_, ?_⟩
  · rcases hcase with ⟨_, rfl, _, hf⟩ | ⟨_, rfl, hf⟩
    · exact q1.new hf n1
    · exact q1.tr hf
  · intro k hk
    rcases hcase with ⟨_, rfl, _, hf⟩ | ⟨_, rfl, hf⟩
    · exact n1 k hk
    · rw [(inA_some _ _).1 hk]; exact q1.size
end Go.Proofs.YtkjnlhidnkbelaaGreatDoor
/- The reference's writing: a row of things as bytes. -/
namespace Go.Proofs.YtkjnlhidnkbelaaGreatDoor
open Go Go.RowKit

/-- What was written so far. -/
def OutIs (w : World) (bs : List UInt8) (v : Value) (wr : World) : Prop :=
  ∃ A c, v = .slice A bs.length c ∧ Own wr 5 1 A bs.length c (bs.map B8) ∧ Nw w wr ∧ ∀ k, inA A k → w.heap.size ≤ k
theorem OutIs.app {w wr w1 w2 : World} {bs x : List UInt8} {A : Option Addr} {c : Nat} (ho : Own wr 5 1 A bs.length c (bs.map B8)) (hq : Nw w wr) (hA : ∀ k, inA A k → w.heap.size ≤ k) (q1 : Nw wr w1) {A' : Option Addr} {c' m : Nat}
    (hm : x.length = m) (hap : AppTo w1 5 1 A bs.length c m (bs.map B8) (x.map B8) A' c' w2) : OutIs w (bs ++ x) (.slice A' (bs.length + m) c') w2 := by
  subst hm
  obtain ⟨ho2, _, hcase⟩ := hap
  refine ⟨A', c', by simp, by simpa using ho2, ?_, ?_⟩
  · rcases hcase with ⟨_, rfl, _, hf⟩ | ⟨_, rfl, hf⟩
    · exact (hq.tr q1).new hf hA
    · exact (hq.tr q1).tr hf
  · intro k hk
    rcases hcase with ⟨_, rfl, _, hf⟩ | ⟨_, rfl, hf⟩
    · exact hA k hk
    · rw [(inA_some _ _).1 hk]; exact (hq.tr q1).size

theorem Sl.drew_ {w : World} {F : Nat → Prop} {A : Option Addr} {xs : List Value} (h : Sl w F A xs) : Sl w.drew F A xs := h

def allRt (ns : List Int) : Bool := decide (∀ n ∈ ns, 0 ≤ n ∧ n ≤ 4611686018427387903)
def outAll (ns : List Int) (fs : List Bool) (ts : List ByteArray) (rs : List (List UInt8)) : Wr := wrRows rs (wrRows (ts.map (·.data.toList)) (wrFlags fs (wrNums ns ⟨true, []⟩)))
def RefTo (w : World) (ns : List Int) (fs : List Bool) (ts : List ByteArray) (rs : List (List UInt8)) (e : Ending) (w' : World) : Prop :=
  (allRt ns = false ∧ e = .returned (.tuple #[.slice none 0 0, .int .i64 2]) ∧ Nw w w') ∨
  (allRt ns = true ∧ ∃ v, e = .returned (.tuple #[v, .int .i64 0]) ∧ OutIs w (outAll ns fs ts rs).bs v w')

def RefNumRel (w : World) (ns : List Int) (out i : Value) (wr : World) : Prop := ∃ k : Nat, k ≤ ns.length ∧ i = .int .i64 k ∧ (∀ j (h : j < ns.length), j < k → 0 ≤ ns[j] ∧ ns[j] ≤ 4611686018427387903) ∧ OutIs w (wrNums (ns.take k) ⟨true, []⟩).bs out wr
def RefRel (w : World) (m : Nat) (f : Nat → Wr) (out i : Value) (wr : World) : Prop := ∃ k : Nat, k ≤ m ∧ i = .int .i64 k ∧ OutIs w (f k).bs out wr

set_option maxRecDepth 100000 in
set_option maxHeartbeats 2000000 in
theorem rwrite_any (w : World) (F0 F1 F2 F3 : Nat → Prop) (A0 A1 A2 A3 : Option Addr) (c0 c1 c2 c3 : Nat) (ns : List Int) (fs : List Bool) (ts : List ByteArray) (rs : List (List UInt8)) (vs : List Value)
    (h0 : Sl w F0 A0 (ns.map I64)) (h1 : Sl w F1 A1 (fs.map Value.bool)) (h2 : Sl w F2 A2 (ts.map Value.string)) (h3 : Sl w F3 A3 vs) (hrs : RowsV w F3 vs rs)
    (hl0 : ns.length ≤ 10000000000) (hl1 : fs.length ≤ 10000000000) (hl2 : 9 * ts.length + rowsLen (ts.map (·.data.toList)) ≤ 100000000000) (hl3 : 9 * rs.length + rowsLen rs ≤ 100000000000) :
    Calls Tryz.prog 110 #[.slice A0 ns.length c0, .slice A1 fs.length c1, .slice A2 ts.length c2, .slice A3 rs.length c3] w (RefTo w ns fs ts rs) := by
  have hconv := fun (w : World) (s : ByteArray) => run_bytes_of_string (P := Tryz.prog) w 9 22 5 s Tryz.underlying9 Tryz.underlying22 Tryz.underlying5
  go_enter Tryz.func110, Tryz.ntmps110
  go_wp2_with fail
  go_loopw [10, 11] (fun out i wr => RefNumRel w ns out i wr) (fun _ i _ => ns.length - (intOf i).toNat)
  case atStart => exact ⟨0, Nat.zero_le _, rfl, fun _ _ h => by omega, ⟨none, 0, rfl, Own.nil _ _ _, Fr.refl _ _, fun k hk => (inA_none k hk).elim⟩⟩
  case round =>
    obtain ⟨k, hk, rfl, hok, A, c, rfl, ho, hq, hA⟩ := hrel
    have HK := Lib.hid hok
    clear hok
    by_cases hlt : k < ns.length
    · obtain ⟨b, o, rfl, _, hc⟩ := (h0.fr hq (fun _ _ h => h)).get hlt
      have hlen := wrNums_len (ns.take k) ⟨true, []⟩
      rw [List.length_take] at hlen
      have hsm : (wrNums (ns.take k) ⟨true, []⟩).bs.length ≤ 100000000000 := by
        have : ([] : List UInt8).length = 0 := rfl
        simp only [List.length_nil] at hlen
        omega
      clear hlen
      have hsucc := wrNums_succ ns k hlt ⟨true, []⟩
      by_cases hx : 0 ≤ ns[k] ∧ ns[k] ≤ 4611686018427387903
      · obtain ⟨x, hxx⟩ : ∃ x : Nat, ns[k] = (x : Int) := ⟨ns[k].toNat, by omega⟩
        have hx4 : x ≤ 4611686018427387903 := by omega
        have hb : (wrNums (ns.take (k + 1)) ⟨true, []⟩).bs = (wrNums (ns.take k) ⟨true, []⟩).bs ++ enc x := by
          rw [hsucc, hxx]
          unfold wrNum
          rw [if_neg (by unfold topN; omega)]
          simp
        rw [hxx] at hc
        have HB := Lib.hid hb
        have HX := Lib.hid hx
        have he9 := enc_len x
        clear hb hsucc hx hxx
        go_wp2_with (first | (go_at_call 111; refine (rnum_ok _ x hx4).mono ?_; rintro e w1 ⟨A1, c1, rfl, ho1, q1, n1⟩) | (at_builtin; refine wl_append2 rfl _ _ _ rfl 1 (.int .u8 0) Tryz.underlying22 info_u8 rfl (by decide) rfl (ho.fr q1 (fun _ _ h => h)) rfl ho1.sl (by simp) (B8_oneCell (enc x)) (by omega) (by unfold maxLen; omega) ?_; intro A' cap' w2 hap))
        go_roundw
        case rel =>
          refine ⟨k + 1, by omega, by go_num, fun j hj hjk => ?_, ?_⟩
          · by_cases hjk2 : j < k
            · exact HK.out j hj hjk2
            · obtain rfl : j = k := by omega
              exact HX.out
          · rw [HB.out]
            exact OutIs.app ho hq hA q1 rfl hap
        case measure => simp [intOf]; omega
      · have hbad : ns[k] < 0 ∨ 4611686018427387903 < ns[k] := by omega
        have hall : allRt ns = false := decide_eq_false fun h => hx (h _ (List.getElem_mem hlt))
        have HA := Lib.hid hall
        have HBD := Lib.hid hbad
        clear hsucc hx hbad hall
        go_wp2_with (first | (go_at_call 111; refine (rnum_bad _ _ HBD.out).mono ?_; rintro e w1 ⟨rfl, rfl⟩))
        go_ret2
        exact .inl ⟨HA.out, rfl, hq⟩
    · have hall : allRt ns = true := decide_eq_true fun x hx => by
        obtain ⟨j, hj, rfl⟩ := List.mem_iff_getElem.1 hx
        exact HK.out j hj (by omega)
      have HA := Lib.hid hall
      clear hall HK
      have e : ns.take k = ns := List.take_of_length_le (by omega)
      rw [e] at ho ⊢
      clear e
      have hlen1 := wrNums_len ns ⟨true, []⟩
      have hs1 : (wrNums ns ⟨true, []⟩).bs.length ≤ 100000000000 := by simp only [List.length_nil] at hlen1; omega
      clear hlen1
      obtain ⟨s1, hs1e⟩ : ∃ s1, wrNums ns ⟨true, []⟩ = s1 := ⟨_, rfl⟩
      rw [hs1e] at ho hs1 ⊢
      have HS1 := Lib.hid hs1e
      clear hs1e
      go_wp2_with fail
      go_loopw [10, 14] (fun out i wr => RefRel w fs.length (fun k => wrFlags (fs.take k) s1) out i wr) (fun _ i _ => fs.length - (intOf i).toNat)
      case atStart => exact ⟨0, Nat.zero_le _, rfl, ⟨A, c, rfl, ho, hq, hA⟩⟩
      case round =>
        clear ho hq hA
        obtain ⟨k, hk, rfl, hout⟩ := hrel
        change OutIs w (wrFlags (fs.take k) s1).bs _ _ at hout
        obtain ⟨A, c, rfl, ho, hq, hA⟩ := hout
        by_cases hlt : k < fs.length
        · obtain ⟨b, o, rfl, _, hc⟩ := (h1.fr hq (fun _ _ h => h)).get hlt
          have hlen := wrFlags_len (fs.take k) s1
          rw [List.length_take] at hlen
          have hsm : (wrFlags (fs.take k) s1).bs.length ≤ 200000000000 := by omega
          clear hlen
          have hb : (wrFlags (fs.take (k + 1)) s1).bs = (wrFlags (fs.take k) s1).bs ++ [if fs[k] then 1 else 0] := by
            rw [wrFlags_succ fs k hlt s1]
            rfl
          have HB := Lib.hid hb
          clear hb
          go_wp2_with (first | (go_at_call 77; refine (rflag_any _ fs[k]).mono ?_; rintro e w1 ⟨A1, c1, rfl, ho1, q1, n1⟩) | (at_builtin; refine wl_append2 rfl _ _ _ rfl 1 (.int .u8 0) Tryz.underlying22 info_u8 rfl (by decide) rfl (ho.fr q1 (fun _ _ h => h)) rfl ho1.sl (by simp) (B8_oneCell _) (by omega) (by unfold maxLen; omega) ?_; intro A' cap' w2 hap))
          go_roundw
          case rel =>
            refine ⟨k + 1, by omega, by go_num, ?_⟩
            show OutIs w (wrFlags (fs.take (k + 1)) s1).bs _ _
            rw [HB.out]
            exact OutIs.app ho hq hA q1 rfl hap
          case measure => simp [intOf]; omega
        · have e : fs.take k = fs := List.take_of_length_le (by omega)
          rw [e] at ho ⊢
          clear e
          have hlen1 := wrFlags_len fs s1
          have hs2 : (wrFlags fs s1).bs.length ≤ 200000000000 := by omega
          clear hlen1
          obtain ⟨s2, hs2e⟩ : ∃ s2, wrFlags fs s1 = s2 := ⟨_, rfl⟩
          rw [hs2e] at ho hs2 ⊢
          have HS2 := Lib.hid hs2e
          clear hs2e
          go_wp2_with fail
          go_loopw [10, 15] (fun out i wr => RefRel w ts.length (fun k => wrRows ((ts.map (·.data.toList)).take k) s2) out i wr) (fun _ i _ => ts.length - (intOf i).toNat)
          case atStart => exact ⟨0, Nat.zero_le _, rfl, ⟨A, c, rfl, ho, hq, hA⟩⟩
          case round =>
            clear ho hq hA
            obtain ⟨k, hk, rfl, hout⟩ := hrel
            change OutIs w (wrRows ((ts.map (·.data.toList)).take k) s2).bs _ _ at hout
            obtain ⟨A, c, rfl, ho, hq, hA⟩ := hout
            by_cases hlt : k < ts.length
            · obtain ⟨b, o, rfl, _, hc⟩ := (h2.fr hq (fun _ _ h => h)).get hlt
              have hlt' : k < (ts.map (·.data.toList)).length := by simpa using hlt
              have hlen := wrRows_len ((ts.map (·.data.toList)).take k) s2
              rw [List.length_take, List.length_map] at hlen
              have hle := rowsLen_get _ k hlt'
              have hx : (ts.map (·.data.toList))[k] = ts[k].data.toList := by simp
              rw [hx] at hle
              have hsm : (wrRows ((ts.map (·.data.toList)).take k) s2).bs.length + ts[k].size ≤ 400000000000 := by have := bytes_size ts[k]; omega
              have hsz : ts[k].size ≤ 100000000000 := by have := bytes_size ts[k]; omega
              clear hlen hle
              have hb : (wrRows ((ts.map (·.data.toList)).take (k + 1)) s2).bs = (wrRows ((ts.map (·.data.toList)).take k) s2).bs ++ (enc ts[k].data.toList.length ++ ts[k].data.toList) := by
                rw [wrRows_succ _ k hlt' s2, hx]
                rfl
              have HB := Lib.hid hb
              clear hb hx
              have hbl : ts[k].data.toList.length = ts[k].size := rfl
              have he9 := enc_len ts[k].data.toList.length
              go_wp2_with fail
              generalize hcap : grownCap wr ts[k].size 0 5 = cp
              have hlb : ts[k].size ≤ cp := hcap ▸ grownCap_ge _ _ _ _
              clear hcap
              have hrow := fun W (hs : Sl W (· = wr.heap.size) (some ⟨wr.heap.size, 0, none⟩) (ts[k].data.toList.map B8)) => rrow_any W (· = wr.heap.size) (some ⟨wr.heap.size, 0, none⟩) cp ts[k].data.toList hs (by rw [hbl]; omega)
              rw [hbl] at hrow he9 HB
              have hxl : (enc ts[k].size ++ ts[k].data.toList).length = (enc ts[k].size).length + ts[k].size := by rw [List.length_append, hbl]
              obtain ⟨x, hx⟩ : ∃ x, enc ts[k].size ++ ts[k].data.toList = x := ⟨_, rfl⟩
              obtain ⟨m, hm⟩ : ∃ m, (enc ts[k].size).length = m := ⟨_, rfl⟩
              rw [hx, hm] at hrow hxl
              rw [hx] at HB
              rw [hm] at he9
              have HX := Lib.hid hxl
              have HR := Lib.hid hrow
              clear hrow hbl hx hm hxl
              refine (HR.out _ (Sl.drew_ (string_sl wr ts[k] cp 5 _))).mono ?_
              rintro e w1 ⟨A1, c1, rfl, ho1, q1, n1⟩
              have q0 : Nw wr w1 := (((Fr.refl _ wr).alloc _).drew).tr q1
              go_wp2_with (at_builtin; refine wl_append2 rfl _ _ _ rfl 1 (.int .u8 0) Tryz.underlying22 info_u8 rfl (by decide) rfl (ho.fr q0 (fun _ _ h => h)) rfl ho1.sl (by rw [List.length_map, HX.out, Nat.mul_one]) (B8_oneCell x) (by omega) (by unfold maxLen; omega) ?_; intro A' cap' w2 hap)
              go_roundw
              case rel =>
                refine ⟨k + 1, by omega, by go_num, ?_⟩
                show OutIs w (wrRows ((ts.map (·.data.toList)).take (k + 1)) s2).bs _ _
                rw [HB.out]
                exact OutIs.app ho hq hA q0 HX.out hap
              case measure => simp [intOf]; omega
            · have e : (ts.map (·.data.toList)).take k = ts.map (·.data.toList) := List.take_of_length_le (by simp; omega)
              rw [e] at ho ⊢
              clear e
              have hlen1 := wrRows_len (ts.map (·.data.toList)) s2
              rw [List.length_map] at hlen1
              have hs3 : (wrRows (ts.map (·.data.toList)) s2).bs.length ≤ 400000000000 := by omega
              clear hlen1
              obtain ⟨s3, hs3e⟩ : ∃ s3, wrRows (ts.map (·.data.toList)) s2 = s3 := ⟨_, rfl⟩
              rw [hs3e] at ho hs3 ⊢
              have HS3 := Lib.hid hs3e
              clear hs3e
              go_wp2_with fail
              go_loopw [10, 16] (fun out i wr => RefRel w rs.length (fun k => wrRows (rs.take k) s3) out i wr) (fun _ i _ => rs.length - (intOf i).toNat)
              case atStart => exact ⟨0, Nat.zero_le _, rfl, ⟨A, c, rfl, ho, hq, hA⟩⟩
              case round =>
                clear ho hq hA
                obtain ⟨k, hk, rfl, hout⟩ := hrel
                change OutIs w (wrRows (rs.take k) s3).bs _ _ at hout
                obtain ⟨A, c, rfl, ho, hq, hA⟩ := hout
                by_cases hlt : k < rs.length
                · have hlen := wrRows_len (rs.take k) s3
                  rw [List.length_take] at hlen
                  have hle := rowsLen_get rs k hlt
                  have hsm : (wrRows (rs.take k) s3).bs.length + rs[k].length ≤ 600000000000 := by omega
                  have hsz : rs[k].length ≤ 100000000000 := by omega
                  clear hlen hle
                  have hb : (wrRows (rs.take (k + 1)) s3).bs = (wrRows (rs.take k) s3).bs ++ (enc rs[k].length ++ rs[k]) := by
                    rw [wrRows_succ _ k hlt s3]
                    rfl
                  have HB := Lib.hid hb
                  clear hb
                  have he9 := enc_len rs[k].length
                  obtain ⟨v, hv, A6, c6, rfl, hcl1, hcl2, hs6⟩ := (hrs.fr hq (fun _ _ h => h)).2 k hlt
                  obtain ⟨b, o, rfl, _, _, hcs⟩ := (h3.fr hq (fun _ _ h => h)).at_ (by rintro rfl; simp at hv)
                  have hc := hcs k _ hv
                  clear hcs hv
                  have hrow := fun (W : World) (hs : Sl W F3 A6 (rs[k].map B8)) => rrow_any W F3 A6 c6 rs[k] hs (by omega)
                  have hxl : (enc rs[k].length ++ rs[k]).length = (enc rs[k].length).length + rs[k].length := List.length_append
                  obtain ⟨x, hx⟩ : ∃ x, enc rs[k].length ++ rs[k] = x := ⟨_, rfl⟩
                  obtain ⟨m, hm⟩ : ∃ m, (enc rs[k].length).length = m := ⟨_, rfl⟩
                  rw [hx, hm] at hrow hxl
                  rw [hx] at HB
                  rw [hm] at he9
                  have HX := Lib.hid hxl
                  have HR := Lib.hid hrow
                  clear hrow hx hm hxl
                  go_wp2_with (first | (go_at_call 80; refine (HR.out _ hs6).mono ?_; rintro e w1 ⟨A1, c1, rfl, ho1, q1, n1⟩) | (at_builtin; refine wl_append2 rfl _ _ _ rfl 1 (.int .u8 0) Tryz.underlying22 info_u8 rfl (by decide) rfl (ho.fr q1 (fun _ _ h => h)) rfl ho1.sl (by rw [List.length_map, HX.out, Nat.mul_one]) (B8_oneCell x) (by omega) (by unfold maxLen; omega) ?_; intro A' cap' w2 hap))
                  go_roundw
                  case rel =>
                    refine ⟨k + 1, by omega, by go_num, ?_⟩
                    show OutIs w (wrRows (rs.take (k + 1)) s3).bs _ _
                    rw [HB.out]
                    exact OutIs.app ho hq hA q1 HX.out hap
                  case measure => simp [intOf]; omega
                · have e : rs.take k = rs := List.take_of_length_le (by omega)
                  rw [e] at ho ⊢
                  clear e
                  go_wp2_with fail
                  go_ret2
                  refine .inr ⟨HA.out, _, rfl, ?_⟩
                  unfold outAll
                  rw [HS1.out, HS2.out, HS3.out]
                  exact ⟨A, c, rfl, ho, hq, hA⟩
end Go.Proofs.YtkjnlhidnkbelaaGreatDoor
/- Orders, by the document: numbers, texts, rows as bytes. -/
namespace Go.Proofs.YtkjnlhidnkbelaaGreatDoor
open Go Go.RowKit
set_option linter.unusedVariables false
set_option linter.unusedSimpArgs false

theorem OutIs.back {w w1 w2 : World} {bs : List UInt8} {v : Value} (h : OutIs w1 bs v w2) (q : Nw w w1) : OutIs w bs v w2 := by
  obtain ⟨A, c, hv, ho, hq, hA⟩ := h
  exact ⟨A, c, hv, ho, q.tr hq, fun k hk => Nat.le_trans q.size (hA k hk)⟩
set_option maxRecDepth 100000 in
theorem xnumbers_any (w : World) (F : Nat → Prop) (A : Option Addr) (c n : Nat) (ns : List Int) (h : Sl w F A (ns.map I64)) (hn : ns.length = n) (hl : n ≤ 10) (hr : ∀ x ∈ ns, Right x) :
    Calls Tryz.prog 75 #[.slice A n c] w fun e w' => ∃ v, e = .returned v ∧ OutIs w (encAll ns) v w' := by
  subst hn
  have hw := rwrite_any w F (fun _ => False) (fun _ => False) (fun _ => False) A none none none c 0 0 0 ns [] [] [] [] h (Sl.nil _ _ _) (Sl.nil _ _ _) (Sl.nil _ _ _) ⟨rfl, fun k hk => absurd hk (Nat.not_lt_zero _)⟩ (by omega) (by simp) (by simp [rowsLen]) (by simp [rowsLen])
  have hal : allRt ns = true := decide_eq_true fun x hx => by have := hr x hx; unfold Right topN at this; omega
  have hob : (outAll ns [] [] []).bs = encAll ns := by
    unfold outAll
    rw [wrNums_right _ _ hr]
    rfl
  go_enter Tryz.func75, Tryz.ntmps75
  go_wp2_with fail
  refine hw.mono ?_
  rintro e w1 h
  rcases h with ⟨h1, _⟩ | ⟨_, v, rfl, ho⟩
  · rw [hal] at h1; cases h1
  go_wp2_with fail
  go_ret
  exact ⟨_, rfl, by rw [← hob]; exact ho⟩
set_option maxRecDepth 100000 in
theorem xtext_any (w : World) (s : List UInt8) (hs : s.length ≤ 1000) :
    Calls Tryz.prog 79 #[StrV s] w fun e w' => ∃ v, e = .returned v ∧ OutIs w (rowB s) v w' := by
  have hconv := fun (w : World) (s : ByteArray) => run_bytes_of_string (P := Tryz.prog) w 9 22 5 s Tryz.underlying9 Tryz.underlying22 Tryz.underlying5
  have hsz : (⟨s.toArray⟩ : ByteArray).size = s.length := by simp [ByteArray.size]
  have hsl := fun cp => string_sl w ⟨s.toArray⟩ cp 5 ((bytesRow ⟨s.toArray⟩ cp).size, (bytesRow ⟨s.toArray⟩ cp).size + 1)
  have hrow := fun w1 cp (h : Sl w1 (· = w.heap.size) (some ⟨w.heap.size, 0, none⟩) (s.map B8)) => rrow_any w1 (· = w.heap.size) (some ⟨w.heap.size, 0, none⟩) cp s h (by omega)
  rw [← hsz] at hrow
  go_enter Tryz.func79, Tryz.ntmps79
  go_wp2_with fail
  generalize grownCap w _ 0 5 = cp
  refine (hrow _ cp (Sl.drew_ (hsl cp))).mono ?_
  rintro e w1 ⟨A1, c1, rfl, ho, q1, n1⟩
  go_wp2_with fail
  go_ret
  rw [hsz] at ho
  have e1 : ((enc s.length).length + s.length) = (rowB s).length := by unfold rowB; rw [List.length_append]
  rw [e1] at ho
  refine ⟨_, rfl, A1, c1, ?_, ho, (((Fr.refl _ w).alloc _).drew).tr q1, fun k hk => Nat.le_trans (((Fr.refl (fun _ => False) w).alloc _).drew).size (n1 k hk)⟩
  rw [← e1]; rfl
theorem xflag_any (w : World) (b : Bool) : Calls Tryz.prog 77 #[.bool b] w fun e w' => ∃ v, e = .returned v ∧ OutIs w (flagB b) v w' := by
  refine (rflag_any w b).mono ?_
  rintro e w1 ⟨A, c, rfl, ho, hq, hA⟩
  exact ⟨_, rfl, A, c, rfl, ho, hq, hA⟩
theorem xrow_any (w : World) (F : Nat → Prop) (A : Option Addr) (c : Nat) (s : List UInt8) (h : Sl w F A (s.map B8)) (hs : s.length ≤ 1000000) : Calls Tryz.prog 80 #[.slice A s.length c] w fun e w' => ∃ v, e = .returned v ∧ OutIs w (rowB s) v w' := by
  refine (rrow_any w F A c s h (by omega)).mono ?_
  rintro e w1 ⟨A1, c1, rfl, ho, q1, n1⟩
  have e1 : ((enc s.length).length + s.length) = (rowB s).length := by unfold rowB; rw [List.length_append]
  rw [e1] at ho ⊢
  exact ⟨_, rfl, A1, c1, rfl, ho, q1, n1⟩
def XbRel (w : World) (f : Nat → List UInt8) (n : Nat) (out i : Value) (wr : World) : Prop := ∃ k : Nat, k ≤ n ∧ i = .int .i64 k ∧ OutIs w (f k) out wr
theorem xflat_len (rows : List (List UInt8)) : rows.flatten.length = rowsLen rows := by
  unfold rowsLen
  rw [List.length_flatten]
theorem xrowsLen_take (rows : List (List UInt8)) (k : Nat) : rowsLen (rows.take k) ≤ rowsLen rows := by
  unfold rowsLen
  conv => rhs; rw [← List.take_append_drop k rows, List.map_append, List.sum_append]
  omega
theorem xrowsLen_at (rows : List (List UInt8)) (k : Nat) (h : k < rows.length) : rows[k].length ≤ rowsLen rows := by
  have h1 := xrowsLen_take rows (k + 1)
  have h2 : rowsLen (rows.take (k + 1)) = rowsLen (rows.take k) + rows[k].length := by
    unfold rowsLen
    rw [List.take_succ_eq_append_getElem h, List.map_append, List.sum_append]
    simp
  omega
set_option maxRecDepth 100000 in
set_option maxHeartbeats 2000000 in
theorem xall_any (w : World) (F : Nat → Prop) (A : Option Addr) (c : Nat) (vs : List Value) (rows : List (List UInt8)) (hs : Sl w F A vs) (hrs : RowsV w F vs rows) (hl : rows.length ≤ 1000) (hz : rowsLen rows ≤ 10000000) :
    Calls Tryz.prog 74 #[.slice A rows.length c] w fun e w' => ∃ v, e = .returned v ∧ OutIs w rows.flatten v w' := by
  obtain ⟨n, hn⟩ : ∃ n, n = rows.length := ⟨_, rfl⟩
  rw [← hn] at hl ⊢
  have HN := Lib.hid hn
  clear hn
  go_enter Tryz.func74, Tryz.ntmps74
  go_wp2_with fail
  go_loopw [3, 4] (fun o i wx => XbRel w (fun k => (rows.take k).flatten) n o i wx) (fun _ i _ => n - (intOf i).toNat)
  case atStart => exact ⟨0, Nat.zero_le _, rfl, none, 0, rfl, Own.nil _ _ _, Fr.refl _ _, fun k hk => (inA_none k hk).elim⟩
  case round =>
    obtain ⟨k, hk, rfl, A0, c0, rfl, ho, hq, hA⟩ := hrel
    have hz1 := xrowsLen_take rows k
    rw [← xflat_len] at hz1
    obtain ⟨bs, hbs⟩ : ∃ bs, (rows.take k).flatten = bs := ⟨_, rfl⟩
    simp only [hbs] at ho hz1 ⊢
    obtain ⟨n0, hn0⟩ : ∃ n0, bs.length = n0 := ⟨_, rfl⟩
    rw [hn0] at ho hz1 ⊢
    have HN0 := Lib.hid hn0
    have HB := Lib.hid hbs
    clear hn0
    by_cases hlt : k < n
    · have hkl : k < rows.length := by rw [← HN.out]; exact hlt
      have hne : vs ≠ [] := fun e => by have := hrs.1; rw [e] at this; simp at this; omega
      obtain ⟨b, of, rfl, hFb, _, hc⟩ := (hs.fr hq (fun _ _ h => h)).at_ hne
      obtain ⟨v, hv, Ak, ck, rfl, hk1, hk2, hsk⟩ := (hrs.fr hq (fun _ _ h => h)).2 k hkl
      have hcell := hc k _ hv
      have hz2 := xrowsLen_at rows k hkl
      have hsn : (rows.take (k + 1)).flatten = (rows.take k).flatten ++ rows[k] := by
        rw [List.take_succ_eq_append_getElem hkl, List.flatten_append]
        simp
      obtain ⟨x, hx⟩ : ∃ x, rows[k] = x := ⟨_, rfl⟩
      rw [hx] at hcell hsk hk1 hz2 hsn
      rw [hbs] at hsn
      have HS := Lib.hid hsn
      obtain ⟨m0, hm0⟩ : ∃ m0, x.length = m0 := ⟨_, rfl⟩
      rw [hm0] at hcell hk1 hz2
      have hbl : n0 ≤ 10000000 := by omega
      have hml : m0 ≤ 10000000 := by omega
      have HM0 := Lib.hid hm0
      clear hc hv hx hbs hsn hne
      go_wp2_with (at_builtin; refine wl_append2 rfl _ _ _ rfl 1 (.int .u8 0) Tryz.underlying22 info_u8 rfl (by decide) rfl ho rfl hsk (by simp [hm0]) (B8_oneCell _) (by omega) (by unfold maxLen; omega) ?_; intro A' cap' w2 hap)
      go_roundw
      case rel =>
        refine ⟨k + 1, by omega, rfl, ?_⟩
        simp only [HS.out]
        have hh := HN0.out
        rw [← hh] at ho hap ⊢
        exact OutIs.app ho hq hA (Fr.refl _ _) HM0.out hap
      case measure => simp [intOf]; omega
    · go_wp2_with fail
      go_ret
      have hkn : k = rows.length := by have := HN.out; omega
      have e := HB.out
      rw [hkn, List.take_length] at e
      rw [e]
      have e2 := HN0.out
      exact ⟨_, rfl, A0, c0, by rw [e2]; rfl, by rw [e2]; exact ho, hq, hA⟩
/-- What is told of an operation that made something. -/
structure Fact where
  k : Nat
  φ : Nat × Option Addr → World → Prop
def RfC (W : World) (fs : List Fact) (L : Nat → Bool) (B : Bk) (w : World) : Prop := Nw W w ∧ ∀ f ∈ fs, L f.k = true → f.φ (B f.k) w
def bytesF (W : World) (k : Nat) (bs : List UInt8) : Fact := ⟨k, fun b w => Sl w (fun j => W.heap.size ≤ j) b.2 (bs.map B8) ∧ bs.length ≤ b.1 ∧ b.1 ≤ maxLen⟩
def blkF (W : World) (k : Nat) (t : TypeId) (cs : Array Value) : Fact := ⟨k, fun b w => Blk w b.1 t cs ∧ W.heap.size ≤ b.1⟩
def rowsF (W : World) (k : Nat) (t : TypeId) (rows : List (List UInt8)) (F : Nat → Prop) : Fact := ⟨k, fun b w => ∃ cs, Blk w b.1 t cs ∧ RowsV w F cs.toList rows⟩
def Lasts (fs : List Fact) : Prop := ∀ f ∈ fs, ∀ b w w', f.φ b w → Nw w w' → f.φ b w'
theorem bytesF_lasts (W : World) (k : Nat) (bs : List UInt8) : ∀ b w w', (bytesF W k bs).φ b w → Nw w w' → (bytesF W k bs).φ b w' := fun _ _ _ h q => ⟨h.1.fr q (fun _ _ h => h), h.2⟩
theorem blkF_lasts (W : World) (k : Nat) (t : TypeId) (cs : Array Value) : ∀ b w w', (blkF W k t cs).φ b w → Nw w w' → (blkF W k t cs).φ b w' := fun _ _ _ h q => ⟨h.1.fr q (fun h => h), h.2⟩
theorem rowsF_lasts (W : World) (k : Nat) (t : TypeId) (rows : List (List UInt8)) (F : Nat → Prop) : ∀ b w w', (rowsF W k t rows F).φ b w → Nw w w' → (rowsF W k t rows F).φ b w' := fun _ _ _ ⟨cs, h1, h2⟩ q => ⟨cs, h1.fr q (fun h => h), h2.fr q (fun _ _ h => h)⟩
section
variable {W w w' : World} {fs : List Fact} {L : Nat → Bool} {B : Bk}
theorem RfC.nw (h : RfC W fs L B w) : Nw W w := h.1
theorem RfC.keep (h : RfC W fs L B w) (j : Nat) (hj : fs.all (fun f => f.k != j) = true) : RfC W fs (onL L j) B w :=
  ⟨h.1, fun f hf hl => h.2 f hf (by
    have := List.all_eq_true.1 hj f hf
    rw [bne_iff_ne] at this
    rwa [show onL L j f.k = L f.k from if_neg this] at hl)⟩
theorem RfC.put (h : RfC W fs L B w) (hlast : Lasts fs) (q : Nw w w') (k : Nat) (b : Nat × Option Addr) (hk : ∀ f ∈ fs, f.k = k → f.φ b w') : RfC W fs (onL L k) (updB B k b) w' :=
  ⟨h.1.tr q, fun f hf hl => by
    by_cases e : f.k = k
    · rw [show updB B k b f.k = b from if_pos e]
      exact hk f hf e
    · rw [show onL L k f.k = L f.k from if_neg e] at hl
      rw [show updB B k b f.k = B f.k from if_neg e]
      exact hlast f hf _ _ _ (h.2 f hf hl) q⟩
theorem RfC.get (h : RfC W fs L B w) (i : Nat) (f : Fact) (hi : fs[i]? = some f) (hl : L f.k = true) : f.φ (B f.k) w := h.2 f (List.mem_of_getElem? hi) hl
/-- A call that tells bytes. -/
theorem outB {W w w2 : World} {bs : List UInt8} {v : Value} (q : Nw W w) (h : OutIs w bs v w2) : ∃ b : Nat × Option Addr, v = .slice b.2 bs.length b.1 ∧ Nw w w2 ∧ Sl w2 (fun j => W.heap.size ≤ j) b.2 (bs.map B8) ∧ bs.length ≤ b.1 ∧ b.1 ≤ maxLen := by
  obtain ⟨A, c, hv, ho, hq, hA⟩ := h
  have hc := ho.cap_le
  refine ⟨(c, A), hv, hq, (ho.sl).mono (fun k hk _ => Nat.le_trans q.size (hA k hk)), by simpa using hc.1, by simpa using hc.2⟩
end
end Go.Proofs.YtkjnlhidnkbelaaGreatDoor

namespace Go.Proofs.YtkjnlhidnkbelaaGreatDoor
open Go Go.RowKit

section
variable {P : Program} {E : TypeId} {size n cap : Nat} {A : Option Addr} {cs : List Value} {F : Nat → Prop}
end

def KnownNw (w : World) (n : Nat) (i : Value) (wx : World) : Prop := ∃ k : Nat, k ≤ n ∧ i = .int .i64 k ∧ Nw w wx
/-- What an append to a slice of new memory leaves. -/
theorem AppTo.newOwn {w0 w w' : World} {E : TypeId} {size n cap m : Nat} {A A' : Option Addr} {cap' : Nat} {cs news : List Value} (h : AppTo w E size A n cap m cs news A' cap' w') (hq : Nw w0 w) (hA : ∀ k, inA A k → w0.heap.size ≤ k) :
    Own w' E size A' (n + m) cap' (cs ++ news) ∧ Nw w0 w' ∧ (∀ k, inA A' k → w0.heap.size ≤ k) := by
  obtain ⟨ho2, _, hcase⟩ := h
  refine ⟨ho2, ?_, ?_⟩
  · rcases hcase with ⟨_, rfl, _, hf⟩ | ⟨_, rfl, hf⟩
    · exact hq.new hf hA
    · exact hq.tr hf
  · intro k hk
    rcases hcase with ⟨_, rfl, _, hf⟩ | ⟨_, rfl, hf⟩
    · exact hA k hk
    · rw [(inA_some _ _).1 hk]; exact hq.size

theorem AppTo.fr {w w' : World} {E : TypeId} {size n cap m : Nat} {A A' : Option Addr} {cap' : Nat} {cs news : List Value} (h : AppTo w E size A n cap m cs news A' cap' w') : Fr (inA A) w w' := by
  obtain ⟨_, _, ⟨_, _, _, hf⟩ | ⟨_, _, hf⟩⟩ := h
  · exact hf
  · exact Nw.on hf

end Go.Proofs.YtkjnlhidnkbelaaGreatDoor

namespace Go.Proofs.YtkjnlhidnkbelaaGreatDoor
open Go Go.RowKit

/-- Marks, from the first one on. -/
def mks (k n : Nat) : List UInt8 := (List.range n).map (mkB k)
theorem mks_len (k n : Nat) : (mks k n).length = n := by simp [mks]
theorem mks_succ (k n : Nat) : mks k (n + 1) = mks k n ++ [mkB k n] := by
  unfold mks
  rw [List.range_succ, List.map_append]
  rfl
theorem mks_at (k n i : Nat) (h : i < n) : (mks k n)[i]? = some (mkB k i) := by simp [mks, h]
theorem mks_take (k n i : Nat) (h : i ≤ n) : (mks k n).take i = mks k i := by
  unfold mks
  rw [← List.map_take, List.take_range, Nat.min_eq_left h]

section
variable {w w' : World} {m : Nat} {A : Nat → Option Addr} {N cp : Nat → Nat} {f : Nat → List UInt8}
/-- Rows of bytes, each the call's own. -/
def RowsAt (w : World) (m : Nat) (A : Nat → Option Addr) (N cp : Nat → Nat) (f : Nat → List UInt8) : Prop := ∀ k, k < m → Own w 5 1 (A k) (N k) (cp k) ((f k).map B8)
/-- No two lie in one block. -/
def FarR (m : Nat) (A : Nat → Option Addr) : Prop := ∀ i j, i < m → j < m → i ≠ j → ∀ b, inA (A i) b → ¬ inA (A j) b
def InR (m : Nat) (A : Nat → Option Addr) (b : Nat) : Prop := ∃ k, k < m ∧ inA (A k) b

theorem RowsAt.len (h : RowsAt w m A N cp f) {k : Nat} (hk : k < m) : (f k).length = N k := by
  have := (h k hk).1
  simpa using this
theorem RowsAt.fr {S : Nat → Prop} (h : RowsAt w m A N cp f) (hf : Fr S w w') (hn : ∀ k, k < m → ∀ b, inA (A k) b → ¬ S b) : RowsAt w' m A N cp f := fun k hk => (h k hk).fr hf (hn k hk)
theorem RowsAt.nw (h : RowsAt w m A N cp f) (hf : Nw w w') : RowsAt w' m A N cp f := h.fr hf (fun _ _ _ _ h => h)
theorem RowsAt.congr {g : Nat → List UInt8} (h : RowsAt w m A N cp f) (hg : ∀ k, k < m → f k = g k) : RowsAt w m A N cp g := fun k hk => by rw [← hg k hk]; exact h k hk
theorem RowsAt.inlt (h : RowsAt w m A N cp f) {b : Nat} (hb : InR m A b) : b < w.heap.size := by
  obtain ⟨k, hk, hb⟩ := hb
  exact (h k hk).lt b hb
/-- One row turned. -/
def upd (f : Nat → List UInt8) (k : Nat) (g : List UInt8) : Nat → List UInt8 := fun j => if j = k then g else f j
theorem upd_same (f : Nat → List UInt8) (k : Nat) (g : List UInt8) : upd f k g k = g := by simp [upd]
theorem upd_ne (f : Nat → List UInt8) {k j : Nat} (g : List UInt8) (h : j ≠ k) : upd f k g j = f j := by simp [upd, h]
theorem RowsAt.step (h : RowsAt w m A N cp f) (hfar : FarR m A) {k : Nat} (hk : k < m) {g : List UInt8} (hf : Fr (inA (A k)) w w') (ho : Own w' 5 1 (A k) (N k) (cp k) (g.map B8)) : RowsAt w' m A N cp (upd f k g) := by
  intro j hj
  by_cases e : j = k
  · subst e; rw [upd_same]; exact ho
  · rw [upd_ne f g e]
    exact (h j hj).fr hf (fun b hb hb2 => hfar j k hj hk e b hb hb2)
theorem RowsAt.same (h : RowsAt w m A N cp f) (hfar : FarR m A) {k : Nat} (hk : k < m) (hf : Fr (inA (A k)) w w') (ho : Own w' 5 1 (A k) (N k) (cp k) ((f k).map B8)) : RowsAt w' m A N cp f := by
  intro j hj
  by_cases e : j = k
  · subst e; exact ho
  · exact (h j hj).fr hf (fun b hb hb2 => hfar j k hj hk e b hb hb2)
theorem InR.fr {k : Nat} (hk : k < m) (hf : Fr (inA (A k)) w w') : Fr (InR m A) w w' := hf.mono fun _ hb => .inl ⟨k, hk, hb⟩

/-- How the rows' headers stand in a list. -/
abbrev hdr (A : Nat → Option Addr) (N cp : Nat → Nat) (k : Nat) : Value := .slice (A k) (N k) (cp k)
def hdrs (m : Nat) (A : Nat → Option Addr) (N cp : Nat → Nat) : List Value := (List.range m).map (hdr A N cp)
theorem hdrs_len : (hdrs m A N cp).length = m := by simp [hdrs]
theorem hdrs_at {k : Nat} (h : k < m) : (hdrs m A N cp)[k]? = some (hdr A N cp k) := by simp [hdrs, h]
theorem Sl.hdr {F : Nat → Prop} {B : Option Addr} (h : Sl w F B (hdrs m A N cp)) {k : Nat} (hk : k < m) : ∃ b o, B = some ⟨b, o, none⟩ ∧ F b ∧ w.cell? ⟨b, o + k, none⟩ = some (.slice (A k) (N k) (cp k)) := by
  obtain ⟨b, o, hB, hF, _, hc⟩ := h.at_ (by intro e; have := congrArg List.length e; rw [hdrs_len] at this; simp at this; omega)
  exact ⟨b, o, hB, hF, hc k _ (hdrs_at hk)⟩
end

/-- Stage one: the first k rows bear their marks, and i places of the next one. -/
def Ap1 (w : World) (m : Nat) (A : Nat → Option Addr) (N cp : Nat → Nat) (k : Nat) (wr : World) : Prop :=
  ∃ f, RowsAt wr m A N cp f ∧ (∀ j, j < k → f j = mks j (N j)) ∧ Fr (InR m A) w wr
def Ap1o (w : World) (m : Nat) (A : Nat → Option Addr) (N cp : Nat → Nat) (i : Value) (wr : World) : Prop := ∃ k : Nat, k ≤ m ∧ i = .int .i64 k ∧ Ap1 w m A N cp k wr
def Ap1i (w : World) (m : Nat) (A : Nat → Option Addr) (N cp : Nat → Nat) (k : Nat) (i : Value) (wr : World) : Prop :=
  ∃ (j : Nat) (f : Nat → List UInt8), j ≤ N k ∧ i = .int .i64 j ∧ RowsAt wr m A N cp f ∧ (∀ j, j < k → f j = mks j (N j)) ∧ (f k).take j = mks k j ∧ Fr (InR m A) w wr
theorem Ap1i.next {w wr w' : World} {m : Nat} {A : Nat → Option Addr} {N cp : Nat → Nat} {k j : Nat} {f : Nat → List UInt8} (hfar : FarR m A) (hk : k < m) (hj : j < N k) (hr : RowsAt wr m A N cp f) (hb : ∀ j, j < k → f j = mks j (N j)) (ht : (f k).take j = mks k j) (hf : Fr (InR m A) w wr)
    {g : Nat} (hA : A k = some ⟨g, 0, none⟩) (hw : w' = wr.setCell ⟨g, j, none⟩ (B8 (mkB k j))) : Ap1i w m A N cp k (.int .i64 ((j : Int) + 1)) w' := by
  subst hw
  have hlen := hr.len hk
  have ho := hr k hk
  rw [hA] at ho
  have hs := ho.store j (B8 (mkB k j))
  rw [← List.map_set, ← hA] at hs
  have hf1 : Fr (inA (A k)) wr (wr.setCell ⟨g, j, none⟩ (B8 (mkB k j))) := (Fr.refl _ wr).setCell (p := ⟨g, j, none⟩) (.inl (by rw [hA]; exact (inA_some _ _).2 rfl)) _
  refine ⟨j + 1, upd f k ((f k).set j (mkB k j)), hj, by go_num, hr.step hfar hk hf1 hs, fun i hi => ?_, ?_, hf.tr (InR.fr hk hf1)⟩
  · rw [upd_ne _ _ (by omega)]; exact hb i hi
  · rw [upd_same, mks_succ, ← ht, List.take_succ_eq_append_getElem (by simpa [hlen] using hj)]
    simp only [List.getElem_set_self]
    rw [List.take_set_of_le (Nat.le_refl _)]
end Go.Proofs.YtkjnlhidnkbelaaGreatDoor

namespace Go.Proofs.YtkjnlhidnkbelaaGreatDoor
open Go Go.RowKit

theorem Own.off {w : World} {E E' : TypeId} {s s' n n' c c' : Nat} {A A' : Option Addr} {cs cs' : List Value} (h : Own w E s A n c cs) (h' : Own w E' s' A' n' c' cs') (hne : E' ≠ E) : ∀ j, inA A' j → ¬ inA A j := by
  intro j hj hh
  rcases h'.2 with ⟨rfl, _⟩ | ⟨g, cur, rfl, hbk, _⟩
  · exact inA_none _ hj
  · have hj' := (inA_some _ _).1 hj
    subst hj'
    exact h.ne_ hbk hne hh

/-- The first k lists have grown, to these; what was handed in bears its marks still. -/
def ApG (w : World) (m : Nat) (A : Nat → Option Addr) (N cp : Nat → Nat) (gg : Nat) (con : Nat → List UInt8) (k : Nat) (wr : World) : Prop :=
  ∃ (cells : List Value) (GA : Nat → Option Addr) (Gc : Nat → Nat), Own wr 22 1 (some ⟨gg, 0, none⟩) m m cells ∧ (∀ j, j < k → cells[j]? = some (.slice (GA j) (N j + 64) (Gc j))) ∧
    (∀ j, j < k → Own wr 5 1 (GA j) (N j + 64) (Gc j) ((con j).map B8)) ∧ (∀ j, j < k → ∀ b, inA (GA j) b → inA (A j) b ∨ w.heap.size ≤ b) ∧ RowsAt wr m A N cp (fun j => mks j (N j)) ∧ Fr (InR m A) w wr
def ApGo (w : World) (m : Nat) (A : Nat → Option Addr) (N cp : Nat → Nat) (gg : Nat) (con : Nat → List UInt8) (i : Value) (wr : World) : Prop := ∃ k : Nat, k ≤ m ∧ i = .int .i64 k ∧ ApG w m A N cp gg con k wr
/-- The k-th has grown by i. -/
def ApX (A : Nat → Option Addr) (N cp : Nat → Nat) (k : Nat) (wo : World) (con : List UInt8) (X : Option Addr) (n c : Nat) (wx : World) : Prop :=
  Fr (inA (A k)) wo wx ∧ Own wx 5 1 X n c (con.map B8) ∧ ((X = A k ∧ c = cp k) ∨ ∀ b, inA X b → wo.heap.size ≤ b) ∧ Own wx 5 1 (A k) (N k) (cp k) ((mks k (N k)).map B8)
def ApXi (A : Nat → Option Addr) (N cp : Nat → Nat) (k : Nat) (wo : World) (v i : Value) (wx : World) : Prop :=
  ∃ (j : Nat) (X : Option Addr) (c : Nat), j ≤ 64 ∧ i = .int .i64 j ∧ v = .slice X (N k + j) c ∧ ApX A N cp k wo (mks k (N k + j)) X (N k + j) c wx

section
variable {w wo wx w1 w' : World} {m : Nat} {A : Nat → Option Addr} {N cp : Nat → Nat} {gg k : Nat} {con : Nat → List UInt8} {f : Nat → List UInt8}
theorem ApG.next (h : ApG w m A N cp gg con k wo) (hgg : w.heap.size ≤ gg) (hr : RowsAt w m A N cp f) (hfar : FarR m A) (hk : k < m) {X : Option Addr} {c : Nat} (hx : ApX A N cp k wo (con k) X (N k + 64) c wx) (hw : w' = wx.setCell ⟨gg, k, none⟩ (.slice X (N k + 64) c)) : ApG w m A N cp gg con (k + 1) w' := by
  subst hw
  obtain ⟨cells, GA, Gc, ho, hc, hG, hb, hrow, hf⟩ := h
  obtain ⟨hf2, hX, hXb, hk2⟩ := hx
  have hok := hrow k hk
  have hgk : ¬ inA (A k) gg := fun h => ho.off hok (by decide) gg h ((inA_some _ _).2 rfl)
  have ho2 := ho.fr hf2 (fun j hj => by rw [(inA_some _ _).1 hj]; exact hgk)
  have hXg : ¬ inA X gg := fun h => ho2.off hX (by decide) gg h ((inA_some _ _).2 rfl)
  have hcl := ho.1
  have hst := ho2.store k (.slice X (N k + 64) c)
  refine ⟨_, fun j => if j = k then X else GA j, fun j => if j = k then c else Gc j, hst, fun j hj => ?_, fun j hj => ?_, fun j hj b hbb => ?_, ?_, (hf.tr (InR.fr hk hf2)).setCell (p := ⟨gg, k, none⟩) (.inr ?_) _⟩
  · by_cases e : j = k
    · subst e
      simp only [if_true]
      rw [List.getElem?_set_self (by omega)]
    · simp only [if_neg e]
      rw [List.getElem?_set_ne (fun h => e h.symm)]
      exact hc j (by omega)
  · by_cases e : j = k
    · subst e
      simp only [if_true]
      exact hX.setCell (p := ⟨gg, j, none⟩) hXg _
    · simp only [if_neg e]
      have h1 := (hG j (by omega)).fr hf2 (fun b hb1 hb2 => by
        rcases hb j (by omega) b hb1 with h | h
        · exact hfar j k (by omega) hk e b h hb2
        · have := hr.inlt ⟨k, hk, hb2⟩; omega)
      exact h1.setCell (p := ⟨gg, k, none⟩) (fun h => ho2.off h1 (by decide) gg h ((inA_some _ _).2 rfl)) _
  · by_cases e : j = k
    · subst e
      simp only [if_true] at hbb
      rcases hXb with ⟨rfl, _⟩ | h
      · exact .inl hbb
      · exact .inr (Nat.le_trans hf.size (h b hbb))
    · simp only [if_neg e] at hbb
      exact hb j (by omega) b hbb
  · have h1 := hrow.same hfar hk hf2 hk2
    exact fun j hj => (h1 j hj).setCell (p := ⟨gg, k, none⟩) (fun h => ho2.off (h1 j hj) (by decide) gg h ((inA_some _ _).2 rfl)) _
  · exact hgg
theorem ApG.rows (h : ApG w m A N cp gg con k wo) : RowsAt wo m A N cp (fun j => mks j (N j)) := by obtain ⟨_, _, _, _, _, _, _, h, _⟩ := h; exact h
theorem ApG.fr (h : ApG w m A N cp gg con k wo) : Fr (InR m A) w wo := by obtain ⟨_, _, _, _, _, _, _, _, h⟩ := h; exact h
theorem ApG.own (h : ApG w m A N cp gg con k wo) : ∃ cells, Own wo 22 1 (some ⟨gg, 0, none⟩) m m cells := by obtain ⟨c, _, _, h, _⟩ := h; exact ⟨c, h⟩
theorem ApX.next {con x : List UInt8} {X A' : Option Addr} {n c cap' q : Nat} (h : ApX A N cp k wo con X n c wx) (q1 : Nw wx w1) (hq : 0 < q) (hcn : con.length = n) (hNn : N k ≤ n) (hpre : con.take (N k) = mks k (N k)) (hlt : ∀ b, inA (A k) b → b < wo.heap.size)
    (hap : AppTo w1 5 1 X n c q (con.map B8) (x.map B8) A' cap' w') : ApX A N cp k wo (con ++ x) A' (n + q) cap' w' := by
  obtain ⟨hf, ho, hXb, hk2⟩ := h
  obtain ⟨ho2, ho1, hcase⟩ := hap
  have hsz := hf.size
  have e : (con ++ x).map B8 = con.map B8 ++ x.map B8 := List.map_append
  refine ⟨?_, by rw [e]; exact ho2, ?_, ?_⟩
  · rcases hcase with ⟨_, rfl, _, hf2⟩ | ⟨_, _, hf2⟩
    · rcases hXb with ⟨rfl, _⟩ | h
      · exact (hf.tr (Nw.on q1)).tr hf2
      · exact (hf.tr (Nw.on q1)).trans hf2 (fun b hb => .inr (h b hb))
    · exact (hf.tr (Nw.on q1)).tr (Nw.on hf2)
  · rcases hcase with ⟨_, rfl, rfl, _⟩ | ⟨_, rfl, _⟩
    · exact hXb
    · refine .inr fun b hb => ?_
      rw [(inA_some _ _).1 hb]
      exact Nat.le_trans hsz q1.size
  · have hk3 := hk2.fr q1 (fun _ _ h => h)
    rcases hcase with ⟨hcp, rfl, rfl, hf2⟩ | ⟨_, rfl, hf2⟩
    · rcases hXb with ⟨rfl, rfl⟩ | h
      · have hne : A k ≠ none := by
          intro he
          rcases ho2.2 with ⟨_, h, _⟩ | ⟨g, cur, h, _⟩
          · omega
          · rw [he] at h; cases h
        have h3 := ho2.pre (k := N k) (by omega) hne
        rw [Nat.mul_one, ← List.map_append, ← List.map_take, List.take_append_of_le_length (by omega), hpre] at h3
        exact h3
      · exact hk3.fr hf2 (fun b hb hb2 => by have := h b hb2; have := hlt b hb; omega)
    · exact hk3.fr hf2 (fun _ _ h => h)
end

theorem Own.cellEx {w : World} {E : TypeId} {g n c k : Nat} {cs : List Value} (h : Own w E 1 (some ⟨g, 0, none⟩) n c cs) (hk : k < n) : ∃ u, w.cell? ⟨g, k, none⟩ = some u := by
  have hl := h.1
  exact ⟨_, (h.cellAt (k := k) (by omega)).trans (List.getElem?_eq_getElem (by omega))⟩
/-- What is to be appended, as far as it is filled. -/
def ManyR (kk : Nat) (g : Nat) (wy : World) (i : Value) (wx : World) : Prop :=
  ∃ (j : Nat) (cs : List UInt8), j ≤ 64 ∧ i = .int .i64 j ∧ Own wx 5 1 (some ⟨g, 0, none⟩) 64 64 (cs.map B8) ∧ cs.take j = mks kk j ∧ Fr (· = g) wy wx
theorem ManyR.next {kk g j : Nat} {wy wx w' : World} {cs : List UInt8} (ho : Own wx 5 1 (some ⟨g, 0, none⟩) 64 64 (cs.map B8)) (ht : cs.take j = mks kk j) (hf : Fr (· = g) wy wx) (hj : j < 64) (hw : w' = wx.setCell ⟨g, j, none⟩ (B8 (mkB kk j))) : ManyR kk g wy (.int .i64 ((j : Int) + 1)) w' := by
  subst hw
  have hl : cs.length = 64 := by have := ho.1; simpa using this
  have hs := ho.store j (B8 (mkB kk j))
  rw [← List.map_set] at hs
  refine ⟨j + 1, cs.set j (mkB kk j), hj, by go_num, hs, ?_, hf.setCell (p := ⟨g, j, none⟩) (.inl rfl) _⟩
  rw [mks_succ, ← ht, List.take_succ_eq_append_getElem (by simpa [hl] using hj)]
  simp only [List.getElem_set_self]
  rw [List.take_set_of_le (Nat.le_refl _)]
theorem info_bytes : (Tryz.prog.info? 22).map (fun i => (i.zero, i.size, i.bytes)) = some (some (.slice none 0 0), 1, 24) := by kernel_rfl
/-- What has grown, by the first sort of growth, and by the second. -/
def con1 (N : Nat → Nat) (j : Nat) : List UInt8 := mks j (N j + 64)
def con2 (m : Nat) (N : Nat → Nat) (j : Nat) : List UInt8 := mks j (N j) ++ mks (j + m) 64
theorem con1_at (N : Nat → Nat) (j i : Nat) (h : i < N j + 64) : (con1 N j)[i]? = some (mkB j i) := mks_at _ _ _ h
theorem con2_at (m : Nat) (N : Nat → Nat) (j i : Nat) (h : i < N j) : (con2 m N j)[i]? = some (mkB j i) := by
  unfold con2
  rw [List.getElem?_append_left (by rw [mks_len]; exact h)]
  exact mks_at _ _ _ h
/-- The cell of a grown list's place, and its header. -/
theorem ApG.cells {w wr : World} {m : Nat} {A : Nat → Option Addr} {N cp : Nat → Nat} {gg : Nat} {con : Nat → List UInt8} (h : ApG w m A N cp gg con m wr) {k : Nat} (hk : k < m) :
    ∃ (X : Option Addr) (c : Nat), wr.cell? ⟨gg, k, none⟩ = some (.slice X (N k + 64) c) ∧ ∀ i x, (con k)[i]? = some x → ∃ g, X = some ⟨g, 0, none⟩ ∧ wr.cell? ⟨g, i, none⟩ = some (B8 x) := by
  obtain ⟨cells, GA, Gc, ho, hc, hG, hb, hrow, hf⟩ := h
  refine ⟨GA k, Gc k, (ho.cellAt (k := k) (by omega)).trans (hc k hk), fun i x hx => ?_⟩
  have h1 := hG k hk
  have hl : (con k).length = N k + 64 := by have := h1.1; simpa using this
  have hi : i < (con k).length := by
    rcases Nat.lt_or_ge i (con k).length with h | h
    · exact h
    · rw [List.getElem?_eq_none h] at hx; cases hx
  rcases h1.2 with ⟨_, h2, _⟩ | ⟨g, cur, h2, _⟩
  · omega
  · refine ⟨g, h2, ?_⟩
    rw [h2] at h1
    rw [h1.cellAt (k := i) (by omega), List.getElem?_map, hx]
    rfl
theorem RowsAt.cells {w : World} {m : Nat} {A : Nat → Option Addr} {N cp : Nat → Nat} (h : RowsAt w m A N cp (fun j => mks j (N j))) {k : Nat} (hk : k < m) {i : Nat} (hi : i < N k) : ∃ g, A k = some ⟨g, 0, none⟩ ∧ w.cell? ⟨g, i, none⟩ = some (B8 (mkB k i)) := by
  have h1 := h k hk
  rcases h1.2 with ⟨_, h2, _⟩ | ⟨g, cur, h2, _⟩
  · omega
  · refine ⟨g, h2, ?_⟩
    rw [h2] at h1
    rw [h1.cellAt (k := i) (by omega), List.getElem?_map, mks_at _ _ _ hi]
    rfl
end Go.Proofs.YtkjnlhidnkbelaaGreatDoor
