/- The reference's writing: a row of things as bytes. -/
import Derived.Test.YtgmcjfjdjnoljaaRefC
namespace Go.Proofs.Ytgmcjfjdjnoljaa
open Go Go.RowKit

/-- What was written so far. -/
def OutIs (w : World) (bs : List UInt8) (v : Value) (wr : World) : Prop :=
  ∃ A c, v = .slice A bs.length c ∧ Own wr 5 1 A bs.length c (bs.map B8) ∧ Nw w wr ∧ ∀ k, inA A k → w.heap.size ≤ k
theorem OutIs.app {w wr w1 w2 : World} {bs x : List UInt8} {A : Option Addr} {c : Nat} (ho : Own wr 5 1 A bs.length c (bs.map B8)) (hq : Nw w wr) (hA : ∀ k, inA A k → w.heap.size ≤ k) (q1 : Nw wr w1) {A' : Option Addr} {c' m : Nat}
    (hm : x.length = m) (hap : AppTo w1 5 1 A bs.length c m (bs.map B8) (x.map B8) A' c' w2) : OutIs w (bs ++ x) (.slice A' (bs.length + m) c') w2 := by
  subst hm
  obtain ⟨ho2, _, hcase⟩ := hap
  refine ⟨A', c', by simp, by simpa using ho2, ?_, ?_⟩
  · rcases hcase with ⟨_, rfl, _, hf⟩ | ⟨_, rfl, hf⟩
    · exact (hq.tr q1).new hf hA
    · exact (hq.tr q1).tr hf
  · intro k hk
    rcases hcase with ⟨_, rfl, _, hf⟩ | ⟨_, rfl, hf⟩
    · exact hA k hk
    · rw [(inA_some _ _).1 hk]; exact (hq.tr q1).size

theorem Sl.drew_ {w : World} {F : Nat → Prop} {A : Option Addr} {xs : List Value} (h : Sl w F A xs) : Sl w.drew F A xs := h

def allRt (ns : List Int) : Bool := decide (∀ n ∈ ns, 0 ≤ n ∧ n ≤ 4611686018427387903)
def outNums (ns : List Int) : List UInt8 := (wrNums ns ⟨true, []⟩).bs
def outAll (ns : List Int) (fs : List Bool) (ts : List ByteArray) (rs : List (List UInt8)) : Wr := wrRows rs (wrRows (ts.map (·.data.toList)) (wrFlags fs (wrNums ns ⟨true, []⟩)))
def RefTo (w : World) (ns : List Int) (fs : List Bool) (ts : List ByteArray) (rs : List (List UInt8)) (e : Ending) (w' : World) : Prop :=
  (allRt ns = false ∧ e = .returned (.tuple #[.slice none 0 0, .int .i64 2]) ∧ Nw w w') ∨
  (allRt ns = true ∧ ∃ v, e = .returned (.tuple #[v, .int .i64 0]) ∧ OutIs w (outAll ns fs ts rs).bs v w')

def RefNumRel (w : World) (ns : List Int) (out i : Value) (wr : World) : Prop := ∃ k : Nat, k ≤ ns.length ∧ i = .int .i64 k ∧ (∀ j (h : j < ns.length), j < k → 0 ≤ ns[j] ∧ ns[j] ≤ 4611686018427387903) ∧ OutIs w (wrNums (ns.take k) ⟨true, []⟩).bs out wr
def RefRel (w : World) (m : Nat) (f : Nat → Wr) (out i : Value) (wr : World) : Prop := ∃ k : Nat, k ≤ m ∧ i = .int .i64 k ∧ OutIs w (f k).bs out wr

set_option maxRecDepth 100000 in
set_option maxHeartbeats 2000000 in
theorem rwrite_any (w : World) (F0 F1 F2 F3 : Nat → Prop) (A0 A1 A2 A3 : Option Addr) (c0 c1 c2 c3 : Nat) (ns : List Int) (fs : List Bool) (ts : List ByteArray) (rs : List (List UInt8)) (vs : List Value)
    (h0 : Sl w F0 A0 (ns.map I64)) (h1 : Sl w F1 A1 (fs.map Value.bool)) (h2 : Sl w F2 A2 (ts.map Value.string)) (h3 : Sl w F3 A3 vs) (hrs : RowsV w F3 vs rs)
    (hl0 : ns.length ≤ 10000000000) (hl1 : fs.length ≤ 10000000000) (hl2 : 9 * ts.length + rowsLen (ts.map (·.data.toList)) ≤ 100000000000) (hl3 : 9 * rs.length + rowsLen rs ≤ 100000000000) :
    Calls Try.prog 78 #[.slice A0 ns.length c0, .slice A1 fs.length c1, .slice A2 ts.length c2, .slice A3 rs.length c3] w (RefTo w ns fs ts rs) := by
  have hconv := fun (w : World) (s : ByteArray) => run_bytes_of_string (P := Try.prog) w 9 57 5 s Try.underlying9 Try.underlying57 Try.underlying5
  go_enter Try.func78, Try.ntmps78
  go_wp2_with fail
  go_loopw [10, 11] (fun out i wr => RefNumRel w ns out i wr) (fun _ i _ => ns.length - (intOf i).toNat)
  case atStart => exact ⟨0, Nat.zero_le _, rfl, fun _ _ h => by omega, ⟨none, 0, rfl, Own.nil _ _ _, Fr.refl _ _, fun k hk => (inA_none k hk).elim⟩⟩
  case round =>
    obtain ⟨k, hk, rfl, hok, A, c, rfl, ho, hq, hA⟩ := hrel
    have HK := Lib.hid hok
    clear hok
    by_cases hlt : k < ns.length
    · obtain ⟨b, o, rfl, _, hc⟩ := (h0.fr hq (fun _ _ h => h)).get hlt
      have hlen := wrNums_len (ns.take k) ⟨true, []⟩
      rw [List.length_take] at hlen
      have hsm : (wrNums (ns.take k) ⟨true, []⟩).bs.length ≤ 100000000000 := by
        have : ([] : List UInt8).length = 0 := rfl
        simp only [List.length_nil] at hlen
        omega
      clear hlen
      have hsucc := wrNums_succ ns k hlt ⟨true, []⟩
      by_cases hx : 0 ≤ ns[k] ∧ ns[k] ≤ 4611686018427387903
      · obtain ⟨x, hxx⟩ : ∃ x : Nat, ns[k] = (x : Int) := ⟨ns[k].toNat, by omega⟩
        have hx4 : x ≤ 4611686018427387903 := by omega
        have hb : (wrNums (ns.take (k + 1)) ⟨true, []⟩).bs = (wrNums (ns.take k) ⟨true, []⟩).bs ++ enc x := by
          rw [hsucc, hxx]
          unfold wrNum
          rw [if_neg (by unfold topN; omega)]
          simp
        rw [hxx] at hc
        have HB := Lib.hid hb
        have HX := Lib.hid hx
        have he9 := enc_len x
        clear hb hsucc hx hxx
        go_wp2_with (first | (go_at_call 87; refine (rnum_ok _ x hx4).mono ?_; rintro e w1 ⟨A1, c1, rfl, ho1, q1, n1⟩) | (at_builtin; refine wl_append2 rfl _ _ _ rfl 1 (.int .u8 0) Try.underlying57 info_u8 rfl (by decide) rfl (ho.fr q1 (fun _ _ h => h)) rfl ho1.sl (by simp) (B8_oneCell (enc x)) (by omega) (by unfold maxLen; omega) ?_; intro A' cap' w2 hap))
        go_roundw
        case rel =>
          refine ⟨k + 1, by omega, by go_num, fun j hj hjk => ?_, ?_⟩
          · by_cases hjk2 : j < k
            · exact HK.out j hj hjk2
            · obtain rfl : j = k := by omega
              exact HX.out
          · rw [HB.out]
            exact OutIs.app ho hq hA q1 rfl hap
        case measure => simp [intOf]; omega
      · have hbad : ns[k] < 0 ∨ 4611686018427387903 < ns[k] := by omega
        have hall : allRt ns = false := decide_eq_false fun h => hx (h _ (List.getElem_mem hlt))
        have HA := Lib.hid hall
        have HBD := Lib.hid hbad
        clear hsucc hx hbad hall
        go_wp2_with (first | (go_at_call 87; refine (rnum_bad _ _ HBD.out).mono ?_; rintro e w1 ⟨rfl, rfl⟩))
        go_ret2
        exact .inl ⟨HA.out, rfl, hq⟩
    · have hall : allRt ns = true := decide_eq_true fun x hx => by
        obtain ⟨j, hj, rfl⟩ := List.mem_iff_getElem.1 hx
        exact HK.out j hj (by omega)
      have HA := Lib.hid hall
      clear hall HK
      have e : ns.take k = ns := List.take_of_length_le (by omega)
      rw [e] at ho ⊢
      clear e
      have hlen1 := wrNums_len ns ⟨true, []⟩
      have hs1 : (wrNums ns ⟨true, []⟩).bs.length ≤ 100000000000 := by simp only [List.length_nil] at hlen1; omega
      clear hlen1
      obtain ⟨s1, hs1e⟩ : ∃ s1, wrNums ns ⟨true, []⟩ = s1 := ⟨_, rfl⟩
      rw [hs1e] at ho hs1 ⊢
      have HS1 := Lib.hid hs1e
      clear hs1e
      go_wp2_with fail
      go_loopw [10, 14] (fun out i wr => RefRel w fs.length (fun k => wrFlags (fs.take k) s1) out i wr) (fun _ i _ => fs.length - (intOf i).toNat)
      case atStart => exact ⟨0, Nat.zero_le _, rfl, ⟨A, c, rfl, ho, hq, hA⟩⟩
      case round =>
        clear ho hq hA
        obtain ⟨k, hk, rfl, hout⟩ := hrel
        change OutIs w (wrFlags (fs.take k) s1).bs _ _ at hout
        obtain ⟨A, c, rfl, ho, hq, hA⟩ := hout
        by_cases hlt : k < fs.length
        · obtain ⟨b, o, rfl, _, hc⟩ := (h1.fr hq (fun _ _ h => h)).get hlt
          have hlen := wrFlags_len (fs.take k) s1
          rw [List.length_take] at hlen
          have hsm : (wrFlags (fs.take k) s1).bs.length ≤ 200000000000 := by omega
          clear hlen
          have hb : (wrFlags (fs.take (k + 1)) s1).bs = (wrFlags (fs.take k) s1).bs ++ [if fs[k] then 1 else 0] := by
            rw [wrFlags_succ fs k hlt s1]
            rfl
          have HB := Lib.hid hb
          clear hb
          go_wp2_with (first | (go_at_call 57; refine (rflag_any _ fs[k]).mono ?_; rintro e w1 ⟨A1, c1, rfl, ho1, q1, n1⟩) | (at_builtin; refine wl_append2 rfl _ _ _ rfl 1 (.int .u8 0) Try.underlying57 info_u8 rfl (by decide) rfl (ho.fr q1 (fun _ _ h => h)) rfl ho1.sl (by simp) (B8_oneCell _) (by omega) (by unfold maxLen; omega) ?_; intro A' cap' w2 hap))
          go_roundw
          case rel =>
            refine ⟨k + 1, by omega, by go_num, ?_⟩
            show OutIs w (wrFlags (fs.take (k + 1)) s1).bs _ _
            rw [HB.out]
            exact OutIs.app ho hq hA q1 rfl hap
          case measure => simp [intOf]; omega
        · have e : fs.take k = fs := List.take_of_length_le (by omega)
          rw [e] at ho ⊢
          clear e
          have hlen1 := wrFlags_len fs s1
          have hs2 : (wrFlags fs s1).bs.length ≤ 200000000000 := by omega
          clear hlen1
          obtain ⟨s2, hs2e⟩ : ∃ s2, wrFlags fs s1 = s2 := ⟨_, rfl⟩
          rw [hs2e] at ho hs2 ⊢
          have HS2 := Lib.hid hs2e
          clear hs2e
          go_wp2_with fail
          go_loopw [10, 15] (fun out i wr => RefRel w ts.length (fun k => wrRows ((ts.map (·.data.toList)).take k) s2) out i wr) (fun _ i _ => ts.length - (intOf i).toNat)
          case atStart => exact ⟨0, Nat.zero_le _, rfl, ⟨A, c, rfl, ho, hq, hA⟩⟩
          case round =>
            clear ho hq hA
            obtain ⟨k, hk, rfl, hout⟩ := hrel
            change OutIs w (wrRows ((ts.map (·.data.toList)).take k) s2).bs _ _ at hout
            obtain ⟨A, c, rfl, ho, hq, hA⟩ := hout
            by_cases hlt : k < ts.length
            · obtain ⟨b, o, rfl, _, hc⟩ := (h2.fr hq (fun _ _ h => h)).get hlt
              have hlt' : k < (ts.map (·.data.toList)).length := by simpa using hlt
              have hlen := wrRows_len ((ts.map (·.data.toList)).take k) s2
              rw [List.length_take, List.length_map] at hlen
              have hle := rowsLen_get _ k hlt'
              have hx : (ts.map (·.data.toList))[k] = ts[k].data.toList := by simp
              rw [hx] at hle
              have hsm : (wrRows ((ts.map (·.data.toList)).take k) s2).bs.length + ts[k].size ≤ 400000000000 := by have := bytes_size ts[k]; omega
              have hsz : ts[k].size ≤ 100000000000 := by have := bytes_size ts[k]; omega
              clear hlen hle
              have hb : (wrRows ((ts.map (·.data.toList)).take (k + 1)) s2).bs = (wrRows ((ts.map (·.data.toList)).take k) s2).bs ++ (enc ts[k].data.toList.length ++ ts[k].data.toList) := by
                rw [wrRows_succ _ k hlt' s2, hx]
                rfl
              have HB := Lib.hid hb
              clear hb hx
              have hbl : ts[k].data.toList.length = ts[k].size := rfl
              have he9 := enc_len ts[k].data.toList.length
              go_wp2_with fail
              generalize hcap : grownCap wr ts[k].size 0 5 = cp
              have hlb : ts[k].size ≤ cp := hcap ▸ grownCap_ge _ _ _ _
              clear hcap
              have hrow := fun W (hs : Sl W (· = wr.heap.size) (some ⟨wr.heap.size, 0, none⟩) (ts[k].data.toList.map B8)) => rrow_any W (· = wr.heap.size) (some ⟨wr.heap.size, 0, none⟩) cp ts[k].data.toList hs (by rw [hbl]; omega)
              rw [hbl] at hrow he9 HB
              have hxl : (enc ts[k].size ++ ts[k].data.toList).length = (enc ts[k].size).length + ts[k].size := by rw [List.length_append, hbl]
              obtain ⟨x, hx⟩ : ∃ x, enc ts[k].size ++ ts[k].data.toList = x := ⟨_, rfl⟩
              obtain ⟨m, hm⟩ : ∃ m, (enc ts[k].size).length = m := ⟨_, rfl⟩
              rw [hx, hm] at hrow hxl
              rw [hx] at HB
              rw [hm] at he9
              have HX := Lib.hid hxl
              have HR := Lib.hid hrow
              clear hrow hbl hx hm hxl
              refine (HR.out _ (Sl.drew_ (string_sl wr ts[k] cp 5 _))).mono ?_
              rintro e w1 ⟨A1, c1, rfl, ho1, q1, n1⟩
              have q0 : Nw wr w1 := (((Fr.refl _ wr).alloc _).drew).tr q1
              go_wp2_with (at_builtin; refine wl_append2 rfl _ _ _ rfl 1 (.int .u8 0) Try.underlying57 info_u8 rfl (by decide) rfl (ho.fr q0 (fun _ _ h => h)) rfl ho1.sl (by rw [List.length_map, HX.out, Nat.mul_one]) (B8_oneCell x) (by omega) (by unfold maxLen; omega) ?_; intro A' cap' w2 hap)
              go_roundw
              case rel =>
                refine ⟨k + 1, by omega, by go_num, ?_⟩
                show OutIs w (wrRows ((ts.map (·.data.toList)).take (k + 1)) s2).bs _ _
                rw [HB.out]
                exact OutIs.app ho hq hA q0 HX.out hap
              case measure => simp [intOf]; omega
            · have e : (ts.map (·.data.toList)).take k = ts.map (·.data.toList) := List.take_of_length_le (by simp; omega)
              rw [e] at ho ⊢
              clear e
              have hlen1 := wrRows_len (ts.map (·.data.toList)) s2
              rw [List.length_map] at hlen1
              have hs3 : (wrRows (ts.map (·.data.toList)) s2).bs.length ≤ 400000000000 := by omega
              clear hlen1
              obtain ⟨s3, hs3e⟩ : ∃ s3, wrRows (ts.map (·.data.toList)) s2 = s3 := ⟨_, rfl⟩
              rw [hs3e] at ho hs3 ⊢
              have HS3 := Lib.hid hs3e
              clear hs3e
              go_wp2_with fail
              go_loopw [10, 16] (fun out i wr => RefRel w rs.length (fun k => wrRows (rs.take k) s3) out i wr) (fun _ i _ => rs.length - (intOf i).toNat)
              case atStart => exact ⟨0, Nat.zero_le _, rfl, ⟨A, c, rfl, ho, hq, hA⟩⟩
              case round =>
                clear ho hq hA
                obtain ⟨k, hk, rfl, hout⟩ := hrel
                change OutIs w (wrRows (rs.take k) s3).bs _ _ at hout
                obtain ⟨A, c, rfl, ho, hq, hA⟩ := hout
                by_cases hlt : k < rs.length
                · have hlen := wrRows_len (rs.take k) s3
                  rw [List.length_take] at hlen
                  have hle := rowsLen_get rs k hlt
                  have hsm : (wrRows (rs.take k) s3).bs.length + rs[k].length ≤ 600000000000 := by omega
                  have hsz : rs[k].length ≤ 100000000000 := by omega
                  clear hlen hle
                  have hb : (wrRows (rs.take (k + 1)) s3).bs = (wrRows (rs.take k) s3).bs ++ (enc rs[k].length ++ rs[k]) := by
                    rw [wrRows_succ _ k hlt s3]
                    rfl
                  have HB := Lib.hid hb
                  clear hb
                  have he9 := enc_len rs[k].length
                  obtain ⟨v, hv, A6, c6, rfl, hcl1, hcl2, hs6⟩ := (hrs.fr hq (fun _ _ h => h)).2 k hlt
                  obtain ⟨b, o, rfl, _, _, hcs⟩ := (h3.fr hq (fun _ _ h => h)).at_ (by rintro rfl; simp at hv)
                  have hc := hcs k _ hv
                  clear hcs hv
                  have hrow := fun (W : World) (hs : Sl W F3 A6 (rs[k].map B8)) => rrow_any W F3 A6 c6 rs[k] hs (by omega)
                  have hxl : (enc rs[k].length ++ rs[k]).length = (enc rs[k].length).length + rs[k].length := List.length_append
                  obtain ⟨x, hx⟩ : ∃ x, enc rs[k].length ++ rs[k] = x := ⟨_, rfl⟩
                  obtain ⟨m, hm⟩ : ∃ m, (enc rs[k].length).length = m := ⟨_, rfl⟩
                  rw [hx, hm] at hrow hxl
                  rw [hx] at HB
                  rw [hm] at he9
                  have HX := Lib.hid hxl
                  have HR := Lib.hid hrow
                  clear hrow hx hm hxl
                  go_wp2_with (first | (go_at_call 79; refine (HR.out _ hs6).mono ?_; rintro e w1 ⟨A1, c1, rfl, ho1, q1, n1⟩) | (at_builtin; refine wl_append2 rfl _ _ _ rfl 1 (.int .u8 0) Try.underlying57 info_u8 rfl (by decide) rfl (ho.fr q1 (fun _ _ h => h)) rfl ho1.sl (by rw [List.length_map, HX.out, Nat.mul_one]) (B8_oneCell x) (by omega) (by unfold maxLen; omega) ?_; intro A' cap' w2 hap))
                  go_roundw
                  case rel =>
                    refine ⟨k + 1, by omega, by go_num, ?_⟩
                    show OutIs w (wrRows (rs.take (k + 1)) s3).bs _ _
                    rw [HB.out]
                    exact OutIs.app ho hq hA q1 HX.out hap
                  case measure => simp [intOf]; omega
                · have e : rs.take k = rs := List.take_of_length_le (by omega)
                  rw [e] at ho ⊢
                  clear e
                  go_wp2_with fail
                  go_ret2
                  refine .inr ⟨HA.out, _, rfl, ?_⟩
                  unfold outAll
                  rw [HS1.out, HS2.out, HS3.out]
                  exact ⟨A, c, rfl, ho, hq, hA⟩
end Go.Proofs.Ytgmcjfjdjnoljaa
