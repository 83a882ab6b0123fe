/- Lemmas of the walks: RefD, DwA, DwC. (Laid together by shake.py.) -/
import Derived.Deep.DeepCutAuto
import Derived.Test.YtippdjaakcgeoaaGreatEa04
import Derived.Test.YtippdjaakcgeoaaGreatEa15
import Derived.Test.YtippdjaakcgeoaaGreatEa16
import Derived.Test.YtippdjaakcgeoaaGreatEa26
set_option linter.unusedVariables false
set_option linter.unusedSimpArgs false
set_option maxRecDepth 100000
set_option maxHeartbeats 16000000
namespace Go.Proofs.YtippdjaakcgeoaaGreat
open Go Go.RowKit
def zaJ (w : World) (bs : List UInt8) (v : Value) (wr : World) : Prop :=
 ∃ A c, v = .slice A bs.length c ∧ Own wr 5 1 A bs.length c (bs.map B8) ∧ Nw w wr ∧ ∀ k, inA A k → w.heap.size ≤ k
theorem zaJ.app {w wr w1 w2 : World} {bs x : List UInt8} {A : Option Addr} {c : Nat} (ho : Own wr 5 1 A bs.length c (bs.map B8)) (hq : Nw w wr) (hA : ∀ k, inA A k → w.heap.size ≤ k) (q1 : Nw wr w1) {A' : Option Addr} {c' m : Nat}
  (hm : x.length = m) (hap : zaM w1 5 1 A bs.length c m (bs.map B8) (x.map B8) A' c' w2) : zaJ w (bs ++ x) (.slice A' (bs.length + m) c') w2 := by
 subst hm
 obtain ⟨ho2, _, hcase⟩ := hap
 refine ⟨A', c', by simp, by simpa using ho2, ?_, ?_⟩
 ·rcases hcase with ⟨_, rfl, _, hf⟩ | ⟨_, rfl, hf⟩
  ·exact (hq.tr q1).new hf hA
  ·exact (hq.tr q1).tr hf
 ·intro k hk
  rcases hcase with ⟨_, rfl, _, hf⟩ | ⟨_, rfl, hf⟩
  ·exact hA k hk
  ·rw [(za9 _ _).1 hk]; exact (hq.tr q1).size
theorem Sl.drew_ {w : World} {F : Nat → Prop} {A : Option Addr} {xs : List Value} (h : Sl w F A xs) : Sl w.drew F A xs := h
def zfC (ns : List Int) : Bool := decide (∀ n ∈ ns, 0 ≤ n ∧ n ≤ 4611686018427387903)
def zgf (ns : List Int) (fs : List Bool) (ts : List ByteArray) (rs : List (List UInt8)) : Wr := zb0 rs (zb0 (ts.map (·.data.toList)) (zb9 fs (zcb ns ⟨true, []⟩)))
def RefTo (w : World) (ns : List Int) (fs : List Bool) (ts : List ByteArray) (rs : List (List UInt8)) (e : Ending) (w' : World) : Prop :=
 (zfC ns = false ∧ e = .returned (.tuple #[.slice none 0 0, .int .i64 2]) ∧ Nw w w') ∨
 (zfC ns = true ∧ ∃ v, e = .returned (.tuple #[v, .int .i64 0]) ∧ zaJ w (zgf ns fs ts rs).bs v w')
def zlf (w : World) (ns : List Int) (out i : Value) (wr : World) : Prop := ∃ k : Nat, k ≤ ns.length ∧ i = .int .i64 k ∧ (∀ j (h : j < ns.length), j < k → 0 ≤ ns[j] ∧ ns[j] ≤ 4611686018427387903) ∧ zaJ w (zcb (ns.take k) ⟨true, []⟩).bs out wr
def ziD (w : World) (m : Nat) (f : Nat → Wr) (out i : Value) (wr : World) : Prop := ∃ k : Nat, k ≤ m ∧ i = .int .i64 k ∧ zaJ w (f k).bs out wr
theorem zjq (w : World) (F0 F1 F2 F3 : Nat → Prop) (A0 A1 A2 A3 : Option Addr) (c0 c1 c2 c3 : Nat) (ns : List Int) (fs : List Bool) (ts : List ByteArray) (rs : List (List UInt8)) (vs : List Value)
  (h0 : Sl w F0 A0 (ns.map I64)) (h1 : Sl w F1 A1 (fs.map Value.bool)) (h2 : Sl w F2 A2 (ts.map Value.string)) (h3 : Sl w F3 A3 vs) (hrs : zfE w F3 vs rs)
  (hl0 : ns.length ≤ 10000000000) (hl1 : fs.length ≤ 10000000000) (hl2 : 9 * ts.length + zcn (ts.map (·.data.toList)) ≤ 100000000000) (hl3 : 9 * rs.length + zcn rs ≤ 100000000000) :
  Calls Tryz.prog 146 #[.slice A0 ns.length c0, .slice A1 fs.length c1, .slice A2 ts.length c2, .slice A3 rs.length c3] w (RefTo w ns fs ts rs) := by
 have hconv := fun (w : World) (s : ByteArray) => run_bytes_of_string (P := Tryz.prog) w 9 48 5 s Tryz.underlying9 Tryz.underlying48 Tryz.underlying5
 go_enter Tryz.func146, Tryz.ntmps146
 go_wp2_with fail
 go_loopw [10, 11] (fun out i wr => zlf w ns out i wr) (fun _ i _ => ns.length - (intOf i).toNat)
 case atStart => exact ⟨0, Nat.zero_le _, rfl, fun _ _ h => by omega, ⟨none, 0, rfl, Own.nil _ _ _, Fr.refl _ _, fun k hk => (zaH k hk).elim⟩⟩
 case round =>
  obtain ⟨k, hk, rfl, hok, A, c, rfl, ho, hq, hA⟩ := hrel
  have HK := Lib.hid hok
  clear hok
  by_cases hlt : k < ns.length
  ·obtain ⟨b, o, rfl, _, hc⟩ := (h0.fr hq (fun _ _ h => h)).get hlt
   have hlen := zeR (ns.take k) ⟨true, []⟩
   rw [List.length_take] at hlen
   have hsm : (zcb (ns.take k) ⟨true, []⟩).bs.length ≤ 100000000000 := by
    have : ([] : List UInt8).length = 0 := rfl
    simp only [List.length_nil] at hlen
    omega
   clear hlen
   have hsucc := zfX ns k hlt ⟨true, []⟩
   by_cases hx : 0 ≤ ns[k] ∧ ns[k] ≤ 4611686018427387903
   ·obtain ⟨x, hxx⟩ : ∃ x : Nat, ns[k] = (x : Int) := ⟨ns[k].toNat, by omega⟩
    have hx4 : x ≤ 4611686018427387903 := by omega
    have hb : (zcb (ns.take (k + 1)) ⟨true, []⟩).bs = (zcb (ns.take k) ⟨true, []⟩).bs ++ enc x := by
     rw [hsucc, hxx]
     unfold zdd
     rw [if_neg (by unfold topN; omega)]
     simp
    rw [hxx] at hc
    have HB := Lib.hid hb
    have HX := Lib.hid hx
    have he9 := zaR x
    clear hb hsucc hx hxx
    go_wp2_with (first | (go_at_call 205; refine (zh2 _ x hx4).mono ?_; rintro e w1 ⟨A1, c1, rfl, ho1, q1, n1⟩) | (at_builtin; refine zay rfl _ _ _ rfl 1 (.int .u8 0) Tryz.underlying48 zaL rfl (by decide) rfl (ho.fr q1 (fun _ _ h => h)) rfl ho1.sl (by simp) (zar (enc x)) (by omega) (by unfold maxLen; omega) ?_; intro A' cap' w2 hap))
    go_roundw
    case rel =>
     refine ⟨k + 1, by omega, by go_num, fun j hj hjk => ?_, ?_⟩
     ·by_cases hjk2 : j < k
      ·exact HK.out j hj hjk2
      ·obtain rfl : j = k := by omega
       exact HX.out
     ·rw [HB.out]
      exact zaJ.app ho hq hA q1 rfl hap
    case measure => simp [intOf]; omega
   ·have hbad : ns[k] < 0 ∨ 4611686018427387903 < ns[k] := by omega
    have hall : zfC ns = false := decide_eq_false fun h => hx (h _ (List.getElem_mem hlt))
    have HA := Lib.hid hall
    have HBD := Lib.hid hbad
    clear hsucc hx hbad hall
    go_wp2_with (first | (go_at_call 205; refine (zm0 _ _ HBD.out).mono ?_; rintro e w1 ⟨rfl, rfl⟩))
    go_ret2
    exact .inl ⟨HA.out, rfl, hq⟩
  ·have hall : zfC ns = true := decide_eq_true fun x hx => by
    obtain ⟨j, hj, rfl⟩ := List.mem_iff_getElem.1 hx
    exact HK.out j hj (by omega)
   have HA := Lib.hid hall
   clear hall HK
   have e : ns.take k = ns := List.take_of_length_le (by omega)
   rw [e] at ho ⊢
   clear e
   have hlen1 := zeR ns ⟨true, []⟩
   have hs1 : (zcb ns ⟨true, []⟩).bs.length ≤ 100000000000 := by simp only [List.length_nil] at hlen1; omega
   clear hlen1
   obtain ⟨s1, hs1e⟩ : ∃ s1, zcb ns ⟨true, []⟩ = s1 := ⟨_, rfl⟩
   rw [hs1e] at ho hs1 ⊢
   have HS1 := Lib.hid hs1e
   clear hs1e
   go_wp2_with fail
   go_loopw [10, 14] (fun out i wr => ziD w fs.length (fun k => zb9 (fs.take k) s1) out i wr) (fun _ i _ => fs.length - (intOf i).toNat)
   case atStart => exact ⟨0, Nat.zero_le _, rfl, ⟨A, c, rfl, ho, hq, hA⟩⟩
   case round =>
    clear ho hq hA
    obtain ⟨k, hk, rfl, hout⟩ := hrel
    change zaJ w (zb9 (fs.take k) s1).bs _ _ at hout
    obtain ⟨A, c, rfl, ho, hq, hA⟩ := hout
    by_cases hlt : k < fs.length
    ·obtain ⟨b, o, rfl, _, hc⟩ := (h1.fr hq (fun _ _ h => h)).get hlt
     have hlen := zez (fs.take k) s1
     rw [List.length_take] at hlen
     have hsm : (zb9 (fs.take k) s1).bs.length ≤ 200000000000 := by omega
     clear hlen
     have hb : (zb9 (fs.take (k + 1)) s1).bs = (zb9 (fs.take k) s1).bs ++ [if fs[k] then 1 else 0] := by
      rw [zfh fs k hlt s1]
      rfl
     have HB := Lib.hid hb
     clear hb
     go_wp2_with (first | (go_at_call 147; refine (zho _ fs[k]).mono ?_; rintro e w1 ⟨A1, c1, rfl, ho1, q1, n1⟩) | (at_builtin; refine zay rfl _ _ _ rfl 1 (.int .u8 0) Tryz.underlying48 zaL rfl (by decide) rfl (ho.fr q1 (fun _ _ h => h)) rfl ho1.sl (by simp) (zar _) (by omega) (by unfold maxLen; omega) ?_; intro A' cap' w2 hap))
     go_roundw
     case rel =>
      refine ⟨k + 1, by omega, by go_num, ?_⟩
      show zaJ w (zb9 (fs.take (k + 1)) s1).bs _ _
      rw [HB.out]
      exact zaJ.app ho hq hA q1 rfl hap
     case measure => simp [intOf]; omega
    ·have e : fs.take k = fs := List.take_of_length_le (by omega)
     rw [e] at ho ⊢
     clear e
     have hlen1 := zez fs s1
     have hs2 : (zb9 fs s1).bs.length ≤ 200000000000 := by omega
     clear hlen1
     obtain ⟨s2, hs2e⟩ : ∃ s2, zb9 fs s1 = s2 := ⟨_, rfl⟩
     rw [hs2e] at ho hs2 ⊢
     have HS2 := Lib.hid hs2e
     clear hs2e
     go_wp2_with fail
     go_loopw [10, 15] (fun out i wr => ziD w ts.length (fun k => zb0 ((ts.map (·.data.toList)).take k) s2) out i wr) (fun _ i _ => ts.length - (intOf i).toNat)
     case atStart => exact ⟨0, Nat.zero_le _, rfl, ⟨A, c, rfl, ho, hq, hA⟩⟩
     case round =>
      clear ho hq hA
      obtain ⟨k, hk, rfl, hout⟩ := hrel
      change zaJ w (zb0 ((ts.map (·.data.toList)).take k) s2).bs _ _ at hout
      obtain ⟨A, c, rfl, ho, hq, hA⟩ := hout
      by_cases hlt : k < ts.length
      ·obtain ⟨b, o, rfl, _, hc⟩ := (h2.fr hq (fun _ _ h => h)).get hlt
       have hlt' : k < (ts.map (·.data.toList)).length := by simpa using hlt
       have hlen := ze5 ((ts.map (·.data.toList)).take k) s2
       rw [List.length_take, List.length_map] at hlen
       have hle := zeC _ k hlt'
       have hx : (ts.map (·.data.toList))[k] = ts[k].data.toList := by simp
       rw [hx] at hle
       have hsm : (zb0 ((ts.map (·.data.toList)).take k) s2).bs.length + ts[k].size ≤ 400000000000 := by have := zgE ts[k]; omega
       have hsz : ts[k].size ≤ 100000000000 := by have := zgE ts[k]; omega
       clear hlen hle
       have hb : (zb0 ((ts.map (·.data.toList)).take (k + 1)) s2).bs = (zb0 ((ts.map (·.data.toList)).take k) s2).bs ++ (enc ts[k].data.toList.length ++ ts[k].data.toList) := by
        rw [zeA _ k hlt' s2, hx]
        rfl
       have HB := Lib.hid hb
       clear hb hx
       have hbl : ts[k].data.toList.length = ts[k].size := rfl
       have he9 := zaR ts[k].data.toList.length
       go_wp2_with fail
       generalize hcap : grownCap wr ts[k].size 0 5 = cp
       have hlb : ts[k].size ≤ cp := hcap ▸ grownCap_ge _ _ _ _
       clear hcap
       have hrow := fun W (hs : Sl W (· = wr.heap.size) (some ⟨wr.heap.size, 0, none⟩) (ts[k].data.toList.map B8)) => zg0 W (· = wr.heap.size) (some ⟨wr.heap.size, 0, none⟩) cp ts[k].data.toList hs (by rw [hbl]; omega)
       rw [hbl] at hrow he9 HB
       have hxl : (enc ts[k].size ++ ts[k].data.toList).length = (enc ts[k].size).length + ts[k].size := by rw [List.length_append, hbl]
       obtain ⟨x, hx⟩ : ∃ x, enc ts[k].size ++ ts[k].data.toList = x := ⟨_, rfl⟩
       obtain ⟨m, hm⟩ : ∃ m, (enc ts[k].size).length = m := ⟨_, rfl⟩
       rw [hx, hm] at hrow hxl
       rw [hx] at HB
       rw [hm] at he9
       have HX := Lib.hid hxl
       have HR := Lib.hid hrow
       clear hrow hbl hx hm hxl
       refine (HR.out _ (Sl.drew_ (zko wr ts[k] cp 5 _))).mono ?_
       rintro e w1 ⟨A1, c1, rfl, ho1, q1, n1⟩
       have q0 : Nw wr w1 := (((Fr.refl _ wr).alloc _).drew).tr q1
       go_wp2_with (at_builtin; refine zay rfl _ _ _ rfl 1 (.int .u8 0) Tryz.underlying48 zaL rfl (by decide) rfl (ho.fr q0 (fun _ _ h => h)) rfl ho1.sl (by rw [List.length_map, HX.out, Nat.mul_one]) (zar x) (by omega) (by unfold maxLen; omega) ?_; intro A' cap' w2 hap)
       go_roundw
       case rel =>
        refine ⟨k + 1, by omega, by go_num, ?_⟩
        show zaJ w (zb0 ((ts.map (·.data.toList)).take (k + 1)) s2).bs _ _
        rw [HB.out]
        exact zaJ.app ho hq hA q0 HX.out hap
       case measure => simp [intOf]; omega
      ·have e : (ts.map (·.data.toList)).take k = ts.map (·.data.toList) := List.take_of_length_le (by simp; omega)
       rw [e] at ho ⊢
       clear e
       have hlen1 := ze5 (ts.map (·.data.toList)) s2
       rw [List.length_map] at hlen1
       have hs3 : (zb0 (ts.map (·.data.toList)) s2).bs.length ≤ 400000000000 := by omega
       clear hlen1
       obtain ⟨s3, hs3e⟩ : ∃ s3, zb0 (ts.map (·.data.toList)) s2 = s3 := ⟨_, rfl⟩
       rw [hs3e] at ho hs3 ⊢
       have HS3 := Lib.hid hs3e
       clear hs3e
       go_wp2_with fail
       go_loopw [10, 16] (fun out i wr => ziD w rs.length (fun k => zb0 (rs.take k) s3) out i wr) (fun _ i _ => rs.length - (intOf i).toNat)
       case atStart => exact ⟨0, Nat.zero_le _, rfl, ⟨A, c, rfl, ho, hq, hA⟩⟩
       case round =>
        clear ho hq hA
        obtain ⟨k, hk, rfl, hout⟩ := hrel
        change zaJ w (zb0 (rs.take k) s3).bs _ _ at hout
        obtain ⟨A, c, rfl, ho, hq, hA⟩ := hout
        by_cases hlt : k < rs.length
        ·have hlen := ze5 (rs.take k) s3
         rw [List.length_take] at hlen
         have hle := zeC rs k hlt
         have hsm : (zb0 (rs.take k) s3).bs.length + rs[k].length ≤ 600000000000 := by omega
         have hsz : rs[k].length ≤ 100000000000 := by omega
         clear hlen hle
         have hb : (zb0 (rs.take (k + 1)) s3).bs = (zb0 (rs.take k) s3).bs ++ (enc rs[k].length ++ rs[k]) := by
          rw [zeA _ k hlt s3]
          rfl
         have HB := Lib.hid hb
         clear hb
         have he9 := zaR rs[k].length
         obtain ⟨v, hv, A6, c6, rfl, hcl1, hcl2, hs6⟩ := (hrs.fr hq (fun _ _ h => h)).2 k hlt
         obtain ⟨b, o, rfl, _, _, hcs⟩ := (h3.fr hq (fun _ _ h => h)).at_ (by rintro rfl; simp at hv)
         have hc := hcs k _ hv
         clear hcs hv
         have hrow := fun (W : World) (hs : Sl W F3 A6 (rs[k].map B8)) => zg0 W F3 A6 c6 rs[k] hs (by omega)
         have hxl : (enc rs[k].length ++ rs[k]).length = (enc rs[k].length).length + rs[k].length := List.length_append
         obtain ⟨x, hx⟩ : ∃ x, enc rs[k].length ++ rs[k] = x := ⟨_, rfl⟩
         obtain ⟨m, hm⟩ : ∃ m, (enc rs[k].length).length = m := ⟨_, rfl⟩
         rw [hx, hm] at hrow hxl
         rw [hx] at HB
         rw [hm] at he9
         have HX := Lib.hid hxl
         have HR := Lib.hid hrow
         clear hrow hx hm hxl
         go_wp2_with (first | (go_at_call 150; refine (HR.out _ hs6).mono ?_; rintro e w1 ⟨A1, c1, rfl, ho1, q1, n1⟩) | (at_builtin; refine zay rfl _ _ _ rfl 1 (.int .u8 0) Tryz.underlying48 zaL rfl (by decide) rfl (ho.fr q1 (fun _ _ h => h)) rfl ho1.sl (by rw [List.length_map, HX.out, Nat.mul_one]) (zar x) (by omega) (by unfold maxLen; omega) ?_; intro A' cap' w2 hap))
         go_roundw
         case rel =>
          refine ⟨k + 1, by omega, by go_num, ?_⟩
          show zaJ w (zb0 (rs.take (k + 1)) s3).bs _ _
          rw [HB.out]
          exact zaJ.app ho hq hA q1 HX.out hap
         case measure => simp [intOf]; omega
        ·have e : rs.take k = rs := List.take_of_length_le (by omega)
         rw [e] at ho ⊢
         clear e
         go_wp2_with fail
         go_ret2
         refine .inr ⟨HA.out, _, rfl, ?_⟩
         unfold zgf
         rw [HS1.out, HS2.out, HS3.out]
         exact ⟨A, c, rfl, ho, hq, hA⟩
open Go Go.RowKit
def Grow (W : World) (A0 : Option Addr) (bs : List UInt8) (A : Option Addr) (n c : Nat) (w : World) : Prop :=
 Own w 5 1 A n c (bs.map B8) ∧ Fr (inA A0) W w ∧ ∀ k, inA A k → inA A0 k ∨ W.heap.size ≤ k
theorem Grow.start {W : World} {A : Option Addr} {bs : List UInt8} {n c : Nat} (h : Own W 5 1 A n c (bs.map B8)) : Grow W A bs A n c W := ⟨h, Fr.refl _ _, fun _ h => .inl h⟩
theorem Grow.call {W w w' : World} {A0 A : Option Addr} {bs : List UInt8} {n c : Nat} (h : Grow W A0 bs A n c w) (q : Nw w w') : Grow W A0 bs A n c w' :=
 ⟨h.1.fr q (fun _ _ h => h), h.2.1.tr (Nw.on q), h.2.2⟩
theorem Grow.app {W w w' : World} {A0 A A' : Option Addr} {bs y : List UInt8} {n c m c' : Nat} (h : Grow W A0 bs A n c w) (hap : zaM w 5 1 A n c m (bs.map B8) (y.map B8) A' c' w') : Grow W A0 (bs ++ y) A' (n + m) c' w' := by
 obtain ⟨ho, _, hcase⟩ := hap
 refine ⟨by rw [List.map_append]; exact ho, ?_, fun k hk => ?_⟩
 ·rcases hcase with ⟨_, _, _, hf⟩ | ⟨_, _, hf⟩
  ·exact h.2.1.trans hf h.2.2
  ·exact h.2.1.tr (Nw.on hf)
 ·rcases hcase with ⟨_, rfl, _, _⟩ | ⟨_, rfl, _⟩
  ·exact h.2.2 k hk
  ·rw [(za9 _ _).1 hk]; exact .inr h.2.1.size
theorem Grow.out {w W w1 : World} {A0 A : Option Addr} {bs : List UInt8} {n c : Nat} (h : Grow W A0 bs A n c w1) (q : Nw w W) (hA : ∀ k, inA A0 k → w.heap.size ≤ k) (hn : n = bs.length) : zaJ w bs (.slice A n c) w1 := by
 subst hn
 exact ⟨A, c, rfl, h.1, q.new h.2.1 hA, fun k hk => (h.2.2 k hk).elim (hA k) fun h => Nat.le_trans q.size h⟩
theorem zaJ.back {w w1 w2 : World} {bs : List UInt8} {v : Value} (h : zaJ w1 bs v w2) (q : Nw w w1) : zaJ w bs v w2 := by
 obtain ⟨A, c, hv, ho, hq, hA⟩ := h
 exact ⟨A, c, hv, ho, q.tr hq, fun k hk => Nat.le_trans q.size (hA k hk)⟩
theorem zaM.nw {W1 W w w' : World} {A0 A A' : Option Addr} {n c m c' : Nat} {cs news : List Value} (q : Nw W1 w) (hA : ∀ k, inA A k → inA A0 k ∨ W.heap.size ≤ k) (hb : W1.heap.size ≤ W.heap.size ∧ ∀ k, inA A0 k → W1.heap.size ≤ k) (h : zaM w 5 1 A n c m cs news A' c' w') : Nw W1 w' := by
 rcases h.2.2 with ⟨_, _, _, hf⟩ | ⟨_, _, hf⟩
 ·exact q.new hf (fun k hk => (hA k hk).elim (hb.2 k) (fun h => Nat.le_trans hb.1 h))
 ·exact q.tr hf
theorem ziO {ns : List Int} (hr : ∀ x ∈ ns, zcf x) : zfC ns = true := decide_eq_true fun x hx => by have := hr x hx; unfold zcf topN at this; omega
theorem zcO (w : World) (n : Int) (hr : zcf n) : Calls Tryz.prog 206 #[I64 n] w fun e w' => ∃ v, e = .returned v ∧ zaJ w (enc n.toNat) v w' := by
 obtain ⟨h0, h1⟩ := hr
 obtain ⟨m, rfl⟩ : ∃ m : Nat, n = m := ⟨n.toNat, by omega⟩
 have hc := zh2 w m (by unfold topN at h1; omega)
 rw [Int.toNat_natCast]
 go_enter Tryz.func206, Tryz.ntmps206
 go_wp2_with fail
 refine hc.mono ?_
 rintro e w1 ⟨A, c, rfl, ho, q, hn⟩
 go_wp2_with fail
 go_ret
 exact ⟨_, rfl, A, c, rfl, ho, q, hn⟩
def DnRel (w : World) (f : Nat → List UInt8) (n : Nat) (out i : Value) (wr : World) : Prop := ∃ k : Nat, k ≤ n ∧ i = .int .i64 k ∧ zaJ w (f k) out wr
theorem zds (w : World) (F : Nat → Prop) (A : Option Addr) (c : Nat) (l : List Int) (hs : Sl w F A (zac l)) (hr : ∀ n ∈ l, zcf n) (hl : l.length ≤ 1000000) :
  Calls Tryz.prog 225 #[.slice A l.length c] w fun e w' => ∃ v, e = .returned v ∧ zaJ w (zbe l) v w' := by
 obtain ⟨n, hn⟩ : ∃ n, n = l.length := ⟨_, rfl⟩
 rw [← hn] at hl ⊢
 have HN := Lib.hid hn
 have c0 := zcO w (n : Int) (zdj n (by omega))
 rw [Int.toNat_natCast] at c0
 have HR := Lib.hid hr
 clear hn hr
 go_enter Tryz.func225, Tryz.ntmps225
 go_wp2_with fail
 refine c0.mono ?_
 rintro e w1 ⟨v0, rfl, ho1⟩
 have t1 : zaJ w (enc n ++ zah (l.take 0)) v0 w1 := by simpa [zah] using ho1
 clear c0 ho1
 go_wp2_with fail
 go_loopw [3, 4] (fun o i wx => DnRel w (fun k => enc n ++ zah (l.take k)) n o i wx) (fun _ i _ => n - (intOf i).toNat)
 case atStart => exact ⟨0, Nat.zero_le _, rfl, t1⟩
 case round =>
  clear t1
  obtain ⟨k, hk, rfl, A0, c0, rfl, ho, hq, hA0⟩ := hrel
  have hen := zaR n
  have hea := zbZ (l.take k)
  have htl : (l.take k).length ≤ n := by rw [List.length_take]; omega
  obtain ⟨bs0, hbs0⟩ : ∃ bs0, enc n ++ zah (l.take k) = bs0 := ⟨_, rfl⟩
  have hb0 : bs0.length ≤ 10000000 := by rw [← hbs0, List.length_append]; omega
  simp only [hbs0] at ho ⊢
  have HB := Lib.hid hbs0
  clear hbs0 hea htl hen
  by_cases hlt : k < n
  ·have hkl : k < l.length := by rw [← HN.out]; exact hlt
   have hi0 : (k : Int) < (n : Int) := by omega
   obtain ⟨b, of, rfl, _, hc⟩ := (hs.fr hq (fun _ _ h => h)).get hkl
   have hrk := HR.out _ (List.getElem_mem hkl)
   obtain ⟨m, hm⟩ : ∃ m, l[k] = m := ⟨_, rfl⟩
   rw [hm] at hc hrk
   have hcm := zcO wr m hrk
   have hel := zaR m.toNat
   obtain ⟨x, hx⟩ : ∃ x, enc m.toNat = x := ⟨_, rfl⟩
   rw [hx] at hcm hel
   have HX := Lib.hid (And.intro hx hm)
   clear hx hm
   go_wp2_with fail
   refine hcm.mono ?_
   rintro e w2 ⟨_, rfl, A2, c2, rfl, o2, q2, n2⟩
   have ho2 := ho.fr q2 (fun _ _ h => h)
   go_wp2_with (at_builtin; refine zay rfl _ _ _ rfl 1 (.int .u8 0) Tryz.underlying48 zaL rfl (by decide) rfl ho2 rfl o2.sl (by simp) (zar _) (by omega) (by unfold maxLen; omega) ?_; intro B' c' w3 hap)
   go_roundw
   case rel =>
    refine ⟨k + 1, hlt, by go_num, ?_⟩
    have e1 : enc n ++ zah (l.take (k + 1)) = bs0 ++ x := by
     rw [List.take_succ_eq_append_getElem hkl, zfM, ← List.append_assoc, HB.out, HX.out.2, HX.out.1]
    show zaJ w (enc n ++ zah (l.take (k + 1))) _ _
    rw [e1]
    exact zaJ.app ho hq hA0 q2 rfl hap
   case measure => simp [intOf]; omega
  ·obtain rfl : k = n := by omega
   go_wp2_with fail
   go_ret
   have e : zbe l = bs0 := by
    rw [← HB.out, HN.out, List.take_of_length_le (Nat.le_refl _)]
    rfl
   refine ⟨_, rfl, ?_⟩
   rw [e]
   exact ⟨A0, c0, rfl, ho, hq, hA0⟩
theorem zfR (w : World) (F : Nat → Prop) (x : CfgM) (hx : zaD w F x) (hz : zaY x) (hr : CfgR x.x) :
  Calls Tryz.prog 207 #[.agg (cfgA x)] w fun e w' => ∃ v, e = .returned v ∧ zaJ w (cfgB x.x) v w' := by
 obtain ⟨X, hX⟩ : ∃ X, X = w.heap.size := ⟨_, rfl⟩
 obtain ⟨W1, hW1⟩ : ∃ W, W = w.alloc (.cells (cfgA x) 45) := ⟨_, rfl⟩
 have p0 : Nw w W1 := by rw [hW1]; exact (Fr.refl (fun _ => False) _).alloc _
 have x0 : Blk W1 X 45 (cfgA x) := by rw [hW1, hX]; exact Blk.new _ _ _
 have hS : ∀ w1, Nw W1 w1 → w1.cell? ⟨X, 0, none⟩ = some (.slice x.v.a x.v.l.length x.v.c) ∧ w1.cell? ⟨X, 1, none⟩ = some (.slice x.o.a x.o.l.length x.o.c) ∧ w1.cell? ⟨X, 2, none⟩ = some (.slice x.l.a x.l.l.length x.l.c) ∧ w1.cell? ⟨X, 3, none⟩ = some (.slice x.w.a x.w.l.length x.w.c) := fun w1 f => by
  have a := x0.fr f (fun h => h)
  exact ⟨by simpa using a.cell 0, by simpa using a.cell 1, by simpa using a.cell 2, by simpa using a.cell 3⟩
 have l1 := zcT x.v.l
 have l2 := zcT x.o.l
 have l3 := zcT x.l.l
 have l4 := zcT x.w.l
 have z1 := hz.v
 have z2 := hz.o
 have z3 := hz.l
 have z4 := hz.w
 have h1 : ∀ w1, Nw W1 w1 → _ := fun w1 f => zds w1 F x.v.a x.v.c x.v.l ((hx.v.nw (p0.tr f)).sl) hr.v z1
 have h2 : ∀ w1, Nw W1 w1 → _ := fun w1 f => zds w1 F x.o.a x.o.c x.o.l ((hx.o.nw (p0.tr f)).sl) hr.o z2
 have h3 : ∀ w1, Nw W1 w1 → _ := fun w1 f => zds w1 F x.l.a x.l.c x.l.l ((hx.l.nw (p0.tr f)).sl) hr.l z3
 have h4 : ∀ w1, Nw W1 w1 → _ := fun w1 f => zds w1 F x.w.a x.w.c x.w.l ((hx.w.nw (p0.tr f)).sl) hr.w z4
 have hall : cfgB x.x = ((zbe x.v.l ++ zbe x.o.l) ++ zbe x.l.l) ++ zbe x.w.l := by simp [cfgB]
 obtain ⟨b1, hb1⟩ : ∃ b, b = zbe x.v.l := ⟨_, rfl⟩
 obtain ⟨b2, hb2⟩ : ∃ b, b = zbe x.o.l := ⟨_, rfl⟩
 obtain ⟨b3, hb3⟩ : ∃ b, b = zbe x.l.l := ⟨_, rfl⟩
 obtain ⟨b4, hb4⟩ : ∃ b, b = zbe x.w.l := ⟨_, rfl⟩
 rw [← hb1] at h1 l1
 rw [← hb2] at h2 l2
 rw [← hb3] at h3 l3
 rw [← hb4] at h4 l4
 rw [← hb1, ← hb2, ← hb3, ← hb4] at hall
 have HALL := Lib.hid hall
 have H1 := Lib.hid h1
 have H2 := Lib.hid h2
 have H3 := Lib.hid h3
 have H4 := Lib.hid h4
 have HS := Lib.hid hS
 have HX := Lib.hid hX
 have HW1 := Lib.hid hW1
 have Q0 : Nw W1 W1.drew := (Fr.refl (fun _ => False) W1).drew
 have s0 := HS.out _ Q0
 clear hall h1 h2 h3 h4 hS hX hW1 x0 hb1 hb2 hb3 hb4 hx hr
 go_enter Tryz.func207, Tryz.ntmps207
 go_upto_region 1 with (fail)
 rw [← HX.out, ← HW1.out]
 go_region_held3 (fun w' => w'.cell? ⟨X, 0, none⟩ = some (.slice x.v.a x.v.l.length x.v.c) ∧ w'.cell? ⟨X, 1, none⟩ = some (.slice x.o.a x.o.l.length x.o.c) ∧ w'.cell? ⟨X, 2, none⟩ = some (.slice x.l.a x.l.l.length x.l.c) ∧ w'.cell? ⟨X, 3, none⟩ = some (.slice x.w.a x.w.l.length x.w.c)) (first | (with_reducible exact s0) | (with_reducible exact s1) | (with_reducible exact s2) | (with_reducible exact s3) | (with_reducible exact s4) | (with_reducible exact s5) | (with_reducible exact s6) | (with_reducible exact s7) | fail)
  ((first | (refine zbY (by rfl) _ _ _ (by rfl) 1 (.int .u8 0) Tryz.underlying48 zaL rfl (by decide) (by rfl) G6.1 (by rfl) o6.sl (by simp) (zar _) (by omega) (by unfold maxLen; omega) ?_; intro B7 d7 w7 hap7; have G7 := G6.app hap7; have Q7 := zaM.nw Q6 G6.2.2 ⟨Q1.size, n1⟩ hap7; have s7 := HS.out w7 Q7) | (go_at_call 225; refine (H4.out _ Q5).mono ?_; rintro e w6 ⟨_, rfl, A6, c6, rfl, o6, q6, n6⟩; have Q6 := Q5.tr q6; have s6 := HS.out w6 Q6; have G6 := G5.call q6) | (refine zbY (by rfl) _ _ _ (by rfl) 1 (.int .u8 0) Tryz.underlying48 zaL rfl (by decide) (by rfl) G4.1 (by rfl) o4.sl (by simp) (zar _) (by omega) (by unfold maxLen; omega) ?_; intro B5 d5 w5 hap5; have G5 := G4.app hap5; have Q5 := zaM.nw Q4 G4.2.2 ⟨Q1.size, n1⟩ hap5; have s5 := HS.out w5 Q5) | (go_at_call 225; refine (H3.out _ Q3).mono ?_; rintro e w4 ⟨_, rfl, A4, c4, rfl, o4, q4, n4⟩; have Q4 := Q3.tr q4; have s4 := HS.out w4 Q4; have G4 := G3.call q4) | (refine zbY (by rfl) _ _ _ (by rfl) 1 (.int .u8 0) Tryz.underlying48 zaL rfl (by decide) (by rfl) G2.1 (by rfl) o2.sl (by simp) (zar _) (by omega) (by unfold maxLen; omega) ?_; intro B3 d3 w3 hap3; have G3 := G2.app hap3; have Q3 := zaM.nw Q2 G2.2.2 ⟨Q1.size, n1⟩ hap3; have s3 := HS.out w3 Q3) | (go_at_call 225; refine (H2.out _ Q1).mono ?_; rintro e w2 ⟨_, rfl, A2, c2, rfl, o2, q2, n2⟩; have Q2 := Q1.tr q2; have s2 := HS.out w2 Q2; have G2 := G1.call q2) | (go_at_call 225; refine (H1.out _ Q0).mono ?_; rintro e w1 ⟨_, rfl, A1, c1, rfl, o1, q1, n1⟩; have Q1 := Q0.tr q1; have s1 := HS.out w1 Q1; have G1 := Grow.start (W := w1) o1)))
 go_wp2_with fail
 go_ret
 refine ⟨_, rfl, ?_⟩
 rw [HALL.out]
 exact G7.out (p0.tr Q1) (fun k hk => Nat.le_trans p0.size (n1 k hk)) (by simp only [List.length_append])
theorem zif (w : World) (F : Nat → Prop) (A : Option Addr) (c : Nat) (s : List UInt8) (h : Sl w F A (s.map B8)) (hs : s.length ≤ 1000000) : Calls Tryz.prog 150 #[.slice A s.length c] w fun e w' => ∃ v, e = .returned v ∧ zaJ w (rowB s) v w' := by
 refine (zg0 w F A c s h (by omega)).mono ?_
 rintro e w1 ⟨A1, c1, rfl, ho, q1, n1⟩
 have e1 : ((enc s.length).length + s.length) = (rowB s).length := by unfold rowB; rw [List.length_append]
 rw [e1] at ho ⊢
 exact ⟨_, rfl, A1, c1, rfl, ho, q1, n1⟩
theorem Grow.drew {W w : World} {A0 A : Option Addr} {bs : List UInt8} {n c : Nat} (h : Grow W A0 bs A n c w) : Grow W A0 bs A n c w.drew := ⟨h.1, h.2.1.drew, h.2.2⟩
theorem zkb (w : World) (F : Nat → Prop) (x : EntM) (hx : zau w F x) (hok : zbm x.x = true) :
  Calls Tryz.prog 148 #[.agg (entA x)] w fun e w' => ∃ v, e = .returned v ∧ zaJ w (entB x.x) v w' := by
 obtain ⟨ht, hk, hcm, hcf⟩ := zeV hok
 have ht : 0 ≤ x.term ∧ x.term ≤ 1073741824 := ht
 have hk : 1 ≤ x.kind ∧ x.kind ≤ 3 := hk
 have hcm : x.cmd.l.length ≤ 131072 := hcm
 have hcv : IntKind.i64.wrap x.kind = x.kind := IntWalk.i64_in _ (by omega)
 obtain ⟨X, hX⟩ : ∃ X, X = w.heap.size := ⟨_, rfl⟩
 obtain ⟨W1, hW1⟩ : ∃ W, W = w.alloc (.cells (entA x) 87) := ⟨_, rfl⟩
 have p0 : Nw w W1 := by rw [hW1]; exact (Fr.refl (fun _ => False) _).alloc _
 have x0 : Blk W1 X 87 (entA x) := by rw [hW1, hX]; exact Blk.new _ _ _
 have hS : ∀ w1, Nw W1 w1 → w1.cell? ⟨X, 0, none⟩ = some (I64 x.term) ∧ w1.cell? ⟨X, 1, none⟩ = some (U8V x.kind) ∧ w1.cell? ⟨X, 2, none⟩ = some (.slice x.cmd.a x.cmd.l.length x.cmd.c) ∧ w1.cell? ⟨X, 3, none⟩ = some (.slice x.cfg.v.a x.cfg.v.l.length x.cfg.v.c) ∧ w1.cell? ⟨X, 4, none⟩ = some (.slice x.cfg.o.a x.cfg.o.l.length x.cfg.o.c) ∧ w1.cell? ⟨X, 5, none⟩ = some (.slice x.cfg.l.a x.cfg.l.l.length x.cfg.l.c) ∧ w1.cell? ⟨X, 6, none⟩ = some (.slice x.cfg.w.a x.cfg.w.l.length x.cfg.w.c) := fun w1 f => by
  have a := x0.fr f (fun h => h)
  exact ⟨by simpa using a.cell 0, by simpa using a.cell 1, by simpa using a.cell 2, by simpa using a.cell 3, by simpa using a.cell 4, by simpa using a.cell 5, by simpa using a.cell 6⟩
 have h1 : ∀ w1, Nw W1 w1 → _ := fun w1 f => zcO w1 x.term (zbI _ (by omega) (by omega))
 have l1 := zaR x.term.toNat
 have h2 : ∀ w1, Nw W1 w1 → _ := fun w1 f => zcO w1 x.kind (zbI _ (by omega) (by omega))
 have l2 := zaR x.kind.toNat
 have h3 : ∀ w1, Nw W1 w1 → _ := fun w1 f => zif w1 F x.cmd.a x.cmd.c x.cmd.l ((hx.cmd.nw (p0.tr f)).sl) (by omega)
 have l3 := zdo x.cmd.l
 have h4 : ∀ w1, Nw W1 w1 → _ := fun w1 f => zfR w1 F x.cfg (hx.cfg.nw (p0.tr f)) (zeW hcf) (zfG hcf)
 have l4 := zeL (c := x.cfg.x) hcf
 have hall : entB x.x = ((enc x.term.toNat ++ enc x.kind.toNat) ++ rowB x.cmd.l) ++ cfgB x.cfg.x := by simp [entB]
 obtain ⟨b1, hb1⟩ : ∃ b, b = enc x.term.toNat := ⟨_, rfl⟩
 rw [← hb1] at h1 l1
 obtain ⟨b2, hb2⟩ : ∃ b, b = enc x.kind.toNat := ⟨_, rfl⟩
 rw [← hb2] at h2 l2
 obtain ⟨b3, hb3⟩ : ∃ b, b = rowB x.cmd.l := ⟨_, rfl⟩
 rw [← hb3] at h3 l3
 obtain ⟨b4, hb4⟩ : ∃ b, b = cfgB x.cfg.x := ⟨_, rfl⟩
 rw [← hb4] at h4 l4
 rw [← hb1, ← hb2, ← hb3, ← hb4] at hall
 have HALL := Lib.hid hall
 have H1 := Lib.hid h1
 have H2 := Lib.hid h2
 have H3 := Lib.hid h3
 have H4 := Lib.hid h4
 have HS := Lib.hid hS
 have HX := Lib.hid hX
 have HW1 := Lib.hid hW1
 have Q0 : Nw W1 W1.drew := (Fr.refl (fun _ => False) W1).drew
 have s0 := HS.out _ Q0
 clear hall h1 h2 h3 h4 hS hX hW1 x0 hb1 hb2 hb3 hb4
 go_enter Tryz.func148, Tryz.ntmps148
 go_upto_region 1 with (fail)
 rw [← HX.out, ← HW1.out]
 first | (go_region_held3 (fun w' => w'.cell? ⟨X, 0, none⟩ = some (I64 x.term) ∧ w'.cell? ⟨X, 1, none⟩ = some (U8V x.kind) ∧ w'.cell? ⟨X, 2, none⟩ = some (.slice x.cmd.a x.cmd.l.length x.cmd.c) ∧ w'.cell? ⟨X, 3, none⟩ = some (.slice x.cfg.v.a x.cfg.v.l.length x.cfg.v.c) ∧ w'.cell? ⟨X, 4, none⟩ = some (.slice x.cfg.o.a x.cfg.o.l.length x.cfg.o.c) ∧ w'.cell? ⟨X, 5, none⟩ = some (.slice x.cfg.l.a x.cfg.l.l.length x.cfg.l.c) ∧ w'.cell? ⟨X, 6, none⟩ = some (.slice x.cfg.w.a x.cfg.w.l.length x.cfg.w.c)) (first | (with_reducible exact s0) | (with_reducible exact s1) | (with_reducible exact s2) | (with_reducible exact s3) | fail)
  ((first | (refine zbY (by rfl) _ _ _ (by rfl) 1 (.int .u8 0) Tryz.underlying48 zaL rfl (by decide) (by rfl) G2.1 (by rfl) o2.sl (by simp) (zar _) (by omega) (by unfold maxLen; omega) ?_; intro B3 d3 w3 hap3; have G3 := G2.app hap3; have Q3 := zaM.nw Q2 G2.2.2 ⟨Q1.size, n1⟩ hap3; have s3 := HS.out w3 Q3) | (go_at_call 206; refine (H2.out _ Q1).mono ?_; rintro e w2 ⟨_, rfl, A2, c2, rfl, o2, q2, n2⟩; have Q2 := Q1.tr q2; have s2 := HS.out w2 Q2; have G2 := G1.call q2) | (go_at_call 206; refine (H1.out _ Q0).mono ?_; rintro e w1 ⟨_, rfl, A1, c1, rfl, o1, q1, n1⟩; have Q1 := Q0.tr q1; have s1 := HS.out w1 Q1; have G1 := Grow.start (W := w1) o1)))) | fail
 have G3d := G3.drew
 have Q3d := Q3.drew
 have s3d := HS.out _ Q3d
 go_upto_region 2 with (fail)
 first | (go_region_held3 (fun w' => w'.cell? ⟨X, 0, none⟩ = some (I64 x.term) ∧ w'.cell? ⟨X, 1, none⟩ = some (U8V x.kind) ∧ w'.cell? ⟨X, 2, none⟩ = some (.slice x.cmd.a x.cmd.l.length x.cmd.c) ∧ w'.cell? ⟨X, 3, none⟩ = some (.slice x.cfg.v.a x.cfg.v.l.length x.cfg.v.c) ∧ w'.cell? ⟨X, 4, none⟩ = some (.slice x.cfg.o.a x.cfg.o.l.length x.cfg.o.c) ∧ w'.cell? ⟨X, 5, none⟩ = some (.slice x.cfg.l.a x.cfg.l.l.length x.cfg.l.c) ∧ w'.cell? ⟨X, 6, none⟩ = some (.slice x.cfg.w.a x.cfg.w.l.length x.cfg.w.c)) (first | (with_reducible exact s3d) | (with_reducible exact s4) | (with_reducible exact s5) | (with_reducible exact s6) | (with_reducible exact s7) | fail)
  ((first | (refine zbY (by rfl) _ _ _ (by rfl) 1 (.int .u8 0) Tryz.underlying48 zaL rfl (by decide) (by rfl) G6.1 (by rfl) o6.sl (by simp) (zar _) (by omega) (by unfold maxLen; omega) ?_; intro B7 d7 w7 hap7; have G7 := G6.app hap7; have Q7 := zaM.nw Q6 G6.2.2 ⟨Q1.size, n1⟩ hap7; have s7 := HS.out w7 Q7) | (go_at_call 207; refine (H4.out _ Q5).mono ?_; rintro e w6 ⟨_, rfl, A6, c6, rfl, o6, q6, n6⟩; have Q6 := Q5.tr q6; have s6 := HS.out w6 Q6; have G6 := G5.call q6) | (refine zbY (by rfl) _ _ _ (by rfl) 1 (.int .u8 0) Tryz.underlying48 zaL rfl (by decide) (by rfl) G4.1 (by rfl) o4.sl (by simp) (zar _) (by omega) (by unfold maxLen; omega) ?_; intro B5 d5 w5 hap5; have G5 := G4.app hap5; have Q5 := zaM.nw Q4 G4.2.2 ⟨Q1.size, n1⟩ hap5; have s5 := HS.out w5 Q5) | (go_at_call 150; refine (H3.out _ Q3d).mono ?_; rintro e w4 ⟨_, rfl, A4, c4, rfl, o4, q4, n4⟩; have Q4 := Q3d.tr q4; have s4 := HS.out w4 Q4; have G4 := G3d.call q4)))) | fail
 go_wp2_with fail
 go_ret
 refine ⟨_, rfl, ?_⟩
 rw [HALL.out]
 exact G7.out (p0.tr Q1) (fun k hk => Nat.le_trans p0.size (n1 k hk)) (by simp only [List.length_append])
theorem zlg (w : World) (F : Nat → Prop) (x : BasM) (hx : zaD w F x.cfg) (hok : zbi x.x = true) :
  Calls Tryz.prog 149 #[.agg (basA x)] w fun e w' => ∃ v, e = .returned v ∧ zaJ w (basB x.x) v w' := by
 obtain ⟨ht, hk, hcf⟩ := zef hok
 have ht : 0 ≤ x.index ∧ x.index ≤ 1073741824 := ht
 have hk : 0 ≤ x.term ∧ x.term ≤ 1073741824 := hk
 obtain ⟨X, hX⟩ : ∃ X, X = w.heap.size := ⟨_, rfl⟩
 obtain ⟨W1, hW1⟩ : ∃ W, W = w.alloc (.cells (basA x) 47) := ⟨_, rfl⟩
 have p0 : Nw w W1 := by rw [hW1]; exact (Fr.refl (fun _ => False) _).alloc _
 have x0 : Blk W1 X 47 (basA x) := by rw [hW1, hX]; exact Blk.new _ _ _
 have hS : ∀ w1, Nw W1 w1 → w1.cell? ⟨X, 0, none⟩ = some (I64 x.index) ∧ w1.cell? ⟨X, 1, none⟩ = some (I64 x.term) ∧ w1.cell? ⟨X, 2, none⟩ = some (.slice x.cfg.v.a x.cfg.v.l.length x.cfg.v.c) ∧ w1.cell? ⟨X, 3, none⟩ = some (.slice x.cfg.o.a x.cfg.o.l.length x.cfg.o.c) ∧ w1.cell? ⟨X, 4, none⟩ = some (.slice x.cfg.l.a x.cfg.l.l.length x.cfg.l.c) ∧ w1.cell? ⟨X, 5, none⟩ = some (.slice x.cfg.w.a x.cfg.w.l.length x.cfg.w.c) := fun w1 f => by
  have a := x0.fr f (fun h => h)
  exact ⟨by simpa using a.cell 0, by simpa using a.cell 1, by simpa using a.cell 2, by simpa using a.cell 3, by simpa using a.cell 4, by simpa using a.cell 5⟩
 have h1 : ∀ w1, Nw W1 w1 → _ := fun w1 f => zcO w1 x.index (zbI _ (by omega) (by omega))
 have l1 := zaR x.index.toNat
 have h2 : ∀ w1, Nw W1 w1 → _ := fun w1 f => zcO w1 x.term (zbI _ (by omega) (by omega))
 have l2 := zaR x.term.toNat
 have h3 : ∀ w1, Nw W1 w1 → _ := fun w1 f => zfR w1 F x.cfg (hx.nw (p0.tr f)) (zeW hcf) (zfG hcf)
 have l3 := zeL (c := x.cfg.x) hcf
 have hall : basB x.x = (enc x.index.toNat ++ enc x.term.toNat) ++ cfgB x.cfg.x := by simp [basB]
 obtain ⟨b1, hb1⟩ : ∃ b, b = enc x.index.toNat := ⟨_, rfl⟩
 rw [← hb1] at h1 l1
 obtain ⟨b2, hb2⟩ : ∃ b, b = enc x.term.toNat := ⟨_, rfl⟩
 rw [← hb2] at h2 l2
 obtain ⟨b3, hb3⟩ : ∃ b, b = cfgB x.cfg.x := ⟨_, rfl⟩
 rw [← hb3] at h3 l3
 rw [← hb1, ← hb2, ← hb3] at hall
 have HALL := Lib.hid hall
 have H1 := Lib.hid h1
 have H2 := Lib.hid h2
 have H3 := Lib.hid h3
 have HS := Lib.hid hS
 have HX := Lib.hid hX
 have HW1 := Lib.hid hW1
 have Q0 : Nw W1 W1.drew := (Fr.refl (fun _ => False) W1).drew
 have s0 := HS.out _ Q0
 clear hall h1 h2 h3 hS hX hW1 x0 hb1 hb2 hb3
 go_enter Tryz.func149, Tryz.ntmps149
 go_upto_region 1 with (fail)
 rw [← HX.out, ← HW1.out]
 first | (go_region_held3 (fun w' => w'.cell? ⟨X, 0, none⟩ = some (I64 x.index) ∧ w'.cell? ⟨X, 1, none⟩ = some (I64 x.term) ∧ w'.cell? ⟨X, 2, none⟩ = some (.slice x.cfg.v.a x.cfg.v.l.length x.cfg.v.c) ∧ w'.cell? ⟨X, 3, none⟩ = some (.slice x.cfg.o.a x.cfg.o.l.length x.cfg.o.c) ∧ w'.cell? ⟨X, 4, none⟩ = some (.slice x.cfg.l.a x.cfg.l.l.length x.cfg.l.c) ∧ w'.cell? ⟨X, 5, none⟩ = some (.slice x.cfg.w.a x.cfg.w.l.length x.cfg.w.c)) (first | (with_reducible exact s0) | (with_reducible exact s1) | (with_reducible exact s2) | (with_reducible exact s3) | (with_reducible exact s4) | (with_reducible exact s5) | fail)
  ((first | (refine zbY (by rfl) _ _ _ (by rfl) 1 (.int .u8 0) Tryz.underlying48 zaL rfl (by decide) (by rfl) G4.1 (by rfl) o4.sl (by simp) (zar _) (by omega) (by unfold maxLen; omega) ?_; intro B5 d5 w5 hap5; have G5 := G4.app hap5; have Q5 := zaM.nw Q4 G4.2.2 ⟨Q1.size, n1⟩ hap5; have s5 := HS.out w5 Q5) | (go_at_call 207; refine (H3.out _ Q3).mono ?_; rintro e w4 ⟨_, rfl, A4, c4, rfl, o4, q4, n4⟩; have Q4 := Q3.tr q4; have s4 := HS.out w4 Q4; have G4 := G3.call q4) | (refine zbY (by rfl) _ _ _ (by rfl) 1 (.int .u8 0) Tryz.underlying48 zaL rfl (by decide) (by rfl) G2.1 (by rfl) o2.sl (by simp) (zar _) (by omega) (by unfold maxLen; omega) ?_; intro B3 d3 w3 hap3; have G3 := G2.app hap3; have Q3 := zaM.nw Q2 G2.2.2 ⟨Q1.size, n1⟩ hap3; have s3 := HS.out w3 Q3) | (go_at_call 206; refine (H2.out _ Q1).mono ?_; rintro e w2 ⟨_, rfl, A2, c2, rfl, o2, q2, n2⟩; have Q2 := Q1.tr q2; have s2 := HS.out w2 Q2; have G2 := G1.call q2) | (go_at_call 206; refine (H1.out _ Q0).mono ?_; rintro e w1 ⟨_, rfl, A1, c1, rfl, o1, q1, n1⟩; have Q1 := Q0.tr q1; have s1 := HS.out w1 Q1; have G1 := Grow.start (W := w1) o1)))) | fail
 go_wp2_with fail
 go_ret
 refine ⟨_, rfl, ?_⟩
 rw [HALL.out]
 exact G5.out (p0.tr Q1) (fun k hk => Nat.le_trans p0.size (n1 k hk)) (by simp only [List.length_append])
open Go Go.RowKit
structure DwP where
 W1 : World
 W0 : World
 A0 : Option Addr
 c0 : Nat
 bs0 : List UInt8
 y1 : List UInt8
 y2 : List UInt8
 cs : Array Value
 k1 : Nat
 k2 : Nat
 kb : Nat
 k3 : Nat
 k4 : Nat
structure DwS (p : DwP) (l1 l2 lb l3 l4 : Bool) (b1 b2 bb b3 b4 : Nat × Option Addr) (w : World) : Prop where
 o2 : l2 = true → l1 = true
 o3 : l3 = true → l2 = true
 o4 : l4 = true → l3 = true
 nw : Nw p.W1 w
 fb : lb = true → Blk w bb.1 3 p.cs
 f1 : l1 = true → l2 = false → Own w 5 1 b1.2 p.y1.length b1.1 (p.y1.map B8)
 g0 : l2 = false → Grow p.W0 p.A0 p.bs0 p.A0 p.bs0.length p.c0 w
 g2 : l2 = true → l4 = false → Grow p.W0 p.A0 (p.bs0 ++ p.y1) b2.2 (p.bs0.length + p.y1.length) b2.1 w
 f3 : l3 = true → l4 = false → Own w 5 1 b3.2 p.y2.length b3.1 (p.y2.map B8)
 g4 : l4 = true → Grow p.W0 p.A0 (p.bs0 ++ p.y1 ++ p.y2) b4.2 (p.bs0.length + p.y1.length + p.y2.length) b4.1 w
structure DwH (p : DwP) : Prop where
 sz : p.W1.heap.size ≤ p.W0.heap.size
 new : ∀ k, inA p.A0 k → p.W1.heap.size ≤ k
section
variable {p : DwP} {l1 l2 lb l3 l4 : Bool} {b1 b2 bb b3 b4 : Nat × Option Addr} {w w' : World}
theorem DwS.nw_ (h : DwS p l1 l2 lb l3 l4 b1 b2 bb b3 b4 w) (q : Nw w w') : DwS p l1 l2 lb l3 l4 b1 b2 bb b3 b4 w' :=
 ⟨h.o2, h.o3, h.o4, h.nw.tr q, fun e => (h.fb e).fr q (fun h => h), fun e1 e2 => (h.f1 e1 e2).fr q (fun _ _ h => h), fun e => (h.g0 e).call q, fun e1 e2 => (h.g2 e1 e2).call q, fun e1 e2 => (h.f3 e1 e2).fr q (fun _ _ h => h), fun e => (h.g4 e).call q⟩
theorem DwS.build (h : DwS p l1 l2 lb l3 l4 b1 b2 bb b3 b4 w) : DwS p l1 l2 true l3 l4 b1 b2 (w.heap.size, none) b3 b4 (w.alloc (.cells p.cs 3)) := by
 have h2 := h.nw_ ((Fr.refl (fun _ => False) w).alloc (.cells p.cs 3))
 exact ⟨h2.o2, h2.o3, h2.o4, h2.nw, fun _ => Blk.new w _ _, h2.f1, h2.g0, h2.g2, h2.f3, h2.g4⟩
theorem DwS.call1 (h : DwS p false l2 lb l3 l4 b1 b2 bb b3 b4 w) {v : Value} (ho : zaJ w p.y1 v w') : ∃ b : Nat × Option Addr, v = .slice b.2 p.y1.length b.1 ∧ DwS p true l2 lb l3 l4 b b2 bb b3 b4 w' := by
 obtain ⟨A, c, rfl, o, q, n⟩ := ho
 have h2 := h.nw_ q
 exact ⟨(c, A), rfl, ⟨fun _ => rfl, h2.o3, h2.o4, h2.nw, h2.fb, fun _ _ => o, h2.g0, h2.g2, h2.f3, h2.g4⟩⟩
theorem DwS.call2 (h : DwS p l1 true lb false l4 b1 b2 bb b3 b4 w) {v : Value} (ho : zaJ w p.y2 v w') : ∃ b : Nat × Option Addr, v = .slice b.2 p.y2.length b.1 ∧ DwS p l1 true lb true l4 b1 b2 bb b b4 w' := by
 obtain ⟨A, c, rfl, o, q, n⟩ := ho
 have h2 := h.nw_ q
 exact ⟨(c, A), rfl, ⟨h2.o2, fun _ => rfl, fun _ => rfl, h2.nw, h2.fb, h2.f1, h2.g0, h2.g2, fun _ _ => o, h2.g4⟩⟩
theorem DwS.app1 (hp : DwH p) (h : DwS p true false lb l3 l4 b1 b2 bb b3 b4 w) {A' : Option Addr} {c' : Nat} (hap : zaM w 5 1 p.A0 p.bs0.length p.c0 p.y1.length (p.bs0.map B8) (p.y1.map B8) A' c' w') : DwS p true true lb l3 l4 b1 (c', A') bb b3 b4 w' := by
 have hg := h.g0 rfl
 have hf := hap.fr
 have h3 : l3 = false := by cases l3 with | false => rfl | true => exact absurd (h.o3 rfl) (by simp)
 have h4 : l4 = false := by cases l4 with | false => rfl | true => exact absurd (h.o4 rfl) (by rw [h3]; simp)
 subst h3
 subst h4
 refine ⟨fun _ => rfl, fun e => (by cases e), fun e => (by cases e), zaM.nw (A0 := p.A0) (W := p.W0) h.nw (fun k hk => .inl hk) ⟨hp.sz, hp.new⟩ hap, fun e => (h.fb e).fr hf (hg.1.ne_ (h.fb e) (by decide)), fun _ e => (by cases e), fun e => (by cases e), fun _ _ => hg.app hap, fun e => (by cases e), fun e => (by cases e)⟩
theorem DwS.app2 (hp : DwH p) (h : DwS p l1 true lb true false b1 b2 bb b3 b4 w) {A' : Option Addr} {c' : Nat} (hap : zaM w 5 1 b2.2 (p.bs0.length + p.y1.length) b2.1 p.y2.length ((p.bs0 ++ p.y1).map B8) (p.y2.map B8) A' c' w') : DwS p l1 true lb true true b1 b2 bb b3 (c', A') w' := by
 have hg := h.g2 rfl rfl
 have hf := hap.fr
 have h1 : l1 = true := h.o2 rfl
 refine ⟨fun _ => h1, fun _ => rfl, fun _ => rfl, zaM.nw h.nw hg.2.2 ⟨hp.sz, hp.new⟩ hap, fun e => (h.fb e).fr hf (hg.1.ne_ (h.fb e) (by decide)), fun _ e => (by cases e), fun e => (by cases e), fun _ e => (by cases e), fun _ e => (by cases e), fun _ => hg.app hap⟩
end
def DwC (p : DwP) (L : Nat → Bool) (B : Bk) (w : World) : Prop := DwS p (L p.k1) (L p.k2) (L p.kb) (L p.k3) (L p.k4) (B p.k1) (B p.k2) (B p.kb) (B p.k3) (B p.k4) w
theorem DwC.start {p : DwP} (hp : DwH p) (h0 : Own p.W0 5 1 p.A0 p.bs0.length p.c0 (p.bs0.map B8)) (hq : Nw p.W1 p.W0) (B : Bk) : DwC p (fun _ => false) B p.W0.drew :=
 ⟨fun e => (by cases e), fun e => (by cases e), fun e => (by cases e), hq.drew, fun e => (by cases e), fun e => (by cases e), fun _ => (Grow.start h0).drew, fun e => (by cases e), fun e => (by cases e), fun e => (by cases e)⟩
def DwP.far (p : DwP) (j : Nat) : Bool := p.k1 != j && p.k2 != j && p.kb != j && p.k3 != j && p.k4 != j
theorem zbf (L : Nat → Bool) {j k : Nat} (h : k ≠ j) : onL L j k = L k := if_neg h
theorem zfg (L : Nat → Bool) (j : Nat) : onL L j j = true := if_pos rfl
theorem zbn (B : Bk) {j k : Nat} (b : Nat × Option Addr) (h : k ≠ j) : updB B j b k = B k := if_neg h
theorem zeF (B : Bk) (j : Nat) (b : Nat × Option Addr) : updB B j b j = b := if_pos rfl
section
variable {p : DwP} {L : Nat → Bool} {B : Bk} {w w' : World}
theorem DwC.keep (h : DwC p L B w) (j : Nat) (hj : p.far j = true) : DwC p (onL L j) B w := by
 unfold DwP.far at hj
 simp only [Bool.and_eq_true, bne_iff_ne, ne_eq] at hj
 unfold DwC at h ⊢
 rw [zbf L hj.1.1.1.1, zbf L hj.1.1.1.2, zbf L hj.1.1.2, zbf L hj.1.2, zbf L hj.2]
 exact h
structure DwI (p : DwP) : Prop where
 a : p.k1 ≠ p.k2 ∧ p.k1 ≠ p.kb ∧ p.k1 ≠ p.k3 ∧ p.k1 ≠ p.k4
 b : p.k2 ≠ p.kb ∧ p.k2 ≠ p.k3 ∧ p.k2 ≠ p.k4
 c : p.kb ≠ p.k3 ∧ p.kb ≠ p.k4 ∧ p.k3 ≠ p.k4
theorem DwC.build (hi : DwI p) (h : DwC p L B w) : DwC p (onL L p.kb) (updB B p.kb (w.heap.size, none)) (w.alloc (.cells p.cs 3)) := by
 have h2 := DwS.build h
 unfold DwC
 rw [zbf L hi.a.2.1, zbf L hi.b.1, zfg, zbf L (Ne.symm hi.c.1), zbf L (Ne.symm hi.c.2.1), zbn B _ hi.a.2.1, zbn B _ hi.b.1, zeF, zbn B _ (Ne.symm hi.c.1), zbn B _ (Ne.symm hi.c.2.1)]
 exact h2
theorem DwC.call1 (hi : DwI p) (h : DwC p L B w) (hl : L p.k1 = false) {v : Value} (ho : zaJ w p.y1 v w') : ∃ b : Nat × Option Addr, v = .slice b.2 p.y1.length b.1 ∧ DwC p (onL L p.k1) (updB B p.k1 b) w' := by
 unfold DwC at h
 rw [hl] at h
 obtain ⟨b, e, h2⟩ := DwS.call1 h ho
 refine ⟨b, e, ?_⟩
 unfold DwC
 rw [zfg, zbf L (Ne.symm hi.a.1), zbf L (Ne.symm hi.a.2.1), zbf L (Ne.symm hi.a.2.2.1), zbf L (Ne.symm hi.a.2.2.2), zeF, zbn B _ (Ne.symm hi.a.1), zbn B _ (Ne.symm hi.a.2.1), zbn B _ (Ne.symm hi.a.2.2.1), zbn B _ (Ne.symm hi.a.2.2.2)]
 exact h2
theorem DwC.app1 (hp : DwH p) (hi : DwI p) (h : DwC p L B w) (h1 : L p.k1 = true) (hl : L p.k2 = false) :
  Own w 5 1 p.A0 p.bs0.length p.c0 (p.bs0.map B8) ∧ Own w 5 1 (B p.k1).2 p.y1.length (B p.k1).1 (p.y1.map B8) ∧
   ∀ A' c' w', zaM w 5 1 p.A0 p.bs0.length p.c0 p.y1.length (p.bs0.map B8) (p.y1.map B8) A' c' w' → DwC p (onL L p.k2) (updB B p.k2 (c', A')) w' := by
 unfold DwC at h
 rw [hl, h1] at h
 refine ⟨(h.g0 rfl).1, h.f1 rfl rfl, fun A' c' w' hap => ?_⟩
 have h2 := DwS.app1 hp h hap
 unfold DwC
 rw [zbf L hi.a.1, h1, zfg, zbf L (Ne.symm hi.b.1), zbf L (Ne.symm hi.b.2.1), zbf L (Ne.symm hi.b.2.2), zbn B _ hi.a.1, zeF, zbn B _ (Ne.symm hi.b.1), zbn B _ (Ne.symm hi.b.2.1), zbn B _ (Ne.symm hi.b.2.2)]
 exact h2
theorem DwC.call2 (hi : DwI p) (h : DwC p L B w) (h2 : L p.k2 = true) (hb : L p.kb = true) (hl : L p.k3 = false) :
  Blk w (B p.kb).1 3 p.cs ∧ ∀ v w', zaJ w p.y2 v w' → ∃ b : Nat × Option Addr, v = .slice b.2 p.y2.length b.1 ∧ DwC p (onL L p.k3) (updB B p.k3 b) w' := by
 unfold DwC at h
 rw [hl, h2, hb] at h
 refine ⟨h.fb rfl, fun v w' ho => ?_⟩
 obtain ⟨b, e, h3⟩ := DwS.call2 h ho
 refine ⟨b, e, ?_⟩
 unfold DwC
 rw [zbf L hi.a.2.2.1, zbf L hi.b.2.1, zbf L hi.c.1, h2, hb, zfg, zbf L (Ne.symm hi.c.2.2), zbn B _ hi.a.2.2.1, zbn B _ hi.b.2.1, zbn B _ hi.c.1, zeF, zbn B _ (Ne.symm hi.c.2.2)]
 exact h3
theorem DwC.app2 (hp : DwH p) (hi : DwI p) (h : DwC p L B w) (h2 : L p.k2 = true) (h3 : L p.k3 = true) (hl : L p.k4 = false) :
  Own w 5 1 (B p.k2).2 (p.bs0.length + p.y1.length) (B p.k2).1 ((p.bs0 ++ p.y1).map B8) ∧ Own w 5 1 (B p.k3).2 p.y2.length (B p.k3).1 (p.y2.map B8) ∧
   ∀ A' c' w', zaM w 5 1 (B p.k2).2 (p.bs0.length + p.y1.length) (B p.k2).1 p.y2.length ((p.bs0 ++ p.y1).map B8) (p.y2.map B8) A' c' w' → DwC p (onL L p.k4) (updB B p.k4 (c', A')) w' := by
 unfold DwC at h
 rw [hl, h2, h3] at h
 refine ⟨(h.g2 rfl rfl).1, h.f3 rfl rfl, fun A' c' w' hap => ?_⟩
 have h4 := DwS.app2 hp h hap
 unfold DwC
 rw [zbf L hi.a.2.2.2, zbf L hi.b.2.2, h2, zbf L hi.c.2.1, zbf L hi.c.2.2, h3, zfg, zbn B _ hi.a.2.2.2, zbn B _ hi.b.2.2, zbn B _ hi.c.2.1, zbn B _ hi.c.2.2, zeF]
 exact h4
theorem DwC.done (h : DwC p L B w) (hl : L p.k4 = true) : Grow p.W0 p.A0 (p.bs0 ++ p.y1 ++ p.y2) (B p.k4).2 (p.bs0.length + p.y1.length + p.y2.length) (B p.k4).1 w ∧ Nw p.W1 w := ⟨h.g4 hl, h.nw⟩
end
theorem zdL {P : Program} {E : TypeId} {size n cap : Nat} {A : Option Addr} {cs : List Value} {F : Nat → Prop} {w : World} {o : Oper} {a : Act} {vf : Nat × Option Addr → Value} {K : Nat × Option Addr → World → Prop} (s x : Operand) (t : TypeId)
  (ho : o.op = .call { callee := .builtin .append, args := #[s, x], argTypes := #[t, t] }) (bytes : Nat) (z : Value) (ht : P.underlying t = some (.slice E))
  (hinfo : (P.info? E).map (fun i => (i.zero, i.size, i.bytes)) = some (some z, size, bytes)) (hzs : z.cells.size = size) (hsz : 0 < size)
  (hs : a.eval s = .slice A n cap) (hown : Own w E size A n cap cs) {A2 : Option Addr} {m c : Nat} {news : List Value} (hx : a.eval x = .slice A2 m c) (hsl : Sl w F A2 news) (hl : news.length = m * size) (h1 : ∀ u ∈ news, u.oneCell' = true)
  (hbytes : (n + m) * bytes ≤ 140737488355328) (hmax : n + m ≤ maxLen)
  (h : ∀ A' cap' w', zaM w E size A n cap m cs news A' cap' w' → .slice A' (n + m) cap' = vf (cap', A') ∧ K (cap', A') w') : zc2 P o a vf K w := by
 obtain ⟨A', cap', w', hrun, h2⟩ := zbG (P := P) w t o.type bytes z ht hinfo hzs hsz hown hsl hl h1 hbytes hmax (c := c)
 obtain ⟨h3, h4⟩ := h A' cap' w' h2
 unfold zc2 execOp
 simp only [ho, resolve, invoke, builtin, Sem.run_bind, Sem.run_pure, Result.andThen_ok, List.map_toArray, List.map_cons, List.map_nil, hs, hx]
 rw [hrun]
 exact ⟨_, h3, h4⟩
end Go.Proofs.YtippdjaakcgeoaaGreat
