/- Lemmas of the walks: Rgn, RefC, GcA, RrA, GdA. (Laid together by shake.py.) -/
import Derived.Recover
import Derived.Defers
import Derived.Test.YtippdjaakcgeoaaGreatEa02
import Derived.Test.YtippdjaakcgeoaaGreatEa03
import Derived.Test.YtippdjaakcgeoaaGreatEa05
import Derived.Test.YtippdjaakcgeoaaGreatEa14
import Derived.Test.YtippdjaakcgeoaaGreatEa15
set_option linter.unusedVariables false
set_option linter.unusedSimpArgs false
set_option maxRecDepth 100000
set_option maxHeartbeats 16000000
namespace Go.Proofs.YtippdjaakcgeoaaGreat
open Go Go.RowKit
def zdA (md : Region.Mode) (ops : Array Oper) (L : Nat → Bool) : Prop := ∀ k o, ops[k]? = some o → L k = true → ∀ j, zaG md o j = true → L j = true
theorem zdA.step {md : Region.Mode} {ops : Array Oper} {L : Nat → Bool} (h : zdA md ops L) {k : Nat} {o : Oper} (ho : ops[k]? = some o) (hD : ∀ j, zaG md o j = true → L j = true) : zdA md ops (onL L k) := fun i o' hi hl j hj => by
 unfold onL at hl ⊢
 by_cases e : j = k
 ·rw [if_pos e]
 rw [if_neg e]
 by_cases e2 : i = k
 ·subst e2
  rw [ho] at hi
  injection hi with hi
  subst hi
  exact hD j hj
 ·rw [if_neg e2] at hl
  exact h i o' hi hl j hj
def zbT (md : Region.Mode) (ops : Array Oper) (a b : Nat) : Bool := match ops[a]? with
 | none => false
 | some o => zaG md o b
theorem zdA.of {md : Region.Mode} {ops : Array Oper} {L : Nat → Bool} (h : zdA md ops L) {a b : Nat} (hw : zbT md ops a b = true) (ha : L a = true) : L b = true := by
 unfold zbT at hw
 cases ho : ops[a]? with
 | none => rw [ho] at hw; cases hw
 | some o => rw [ho] at hw; exact h a o ho ha b hw
theorem zdA.no {md : Region.Mode} {ops : Array Oper} {L : Nat → Bool} (h : zdA md ops L) {a b : Nat} (hw : zbT md ops a b = true) (hb : L b = false) : L a = false := by
 cases ha : L a with
 | false => rfl
 | true => rw [h.of hw ha] at hb; cases hb
def zbD (md : Region.Mode) (ops : Array Oper) (kc kb ka ks : Nat) (S0 S1 : World → Prop) (S2 : Nat → World → Prop) (S3 S4 : Nat × Option Addr → World → Prop) (L : Nat → Bool) (B : Bk) (w : World) : Prop :=
 zdA md ops L ∧ (if L ks = true then S4 (B ka) w else if L ka = true then S3 (B ka) w else if L kb = true then S2 (B kb).1 w else if L kc = true then S1 w else S0 w)
section
variable {md : Region.Mode} {ops : Array Oper} {kc kb ka ks : Nat} {S0 S1 : World → Prop} {S2 : Nat → World → Prop} {S3 S4 : Nat × Option Addr → World → Prop} {L : Nat → Bool} {B : Bk} {w w' : World} {o : Oper}
theorem zbD.start (h : S0 w) : zbD md ops kc kb ka ks S0 S1 S2 S3 S4 (fun _ => false) B w := ⟨fun _ _ _ h => (by cases h), by simpa using h⟩
theorem zaN {j k : Nat} (h : (k != j) = true) : onL L j k = L k := if_neg (by simpa using h)
theorem zbE {j : Nat} : onL L j j = true := if_pos rfl
theorem zbD.keep (h : zbD md ops kc kb ka ks S0 S1 S2 S3 S4 L B w) {j : Nat} (ho : ops[j]? = some o) (hD : ∀ i, zaG md o i = true → L i = true) (n1 : (kc != j) = true) (n2 : (kb != j) = true) (n3 : (ka != j) = true) (n4 : (ks != j) = true) : zbD md ops kc kb ka ks S0 S1 S2 S3 S4 (onL L j) B w :=
 ⟨h.1.step ho hD, by rw [zaN n1, zaN n2, zaN n3, zaN n4]; exact h.2⟩
theorem zbD.early (h : zbD md ops kc kb ka ks S0 S1 S2 S3 S4 L B w) {j : Nat} (hL : L j = false) (hj : zbT md ops ka j = true) (hs : zbT md ops ks ka = true) {φ : Prop} (h0 : S0 w → φ) (h1 : S1 w → φ) (h2 : ∀ b, S2 b w → φ) : φ := by
 have h5 := h.2
 have ha := h.1.no hj hL
 rw [ha, h.1.no hs ha, if_neg (by simp), if_neg (by simp)] at h5
 split at h5
 ·exact h2 _ h5
 split at h5
 ·exact h1 h5
 ·exact h0 h5
theorem zbD.call (h : zbD md ops kc kb ka ks S0 S1 S2 S3 S4 L B w) (hL : L kc = false) (hb : zbT md ops kb kc = true) (ha : zbT md ops ka kb = true) (hs : zbT md ops ks ka = true) (ho : ops[kc]? = some o) (hD : ∀ i, zaG md o i = true → L i = true) (n2 : (kb != kc) = true) (n3 : (ka != kc) = true) (n4 : (ks != kc) = true) :
  S0 w ∧ ∀ w', S1 w' → zbD md ops kc kb ka ks S0 S1 S2 S3 S4 (onL L kc) B w' := by
 have lb := h.1.no hb hL
 have la := h.1.no ha lb
 have ls := h.1.no hs la
 refine ⟨by simpa [lb, la, ls, hL] using h.2, fun w' h1 => ⟨h.1.step ho hD, ?_⟩⟩
 rw [zaN n2, zaN n3, zaN n4, zbE, lb, la, ls]
 simpa using h1
theorem zbD.build (h : zbD md ops kc kb ka ks S0 S1 S2 S3 S4 L B w) (hL : L kb = false) (hc : L kc = true) (ha : zbT md ops ka kb = true) (hs : zbT md ops ks ka = true) (ho : ops[kb]? = some o) (hD : ∀ i, zaG md o i = true → L i = true) (n3 : (ka != kb) = true) (n4 : (ks != kb) = true) :
  S1 w ∧ ∀ w' b, S2 b.1 w' → zbD md ops kc kb ka ks S0 S1 S2 S3 S4 (onL L kb) (updB B kb b) w' := by
 have la := h.1.no ha hL
 have ls := h.1.no hs la
 refine ⟨by simpa [la, ls, hL, hc] using h.2, fun w' b h1 => ⟨h.1.step ho hD, ?_⟩⟩
 rw [zaN n3, zaN n4, zbE, la, ls]
 simpa [updB] using h1
theorem zbD.app (h : zbD md ops kc kb ka ks S0 S1 S2 S3 S4 L B w) (hL : L ka = false) (hb : L kb = true) (hs : zbT md ops ks ka = true) (ho : ops[ka]? = some o) (hD : ∀ i, zaG md o i = true → L i = true) (n4 : (ks != ka) = true) :
  S2 (B kb).1 w ∧ ∀ w' b, S3 b w' → zbD md ops kc kb ka ks S0 S1 S2 S3 S4 (onL L ka) (updB B ka b) w' := by
 have ls := h.1.no hs hL
 refine ⟨by simpa [ls, hL, hb] using h.2, fun w' b h1 => ⟨h.1.step ho hD, ?_⟩⟩
 rw [zaN n4, zbE, ls]
 simpa [updB] using h1
theorem zbD.store (h : zbD md ops kc kb ka ks S0 S1 S2 S3 S4 L B w) (hL : L ks = false) (ha : L ka = true) (ho : ops[ks]? = some o) (hD : ∀ i, zaG md o i = true → L i = true) :
  S3 (B ka) w ∧ ∀ w', S4 (B ka) w' → zbD md ops kc kb ka ks S0 S1 S2 S3 S4 (onL L ks) B w' := by
 refine ⟨by simpa [hL, ha] using h.2, fun w' h1 => ⟨h.1.step ho hD, ?_⟩⟩
 rw [zbE]
 simpa using h1
theorem zbD.fin (h : zbD md ops kc kb ka ks S0 S1 S2 S3 S4 L B w) (hs : L ks = true) : S4 (B ka) w := by
 have h5 := h.2
 rwa [if_pos hs] at h5
end
theorem zhE {P : Program} {KP : List PanicEntry → World → Prop} {E : TypeId} {size n cap : Nat} {A : Option Addr} {cs : List Value} {F : Nat → Prop} {w : World} {o : Oper} {a : Act} {vf : Nat × Option Addr → Value} {K : Nat × Option Addr → World → Prop} (s x : Operand) (t : TypeId)
  (ho : o.op = .call { callee := .builtin .append, args := #[s, x], argTypes := #[t, t] }) (bytes : Nat) (z : Value) (ht : P.underlying t = some (.slice E))
  (hinfo : (P.info? E).map (fun i => (i.zero, i.size, i.bytes)) = some (some z, size, bytes)) (hzs : z.cells.size = size) (hsz : 0 < size)
  (hs : a.eval s = .slice A n cap) (hown : Own w E size A n cap cs) {A2 : Option Addr} {m c : Nat} {news : List Value} (hx : a.eval x = .slice A2 m c) (hsl : Sl w F A2 news) (hl : news.length = m * size) (h1 : ∀ u ∈ news, u.oneCell' = true)
  (hbytes : (n + m) * bytes ≤ 140737488355328) (hmax : n + m ≤ maxLen)
  (h : ∀ A' cap' w', zaM w E size A n cap m cs news A' cap' w' → ∃ b, .slice A' (n + m) cap' = vf b ∧ K b w') : zdS P KP o a vf K w := by
 obtain ⟨A', cap', w', hrun, h2⟩ := zbG (P := P) w t o.type bytes z ht hinfo hzs hsz hown hsl hl h1 hbytes hmax (c := c)
 unfold zdS execOp
 simp only [ho, resolve, invoke, builtin, Sem.run_bind, Sem.run_pure, Result.andThen_ok, List.map_toArray, List.map_cons, List.map_nil, hs, hx]
 rw [hrun]
 exact h A' cap' w' h2
theorem zhH {P : Program} {id : Nat} {Q : Exit → Act → World → Prop} {a : Act} {w : World} {l : List Oper} (kc kb ka ks : Nat) (S0 S1 : World → Prop) (S2 : Nat → World → Prop) (S3 S4 : Nat × Option Addr → World → Prop) (hm : P.follows .mixedOrders = true) (hB : effB .any l.toArray = true) (h0 : S0 w.drew)
  (h : zcM .any P (fun _ _ => False) l.toArray (zbD .any l.toArray kc kb ka ks S0 S1 S2 S3 S4) (fun B a' => ∀ w', zbD .any l.toArray kc kb ka ks S0 S1 S2 S3 S4 (fun j => decide (j < l.length)) B w' → Q .normal a' w') l 0 (fun _ => a)) : (Code.region id l.toArray true).wp P Q a w :=
 zh3 (fun _ _ => False) (fun _ _ _ _ h => h.elim) (zbD .any l.toArray kc kb ka ks S0 S1 S2 S3 S4) (fun _ => (0, none)) hm hB (zbD.start h0) h
open Go Go.RowKit
theorem ziI : (Tryz.prog.info? 3).map (fun i => (i.zero, i.size, i.bytes)) = some (some (.int .i64 0), 1, 8) := by kernel_rfl
theorem and127 (n : Nat) (h : n ≤ 4611686018427387903) : bits BinOp.and IntKind.i64 (n : Int) 127 = ((n % 128 : Nat) : Int) := by
 show IntKind.i64.wrap ((BitVec.ofInt 64 (n : Int) &&& BitVec.ofInt 64 ((127 : Nat) : Int)).toNat : Int) = _
 rw [BitVec.toNat_and, zdc n (by omega), zdc 127 (by omega), show (127 : Nat) = 2 ^ 7 - 1 from rfl, Nat.and_two_pow_sub_one_eq_mod, IntKind.wrap_i64]
 omega
theorem or128 (m : Nat) : bits BinOp.or IntKind.u8 ((UInt8.ofNat (m % 128)).toNat : Int) 128 = ((UInt8.ofNat (m % 128 + 128)).toNat : Int) := by
 have h := zkD (m % 128)
 rw [Nat.mod_mod] at h
 rw [← h, UInt8.toNat_ofNat']
 congr 1
theorem zmp (m : Nat) : ((m % 128 : Nat) : Int) % 256 = ((UInt8.ofNat (m % 128)).toNat : Int) := zjd (m % 128) (by omega)
theorem zm0 (w : World) (n : Int) (hn : n < 0 ∨ 4611686018427387903 < n) :
  Calls Tryz.prog 205 #[.int .i64 n] w fun e w' => e = .returned (.tuple #[.slice none 0 0, .bool false]) ∧ w = w' := by
 by_cases h0 : n < 0
 ·go_enter Tryz.func205, Tryz.ntmps205
  go_wp2_with fail
  go_ret2
  exact ⟨rfl, rfl⟩
 ·have h1 : 4611686018427387903 < n := by omega
  go_enter Tryz.func205, Tryz.ntmps205
  go_wp2_with fail
  go_ret2
  exact ⟨rfl, rfl⟩
def zj3 (w : World) (n : Nat) (v out : Value) (wr : World) : Prop :=
 ∃ (m : Nat) (p : List UInt8) (g cap : Nat), v = .int .i64 (m / 128 : Nat) ∧ out = .slice (some ⟨g, 0, none⟩) (p.length + 1) cap ∧ m ≤ topN ∧ p.length + (enc m).length = (enc n).length ∧ p ++ enc m = enc n ∧
  Own wr 5 1 (some ⟨g, 0, none⟩) (p.length + 1) cap ((p ++ [UInt8.ofNat (m % 128)]).map B8) ∧ Nw w wr ∧ w.heap.size ≤ g
theorem zkJ (n : Nat) (h : n ≤ 4611686018427387903) : bits BinOp.and IntKind.i64 (n : Int) 127 % 256 = ((UInt8.ofNat (n % 128)).toNat : Int) := by
 rw [and127 n h]
 exact zmp n
theorem zh2 (w : World) (n : Nat) (hn : n ≤ 4611686018427387903) :
  Calls Tryz.prog 205 #[.int .i64 n] w fun e w' => ∃ A c, e = .returned (.tuple #[.slice A (enc n).length c, .bool true]) ∧ Own w' 5 1 A (enc n).length c ((enc n).map B8) ∧ Nw w w' ∧ ∀ k, inA A k → w.heap.size ≤ k := by
 go_enter Tryz.func205, Tryz.ntmps205
 go_wp2_with fail
 go_loopw [0, 4] (fun v out wr => zj3 w n v out wr) (fun v _ _ => (intOf v).toNat)
 case atStart =>
  refine ⟨n, [], w.heap.size, 1, by go_num, rfl, hn, by simp, rfl, ?_, (Fr.refl _ w).alloc _, Nat.le_refl _⟩
  rw [zkJ n hn]
  exact Own.new w 5 1 1 1 #[B8 (UInt8.ofNat (n % 128))] (Nat.le_refl _) (by decide) rfl
 case round =>
  obtain ⟨m, p, g, cap, rfl, rfl, hm, hl, he, ho, hq, hg⟩ := hrel
  have HE := Lib.hid he
  have HL := Lib.hid hl
  have hlen := zaR n
  have hpl : p.length ≤ 9 := by omega
  clear he hl hlen
  have hm' := hm
  unfold topN at hm'
  obtain ⟨k, hk⟩ : ∃ k, m / 128 = k := ⟨_, rfl⟩
  rw [hk]
  have HK := Lib.hid hk
  have hk2 : k ≤ 4611686018427387903 := by omega
  clear hk
  by_cases hpos : 0 < k
  ·have hc := ho.cellAt (k := p.length) (by omega)
   have e : ((p ++ [UInt8.ofNat (m % 128)]).map B8)[p.length]? = some (B8 (UInt8.ofNat (m % 128))) := by simp
   rw [e] at hc
   have hfz := ho.frozenAt p.length
   have hor := or128 m
   have hbk := zkJ k hk2
   have hst := ho.store p.length (B8 (UInt8.ofNat (m % 128 + 128)))
   have e2 : ((p ++ [UInt8.ofNat (m % 128)]).map B8).set p.length (B8 (UInt8.ofNat (m % 128 + 128))) = (p ++ [UInt8.ofNat (m % 128 + 128)]).map B8 := by simp
   rw [e2] at hst
   have henc := zj9 m (by have := HK.out; omega) hm
   rw [HK.out] at henc
   have HN := Lib.hid henc
   clear e e2 henc
   obtain ⟨x, hx⟩ : ∃ x, UInt8.ofNat (m % 128) = x := ⟨_, rfl⟩
   obtain ⟨y, hy⟩ : ∃ y, UInt8.ofNat (m % 128 + 128) = y := ⟨_, rfl⟩
   obtain ⟨z, hz⟩ : ∃ z, UInt8.ofNat (k % 128) = z := ⟨_, rfl⟩
   rw [hx] at hor hc
   rw [hy] at hor hst HN
   rw [hz] at hbk
   have HZ := Lib.hid hz
   clear hx hy hz ho
   go_wp2_with (at_builtin; refine zay rfl _ _ _ rfl 1 (.int .u8 0) Tryz.underlying48 zaL rfl (by decide) rfl (hst.alloc _) rfl (zaI _ _ [B8 z] _ (by simp)) rfl (zar [z]) (by omega) (by unfold maxLen; omega) ?_; intro A' cap' w2 hap)
   have hfin : ∀ (W : World) (A' : Option Addr) (cap' : Nat) (w2 : World), Nw w W → w.heap.size ≤ W.heap.size → zaM W 5 1 (some ⟨g, 0, none⟩) (p.length + 1) cap 1 ((p ++ [y]).map B8) [B8 z] A' cap' w2 → zj3 w n (.int .i64 ((k : Int) / 128)) (.slice A' (p.length + 1 + 1) cap') w2 := by
    intro W A' cap' w2 hW hWs hap
    obtain ⟨ho2, _, hcase⟩ := hap
    obtain ⟨g', rfl, hg', hf⟩ : ∃ g', A' = some ⟨g', 0, none⟩ ∧ w.heap.size ≤ g' ∧ Nw w w2 := by
     rcases hcase with ⟨_, rfl, _, hf⟩ | ⟨_, rfl, hf⟩
     ·exact ⟨g, rfl, hg, hW.new hf (fun b hb => by rw [(za9 _ _).1 hb]; exact hg)⟩
     ·exact ⟨_, rfl, hWs, hW.tr hf⟩
    have h1 := HL.out
    have h2 := HE.out
    rw [HN.out] at h1 h2
    refine ⟨k, p ++ [y], g', cap', by go_num, by simp, by unfold topN; omega, by simp at h1 ⊢; omega, by rw [← h2]; simp, ?_, hf, hg'⟩
    rw [HZ.out]
    simpa using ho2
   refine ⟨hfin _ _ _ _ (((hq.setCell (p := ⟨g, p.length, none⟩) (.inr hg) _).alloc _)) (by have := hq.size; simp [World.setCell]; omega) hap, ?_⟩
   simp [intOf]
   omega
  ·go_wp2_with fail
   go_ret2
   have hm128 : m < 128 := by have := HK.out; omega
   have h2 := HE.out
   rw [zhv m hm128] at h2
   have h3 : UInt8.ofNat (m % 128) = UInt8.ofNat m := by rw [Nat.mod_eq_of_lt hm128]
   rw [h3, h2] at ho
   have h4 : (enc n).length = p.length + 1 := by rw [← h2]; simp
   exact ⟨some ⟨g, 0, none⟩, cap, by rw [h4]; rfl, by rw [h4]; exact ho, hq, fun j hj => by rw [(za9 _ _).1 hj]; exact hg⟩
theorem zho (w : World) (b : Bool) : Calls Tryz.prog 147 #[.bool b] w fun e w' => ∃ A c, e = .returned (.slice A 1 c) ∧ Own w' 5 1 A 1 c ([if b then 1 else 0].map B8) ∧ Nw w w' ∧ ∀ k, inA A k → w.heap.size ≤ k := by
 cases b
 ·go_enter Tryz.func147, Tryz.ntmps147
  go_wp2_with fail
  go_ret
  exact ⟨some ⟨w.heap.size, 0, none⟩, 1, rfl, Own.new w 5 1 1 1 #[B8 0] (Nat.le_refl _) (by decide) rfl, (Fr.refl _ w).alloc _, fun k hk => by rw [(za9 _ _).1 hk]; exact Nat.le_refl _⟩
 ·go_enter Tryz.func147, Tryz.ntmps147
  go_wp2_with fail
  go_ret
  exact ⟨some ⟨w.heap.size, 0, none⟩, 1, rfl, Own.new w 5 1 1 1 #[B8 1] (Nat.le_refl _) (by decide) rfl, (Fr.refl _ w).alloc _, fun k hk => by rw [(za9 _ _).1 hk]; exact Nat.le_refl _⟩
theorem zg0 (w : World) (F : Nat → Prop) (A : Option Addr) (c : Nat) (bs : List UInt8) (h : Sl w F A (bs.map B8)) (hsz : bs.length ≤ 1000000000000) :
  Calls Tryz.prog 150 #[.slice A bs.length c] w fun e w' => ∃ A' c', e = .returned (.slice A' ((enc bs.length).length + bs.length) c') ∧ Own w' 5 1 A' ((enc bs.length).length + bs.length) c' ((enc bs.length ++ bs).map B8) ∧ Nw w w' ∧ ∀ k, inA A' k → w.heap.size ≤ k := by
 have hlen := zaR bs.length
 go_enter Tryz.func150, Tryz.ntmps150
 go_wp2_with (first | (go_at_call 205; refine (zh2 _ bs.length (by omega)).mono ?_; rintro e w1 ⟨A1, c1, rfl, ho1, q1, n1⟩; have h1 := h.fr q1 (fun _ _ h => h)) | (at_builtin; refine zay rfl _ _ _ rfl 1 (.int .u8 0) Tryz.underlying48 zaL rfl (by decide) rfl ho1 rfl h1 (by simp) (zar bs) (by omega) (by unfold maxLen; omega) ?_; intro A' cap' w2 hap))
 go_ret
 obtain ⟨ho2, _, hcase⟩ := hap
 refine ⟨A', cap', rfl, by rw [List.map_append]; exact ho2, ?_, ?_⟩
 ·rcases hcase with ⟨_, rfl, _, hf⟩ | ⟨_, rfl, hf⟩
  ·exact q1.new hf n1
  ·exact q1.tr hf
 ·intro k hk
  rcases hcase with ⟨_, rfl, _, hf⟩ | ⟨_, rfl, hf⟩
  ·exact n1 k hk
  ·rw [(za9 _ _).1 hk]; exact q1.size
open Go Go.RowKit
theorem zbR (m : Int) (s : Rd) (hm : 0 ≤ m) : 0 ≤ (za1 m s).1 ∧ (za1 m s).1 ≤ m := by
 rcases zbO m s with h | ⟨bs, n, r, _, h, _, h2, _⟩
 ·rw [h]; exact ⟨Int.le_refl _, hm⟩
 ·rw [h]; exact ⟨by simp, h2⟩
def rdN4 : Nat → Rd → List (List Int) × Rd
 | 0, s => ([], s)
 | k + 1, s => ((rdN4 k s).1 ++ [(zaA (rdN4 k s).2).1], (zaA (rdN4 k s).2).2)
theorem zm1 (s : Rd) : rdN4 4 s = ([(zat s).1.v, (zat s).1.o, (zat s).1.l, (zat s).1.w], (zat s).2) := rfl
structure zdv (cs : Array Value) (rows : List (Ls Int)) : Prop where
 size : cs.size = 4
 at_ : ∀ i (h : i < rows.length), cs[i]? = some rows[i].v
 none_ : ∀ i, rows.length ≤ i → i < 4 → cs[i]? = some (.slice none 0 0)
theorem zdv.more {cs : Array Value} {rows : List (Ls Int)} (h : zdv cs rows) (hl : rows.length < 4) : zdv cs (rows ++ [lsZ]) := by
 refine ⟨h.size, fun i hi => ?_, fun i h1 h2 => h.none_ i (by simp at h1; omega) h2⟩
 by_cases hlt : i < rows.length
 ·rw [List.getElem_append_left hlt]; exact h.at_ i hlt
 ·have e : i = rows.length := by simp at hi; omega
  subst e
  rw [h.none_ _ (Nat.le_refl _) hl, List.getElem_append_right (Nat.le_refl _)]
  simp [Ls.v, lsZ]
theorem zdv.last {cs : Array Value} {rows : List (Ls Int)} {r : Ls Int} (h : zdv cs (rows ++ [r])) : cs[rows.length]? = some r.v := by
 have := h.at_ rows.length (by simp)
 rw [this, List.getElem_append_right (Nat.le_refl _)]
 simp
theorem zdv.set_ {cs : Array Value} {rows : List (Ls Int)} {r : Ls Int} (h : zdv cs (rows ++ [r])) (r2 : Ls Int) : zdv (cs.setIfInBounds rows.length r2.v) (rows ++ [r2]) := by
 have hl : rows.length < cs.size := by
  rcases Nat.lt_or_ge rows.length cs.size with h1 | h1
  ·exact h1
  ·have := h.last; rw [Array.getElem?_eq_none h1] at this; cases this
 refine ⟨by simpa using h.size, fun i hi => ?_, fun i h1 h2 => ?_⟩
 ·by_cases hlt : i < rows.length
  ·rw [List.getElem_append_left hlt, Array.getElem?_setIfInBounds_ne (by omega)]
   have := h.at_ i (by simp; omega)
   rw [List.getElem_append_left hlt] at this
   exact this
  ·have e : i = rows.length := by simp at hi; omega
   subst e
   rw [Array.getElem?_setIfInBounds_self_of_lt hl, List.getElem_append_right (Nat.le_refl _)]
   simp
 ·simp at h1
  rw [Array.getElem?_setIfInBounds_ne (by omega)]
  exact h.none_ i (by simp; omega) h2
def zkQ (a b : Ls Int) : Prop := ∀ x y, inA a.a x → inA b.a y → x < y
structure RcSt (w W1 wo : World) (F : Nat → Prop) (g R L : Nat) (rows : List (Ls Int)) (sd : Rd) (cs : Array Value) (cur : Ls Int) (wz : World) : Prop where
 rd : IsRd wz F g sd
 b : Blk wz L 297 cs
 r : Blk wz R 45 zC9A
 own : ∀ r ∈ rows, zao W1 wz 3 1 zac r
 cur : zao wo wz 3 1 zac cur
 fr : Fr (· = g) w wz
 sz : wo.heap.size ≤ wz.heap.size
structure RcH (w W1 wo : World) (F : Nat → Prop) (g R L : Nat) : Prop where
 hg : g < w.heap.size
 hF : ∀ k, F k → k < w.heap.size
 wW : w.heap.size ≤ W1.heap.size
 Ww : W1.heap.size ≤ wo.heap.size
 hR : w.heap.size ≤ R ∧ R < W1.heap.size
 hL : w.heap.size ≤ L ∧ L < W1.heap.size
 RL : R ≠ L
section
variable {w W1 wo wz w' : World} {F : Nat → Prop} {g R L : Nat} {rows : List (Ls Int)} {sd s' : Rd} {cs : Array Value} {cur : Ls Int}
theorem RcSt.call (H : RcH w W1 wo F g R L) (h : RcSt w W1 wo F g R L rows sd cs cur wz) (q : RdTo wz F g s' w') : RcSt w W1 wo F g R L rows s' cs cur w' := by
 have h1 := H.hg
 have h2 := H.hR
 have h3 := H.hL
 have h4 := H.wW
 have h5 := H.Ww
 exact ⟨q.1, h.b.fr q.2 (by omega), h.r.fr q.2 (by omega), fun r hr => (h.own r hr).fr q.2 (fun k hk e => by have := (h.own r hr).base k hk; omega), h.cur.fr q.2 (fun k hk e => by have := h.cur.base k hk; omega), h.fr.tr q.2, Nat.le_trans h.sz q.2.size⟩
theorem RcSt.nw (h : RcSt w W1 wo F g R L rows sd cs cur wz) (q : Nw wz w') : RcSt w W1 wo F g R L rows sd cs cur w' :=
 ⟨h.rd.fr q (fun h => h) (fun _ _ h => h), h.b.fr q (fun h => h), h.r.fr q (fun h => h), fun r hr => (h.own r hr).nw q, h.cur.nw q, h.fr.tr (Nw.on q), Nat.le_trans h.sz q.size⟩
theorem RcSt.app (H : RcH w W1 wo F g R L) (hrows : ∀ r ∈ rows, ∀ k, inA r.a k → k < wo.heap.size) (h : RcSt w W1 wo F g R L rows sd cs cur wz) {A' : Option Addr} {c' : Nat} {z : Int} (hap : zaM wz 3 1 cur.a cur.l.length cur.c 1 (zac cur.l) [I64 z] A' c' w') : RcSt w W1 wo F g R L rows sd cs ⟨A', c', cur.l ++ [z]⟩ w' := by
 have h1 := H.hg
 have h2 := H.hR
 have h3 := H.hL
 have h4 := H.wW
 have h5 := H.Ww
 have f := hap.fr
 have hb := h.cur.base
 refine ⟨h.rd.fr f (fun e => by have := hb _ e; omega) (fun k hk e => by have := hb _ e; have := H.hF k hk; omega), h.b.fr f (fun e => by have := hb _ e; omega), h.r.fr f (fun e => by have := hb _ e; omega), fun r hr => (h.own r hr).fr f (fun k hk e => by have := hb _ e; have := hrows r hr k hk; omega), ⟨?_, fun k hk => ?_⟩, h.fr.trans f (fun k hk => .inr (by have := hb _ hk; omega)), Nat.le_trans h.sz f.size⟩
 ·have o := hap.1
  show Own w' 3 1 A' (cur.l ++ [z]).length c' (zac (cur.l ++ [z]))
  rw [List.length_append, zck]
  exact o
 ·rcases hap.inA_ k hk with e | e
  ·exact hb k e
  ·rw [e]
   exact h.sz
theorem RcSt.store (H : RcH w W1 wo F g R L) (h : RcSt w W1 wo F g R L rows sd cs cur wz) (k : Nat) (u : Value) : RcSt w W1 wo F g R L rows sd (cs.setIfInBounds k u) cur (wz.setCell ⟨L, k, none⟩ u) := by
 have h1 := H.hg
 have h2 := H.hR
 have h3 := H.hL
 have h4 := H.wW
 have h5 := H.Ww
 have h6 := H.RL
 have f : Fr (· = L) wz (wz.setCell ⟨L, k, none⟩ u) := (Fr.refl (· = L) wz).set1 k u
 exact ⟨h.rd.fr f (by omega) (fun k hk e => by have := H.hF k hk; omega), h.b.set_ k u, h.r.fr f h6, fun r hr => (h.own r hr).fr f (fun k hk e => by have := (h.own r hr).base k hk; omega), h.cur.fr f (fun k hk e => by have := h.cur.base k hk; omega), h.fr.trans f (fun k hk => .inr (by omega)), Nat.le_trans h.sz f.size⟩
end
def RcRel (w W1 : World) (F : Nat → Prop) (g R L : Nat) (s0 : Rd) (i : Value) (wr : World) : Prop :=
 ∃ (k : Nat) (rows : List (Ls Int)) (cs : Array Value), k ≤ 4 ∧ i = .int .i64 k ∧ rows.length = k ∧ rows.map (·.l) = (rdN4 k s0).1 ∧ RcSt w W1 W1 F g R L rows (rdN4 k s0).2 cs lsZ wr ∧ zdv cs rows ∧ rows.Pairwise zkQ
def RiRel (w W1 wo : World) (F : Nat → Prop) (g R L : Nat) (s1 : Rd) (rows : List (Ls Int)) (n : Nat) (i : Value) (wx : World) : Prop :=
 ∃ (j : Nat) (cur : Ls Int) (cs : Array Value), j ≤ n ∧ i = .int .i64 j ∧ cur.l = (rdNs 5 j s1).1 ∧ RcSt w W1 wo F g R L rows (rdNs 5 j s1).2 cs cur wx ∧ zdv cs (rows ++ [cur])
theorem zkW (m : Int) (k : Nat) (s : Rd) : rdNs m (k + 1) s = ((rdNs m k s).1 ++ [(za1 m (rdNs m k s).2).1], (za1 m (rdNs m k s).2).2) := rfl
theorem zer (w : World) (F : Nat → Prop) (g : Nat) (s : Rd) (h : IsRd w F g s) :
  Calls Tryz.prog 211 #[.pointer (some ⟨g, 0, none⟩)] w fun e w' => ∃ y : CfgM, e = .returned (.agg (cfgA y)) ∧ y.x = (zat s).1 ∧ zaQ w w' y ∧ RdTo w F g (zat s).2 w' := by
 have hgl := h.lt
 have hFl := h.out.2
 obtain ⟨R, hR⟩ : ∃ X, X = w.heap.size := ⟨_, rfl⟩
 obtain ⟨L, hL⟩ : ∃ Y, Y = w.heap.size + 1 := ⟨_, rfl⟩
 obtain ⟨W0, hW0⟩ : ∃ W, W = w.alloc (.cells zC9A 45) := ⟨_, rfl⟩
 have p0 : Nw w W0 := by rw [hW0]; exact (Fr.refl (fun _ => False) _).alloc _
 have r0 : Blk W0 R 45 zC9A := by rw [hW0, hR]; exact Blk.new _ _ _
 have hz0 : W0.heap.size = L := by rw [hW0, hL]; simp
 obtain ⟨W1, hW1⟩ : ∃ W, W = W0.alloc (.cells zC9A 297) := ⟨_, rfl⟩
 have p1 : Nw W0 W1 := by rw [hW1]; exact (Fr.refl (fun _ => False) _).alloc _
 have l1 : Blk W1 L 297 zC9A := by rw [hW1, ← hz0]; exact Blk.new _ _ _
 have r1 := r0.fr p1 (fun h => h)
 have Q1 : Nw w W1 := p0.tr p1
 have h1 := h.fr Q1 (fun h => h) (fun _ _ h => h)
 have hRg : R ≠ g := by omega
 have hLg : L ≠ g := by omega
 have hRL : R ≠ L := by omega
 have hwR : w.heap.size ≤ R := by omega
 have hwL : w.heap.size ≤ L := by omega
 have hRl : R < W1.heap.size := r1.lt
 have hLl : L < W1.heap.size := l1.lt
 have hFL : ¬ F L := fun hF => by have := hFl _ hF; omega
 have hFR : ¬ F R := fun hF => by have := hFl _ hF; omega
 have hr0 : zdv zC9A [] := ⟨rfl, fun i h => absurd h (Nat.not_lt_zero _), fun i _ h => by
  match i, h with
  | 0, _ => rfl
  | 1, _ => rfl
  | 2, _ => rfl
  | 3, _ => rfl⟩
 have HR := Lib.hid hR
 have HL := Lib.hid hL
 have HZ0 := Lib.hid hz0
 have HW0 := Lib.hid hW0
 have HW1 := Lib.hid hW1
 clear hR hL hz0 hW0 hW1 r0
 go_enter Tryz.func211, Tryz.ntmps211
 go_upto_region 2 with (fail)
 rw [← HL.out, ← HR.out, ← HW0.out, ← HW1.out]
 go_wp2_with fail
 go_loopw [4, 5] (fun _ i wr => RcRel w W1 F g R L s i wr) (fun _ i _ => 4 - (intOf i).toNat)
 case atStart => exact ⟨0, [], _, by omega, rfl, rfl, rfl, ⟨h1, l1, r1, (by intro r hr; cases hr), ⟨Own.nil _ _ _, fun k hk => (zaH k hk).elim⟩, Nw.on Q1, Nat.le_refl _⟩, hr0, List.Pairwise.nil⟩
 case round =>
  clear h1 l1 hr0 r1
  obtain ⟨k, rows, cs, hk, rfl, hrl, hrm, st, h4, hsort⟩ := hrel
  by_cases hlt : k < 4
  ·have hi0 : (k : Int) < 4 := by omega
   have HRM := Lib.hid hrm
   have HSO := Lib.hid hsort
   clear hrm hsort
   have hm0 := zbR 5 (rdN4 k s).2 (by omega)
   have hn0 := zb5 wr F g (rdN4 k s).2 st.rd 5
   have hnd : zaA (rdN4 k s).2 = rdNs 5 (za1 5 (rdN4 k s).2).1.toNat (za1 5 (rdN4 k s).2).2 := rfl
   obtain ⟨⟨n, s1⟩, hq⟩ : ∃ q, za1 5 (rdN4 k s).2 = q := ⟨_, rfl⟩
   rw [hq] at hm0 hn0 hnd
   simp only at hm0 hn0 hnd
   obtain ⟨n, rfl⟩ : ∃ m : Nat, n = (m : Int) := ⟨n.toNat, by omega⟩
   rw [Int.toNat_natCast] at hnd
   have HND := Lib.hid hnd
   have H0 : RcH w W1 W1 F g R L := ⟨hgl, hFl, Q1.size, Nat.le_refl _, ⟨hwR, hRl⟩, ⟨hwL, hLl⟩, hRL⟩
   clear hq hnd
   go_wp2_with fail
   refine hn0.mono ?_
   rintro e w2 ⟨rfl, hrd2⟩
   have st2 := st.call H0 hrd2
   have H2 : RcH w W1 w2 F g R L := ⟨hgl, hFl, Q1.size, st2.sz, ⟨hwR, hRl⟩, ⟨hwL, hLl⟩, hRL⟩
   have hro2 : ∀ r ∈ rows, ∀ j, inA r.a j → j < w2.heap.size := fun r hr j hj => (st2.own r hr).lt j hj
   have st3 : RcSt w W1 w2 F g R L rows s1 cs lsZ w2 := { st2 with cur := ⟨Own.nil _ _ _, fun k hk => (zaH k hk).elim⟩, sz := Nat.le_refl _ }
   clear st H0 hrd2
   go_wp2_with fail
   go_loopw [10] (fun i wx => RiRel w W1 w2 F g R L s1 rows n i wx) (fun i _ => n - (intOf i).toNat)
   case atStart => exact ⟨0, lsZ, cs, Nat.zero_le _, rfl, rfl, st3, h4.more (by omega)⟩
   case round =>
    clear st3 h4
    obtain ⟨j, cur, cs2, hjn, rfl, hcl, sj, h4j⟩ := hrel
    by_cases hj : j < n
    ·have hj0 : (j : Int) < (n : Int) := by omega
     have hcj : cur.l.length = j := by rw [hcl, zeg]
     have hck : cs2[k]? = some (.slice cur.a cur.l.length cur.c) := by rw [← hrl]; exact h4j.last
     have hrs := zkW 5 j s1
     have hnum := fun w1 h1 => zb5 w1 F g (rdNs 5 j s1).2 h1 5
     obtain ⟨sd, hsd⟩ : ∃ sd, (rdNs 5 j s1).2 = sd := ⟨_, rfl⟩
     rw [hsd] at hnum sj hrs
     obtain ⟨⟨z, s2⟩, hz⟩ : ∃ q, za1 5 sd = q := ⟨_, rfl⟩
     rw [hz] at hnum hrs
     simp only at hnum hrs
     have HRS := Lib.hid hrs
     have HNU := Lib.hid hnum
     have HCL := Lib.hid hcl
     have hjl : cur.l.length ≤ 5 := by omega
     clear hsd hz hrs hnum hcl hcj
     have hki : decide ((k : Int) < 4) = true := decide_eq_true hi0
     have hkl : k < cs2.size := by rw [h4j.size]; exact hlt
     go_upto_region 7 with (fail)
     refine zhH 5 6 7 9 (fun wz => RcSt w W1 w2 F g R L rows sd cs2 cur wz) (fun wz => RcSt w W1 w2 F g R L rows s2 cs2 cur wz) (fun v wz => RcSt w W1 w2 F g R L rows s2 cs2 cur wz ∧ Blk wz v 3 #[I64 z])
      (fun v wz => RcSt w W1 w2 F g R L rows s2 cs2 ⟨v.2, v.1, cur.l ++ [z]⟩ wz) (fun v wz => RcSt w W1 w2 F g R L rows s2 (cs2.setIfInBounds k (.slice v.2 (cur.l.length + 1) v.1)) ⟨v.2, v.1, cur.l ++ [z]⟩ wz) (by kernel_rfl) (by kernel_rfl) (sj.nw ((Fr.refl (fun _ => False) wr).drew)) ?_
     apply zbk
     focus
      intro B L2 wz hL hD hC
      refine .inl ⟨by rfl, ?_⟩
      unfold za2
      go_simp
      exact ⟨rfl, hC.keep (by kernel_rfl) hD (by rfl) (by rfl) (by rfl) (by rfl)⟩
     simp only [Act.put, sA9, sB9, sC9]
     apply zbk
     focus
      intro B L2 wz hL hD hC
      refine .inl ⟨by rfl, ?_⟩
      unfold za2
      go_simp
      exact ⟨rfl, hC.keep (by kernel_rfl) hD (by rfl) (by rfl) (by rfl) (by rfl)⟩
     simp only [Act.put, sA9, sB9, sC9]
     apply zbk
     focus
      intro B L2 wz hL hD hC
      refine .inl ⟨by rfl, ?_⟩
      unfold za2
      go_simp
      exact ⟨rfl, hC.keep (by kernel_rfl) hD (by rfl) (by rfl) (by rfl) (by rfl)⟩
     simp only [Act.put, sA9, sB9, sC9]
     apply zbk
     focus
      intro B L2 wz hL hD hC
      have hx : wz.cell? ⟨L, k, none⟩ = some (.slice cur.a cur.l.length cur.c) := hC.early hL (by kernel_rfl) (by kernel_rfl) (fun h => (h.b.cell k).trans hck) (fun h => (h.b.cell k).trans hck) (fun _ h => (h.1.b.cell k).trans hck)
      refine .inl ⟨by rfl, ?_⟩
      unfold za2
      go_simp
      exact ⟨rfl, hC.keep (by kernel_rfl) hD (by rfl) (by rfl) (by rfl) (by rfl)⟩
     simp only [Act.put, sA9, sB9, sC9]
     apply zbk
     focus
      intro B L2 wz hL hD hC
      refine .inl ⟨by rfl, ?_⟩
      unfold za2
      go_simp
      exact ⟨rfl, hC.keep (by kernel_rfl) hD (by rfl) (by rfl) (by rfl) (by rfl)⟩
     simp only [Act.put, sA9, sB9, sC9]
     apply zbk
     focus
      intro B L2 wz hL hD hC
      obtain ⟨h1, h2⟩ := hC.call hL (by kernel_rfl) (by kernel_rfl) (by kernel_rfl) (by kernel_rfl) hD (by rfl) (by rfl) (by rfl)
      refine .inl ⟨by rfl, ?_⟩
      unfold za2
      go_simp
      refine (HNU.out _ h1.rd).mono ?_
      rintro e w9 ⟨he, hr9⟩
      exact ⟨he, h2 _ (h1.call H2 hr9)⟩
     simp only [Act.put, sA9, sB9, sC9]
     refine zeB (fun b => .slice (some ⟨b.1, 0, none⟩) 1 1) ?_ ?_
     focus
      intro B L2 wz hL hD hC
      obtain ⟨h1, h2⟩ := hC.build hL (hD 5 (by kernel_rfl)) (by kernel_rfl) (by kernel_rfl) (by kernel_rfl) hD (by rfl) (by rfl)
      refine .inl ⟨by rfl, ?_⟩
      unfold zdS
      go_simp
      exact ⟨(wz.heap.size, none), rfl, h2 _ _ ⟨h1.nw ((Fr.refl (fun _ => False) wz).alloc _), Blk.new wz _ _⟩⟩
     simp only [Act.put, sA9, sB9, sC9]
     refine zeB (fun b => .slice b.2 (cur.l.length + 1) b.1) ?_ ?_
     focus
      intro B L2 wz hL hD hC
      obtain ⟨h1, h2⟩ := hC.app hL (hD 6 (by kernel_rfl)) (by kernel_rfl) (by kernel_rfl) hD (by rfl)
      have hnl : Sl wz (· = (B 6).1) (some ⟨(B 6).1, 0, none⟩) [I64 z] := h1.2.sl 0 1
      refine .inl ⟨by rfl, ?_⟩
      refine zhE _ _ 41 rfl 8 (.int .i64 0) Tryz.underlying41 ziI rfl (by decide) rfl h1.1.cur.own rfl hnl rfl (by intro u hu; rw [List.mem_singleton.1 hu]; rfl) (by omega) (by unfold maxLen; omega) fun A6 c6 w6 hap => ?_
      exact ⟨(c6, A6), rfl, h2 _ _ (h1.1.app H2 hro2 hap)⟩
     simp only [Act.put, sA9, sB9, sC9]
     apply zbk
     focus
      intro B L2 wz hL hD hC
      refine .inl ⟨by rfl, ?_⟩
      unfold za2
      go_simp
      exact ⟨rfl, hC.keep (by kernel_rfl) hD (by rfl) (by rfl) (by rfl) (by rfl)⟩
     simp only [Act.put, sA9, sB9, sC9]
     apply zbk
     focus
      intro B L2 wz hL hD hC
      obtain ⟨h1, h2⟩ := hC.store hL (hD 7 (by kernel_rfl)) (by kernel_rfl) hD
      have hx : wz.cell? ⟨L, k, none⟩ = some (.slice cur.a cur.l.length cur.c) := (h1.b.cell k).trans hck
      have hf := h1.b.frozen k
      refine .inl ⟨by rfl, ?_⟩
      unfold za2
      go_simp
      exact ⟨rfl, h2 _ (h1.store H2 k _)⟩
     simp only [Act.put, sA9, sB9, sC9]
     refine zgu fun B wz hC => ?_
     have hfin := hC.fin (by rfl)
     generalize hv : B 7 = v7 at hfin
     have hset := h4j.set_ ⟨v7.2, v7.1, cur.l ++ [z]⟩
     rw [hrl] at hset
     have hfin2 : RcSt w W1 w2 F g R L rows s2 (cs2.setIfInBounds k (Ls.v ⟨v7.2, v7.1, cur.l ++ [z]⟩)) ⟨v7.2, v7.1, cur.l ++ [z]⟩ wz := by simpa [Ls.v] using hfin
     clear hfin hC hv
     go_wp2_with fail
     go_roundw
     case rel => exact ⟨j + 1, ⟨v7.2, v7.1, cur.l ++ [z]⟩, _, hj, by go_num, by rw [HRS.out, HCL.out], by rw [HRS.out]; exact hfin2, hset⟩
     case measure => simp [intOf]; omega
    ·obtain rfl : j = n := by omega
     go_wp2_with fail
     go_roundw
     case rel =>
      refine ⟨k + 1, rows ++ [cur], cs2, by omega, by go_num, by simp [hrl], ?_, { sj with rd := ?_, own := fun r hr => ?_, cur := ⟨Own.nil _ _ _, fun k hk => (zaH k hk).elim⟩, sz := Nat.le_trans st2.sz sj.sz }, h4j, ?_⟩
      ·rw [List.map_append, HRM.out]
       show _ ++ [cur.l] = (rdN4 k s).1 ++ [(zaA (rdN4 k s).2).1]
       rw [HND.out, hcl]
      ·show IsRd wr F g (zaA (rdN4 k s).2).2
       rw [HND.out]
       exact sj.rd
      ·rcases List.mem_append.1 hr with hr | hr
       ·exact sj.own r hr
       ·rw [List.mem_singleton.1 hr]
        exact sj.cur.from_ st2.sz
      ·refine List.pairwise_append.2 ⟨HSO.out, List.pairwise_singleton _ _, fun a ha b hb x y hx hy => ?_⟩
       rw [List.mem_singleton.1 hb] at hy
       have h1 := (st2.own a ha).lt x hx
       have h2 := sj.cur.base y hy
       omega
     case measure => simp [intOf]; omega
  ·obtain rfl : k = 4 := by omega
   obtain ⟨r0, r1, r2, r3, rfl⟩ : ∃ a b c d, rows = [a, b, c, d] := by
    match rows, hrl with
    | [a, b, c, d], _ => exact ⟨a, b, c, d, rfl⟩
   have c0 : wr.cell? ⟨L, 0, none⟩ = some (.slice r0.a r0.l.length r0.c) := (st.b.cell 0).trans (h4.at_ 0 (by simp))
   have c1 : wr.cell? ⟨L, 1, none⟩ = some (.slice r1.a r1.l.length r1.c) := (st.b.cell 1).trans (h4.at_ 1 (by simp))
   have c2 : wr.cell? ⟨L, 2, none⟩ = some (.slice r2.a r2.l.length r2.c) := (st.b.cell 2).trans (h4.at_ 2 (by simp))
   have c3 : wr.cell? ⟨L, 3, none⟩ = some (.slice r3.a r3.l.length r3.c) := (st.b.cell 3).trans (h4.at_ 3 (by simp))
   have th := Blk.there (l := zC9L) st.r 0 4 (by show 0 + 4 ≤ 4; omega)
   have one := zdi ⟨r0, r1, r2, r3⟩
   obtain ⟨w5, hw5⟩ : ∃ W, W = wr.setCells R 0 [.slice r0.a r0.l.length r0.c, .slice r1.a r1.l.length r1.c, .slice r2.a r2.l.length r2.c, .slice r3.a r3.l.length r3.c] := ⟨_, rfl⟩
   have m5 : Fr (· = R) wr w5 := by rw [hw5]; exact (Fr.refl (· = R) _).setCells _ _
   have r5 : Blk w5 R 45 #[.slice r0.a r0.l.length r0.c, .slice r1.a r1.l.length r1.c, .slice r2.a r2.l.length r2.c, .slice r3.a r3.l.length r3.c] := by rw [hw5]; exact Blk.setCells (l := zC9L) st.r 0 [.slice r0.a r0.l.length r0.c, .slice r1.a r1.l.length r1.c, .slice r2.a r2.l.length r2.c, .slice r3.a r3.l.length r3.c]
   have own5 : ∀ r ∈ [r0, r1, r2, r3], zao w w5 3 1 zac r := fun r hr => ((st.own r hr).fr m5 (fun j hj e => by have := (st.own r hr).base j hj; omega)).from_ Q1.size
   have res : (⟨r0, r1, r2, r3⟩ : CfgM).x = (zat s).1 ∧ zaQ w w5 ⟨r0, r1, r2, r3⟩ ∧ RdTo w F g (zat s).2 w5 := by
    rw [zm1] at hrm st
    simp only [List.map_cons, List.map_nil, List.cons.injEq, and_true] at hrm
    obtain ⟨e0, e1, e2, e3⟩ := hrm
    simp only [List.pairwise_cons, List.mem_cons, List.not_mem_nil, or_false, forall_eq_or_imp, forall_eq] at hsort
    refine ⟨?_, ⟨own5 r0 (by simp), own5 r1 (by simp), own5 r2 (by simp), own5 r3 (by simp), hsort.1.1, hsort.2.1.1, hsort.2.2.1, hsort.1.2.1, hsort.1.2.2, hsort.2.1.2⟩, st.rd.fr m5 (fun e => hRg e.symm) (fun j hj e => hFR (e ▸ hj)), st.fr.trans m5 (fun j hj => .inr (by omega))⟩
    show (⟨r0.l, r1.l, r2.l, r3.l⟩ : Cfg) = _
    rw [e0, e1, e2, e3]
   have HW5 := Lib.hid hw5
   have HRES := Lib.hid res
   clear hw5 res own5 m5 hrm hsort st h4
   go_wp2_with (refine wpList_store_mid rfl 45 _ _ rfl R 0 #[.slice r0.a r0.l.length r0.c, .slice r1.a r1.l.length r1.c, .slice r2.a r2.l.length r2.c, .slice r3.a r3.l.length r3.c] rfl rfl th (by kernel_rfl) one ?_; rw [← HW5.out])
   refine bodyPost_ret (v := .agg #[.slice r0.a r0.l.length r0.c, .slice r1.a r1.l.length r1.c, .slice r2.a r2.l.length r2.c, .slice r3.a r3.l.length r3.c]) ?_ rfl ?_
   ·exact results_cell_row rfl _ _ R 45 _ (0, 0) _ rfl r5 Tryz.underlying45 rfl (by kernel_rfl)
   obtain ⟨h1, h2, h3⟩ := HRES.out
   exact ⟨⟨r0, r1, r2, r3⟩, rfl, h1, h2, h3⟩
open Go Go.RowKit
def RrRel (w : World) (F : Nat → Prop) (g : Nat) (s1 : Rd) (n : Nat) (out i : Value) (wr : World) : Prop :=
 ∃ (k : Nat) (cur : Ls Int), k ≤ n ∧ i = .int .i64 k ∧ out = .slice cur.a cur.l.length cur.c ∧ cur.l.length = k ∧ cur.l = (rdNs 5 k s1).1 ∧ zao w wr 3 1 zac cur ∧ RRTo w F g (rdNs 5 k s1).2 wr
theorem zdY (w : World) (F : Nat → Prop) (g : Nat) (s : Rd) (h : IsRR w F g s) (hsz : zav s ≤ 1000000000000) :
  Calls Tryz.prog 226 #[.pointer (some ⟨g, 0, none⟩)] w fun e w' => ∃ y : Ls Int, e = .returned (.slice y.a y.l.length y.c) ∧ y.l = (zaA s).1 ∧ zao w w' 3 1 zac y ∧ RRTo w F g (zaA s).2 w' := by
 have hd : zaA s = rdNs 5 (za1 5 s).1.toNat (za1 5 s).2 := rfl
 rw [hd]
 have n1 := zaF w F g s h 5 hsz
 have m1 := zbR 5 s (by omega)
 have l1 := Nat.le_trans (zap 5 s) hsz
 obtain ⟨⟨nn, s1⟩, hq1⟩ : ∃ q, za1 5 s = q := ⟨_, rfl⟩
 simp only [hq1] at n1 m1 l1 ⊢
 obtain ⟨n, rfl⟩ : ∃ n : Nat, nn = (n : Int) := ⟨nn.toNat, by omega⟩
 have hn5 : n ≤ 5 := by omega
 simp only [Int.toNat_natCast]
 have hgl := h.lt
 have hFl := h.out.2
 have HFL := Lib.hid hFl
 clear hd hq1 m1 hFl
 go_enter Tryz.func226, Tryz.ntmps226
 go_wp2_with fail
 refine n1.mono ?_
 rintro e w1 ⟨rfl, h1⟩
 go_wp2_with fail
 go_loopw [4, 5] (fun out i wx => RrRel w F g s1 n out i wx) (fun out i _ => n - (intOf i).toNat)
 case atStart => exact ⟨0, lsZ, Nat.zero_le _, rfl, rfl, rfl, rfl, ⟨Own.nil _ _ _, fun k hk => (zaH k hk).elim⟩, h1⟩
 case round =>
  clear h1
  obtain ⟨k, cur, hk, rfl, rfl, hcl, hcv, ho, hr⟩ := hrel
  by_cases hlt : k < n
  ·have hi0 : (k : Int) < (n : Int) := by omega
   have hsucc : rdNs 5 (k + 1) s1 = ((rdNs 5 k s1).1 ++ [(za1 5 (rdNs 5 k s1).2).1], (za1 5 (rdNs 5 k s1).2).2) := rfl
   have hnum := zaF wr F g (rdNs 5 k s1).2 hr.1 5 (Nat.le_trans (zdn 5 k s1) l1)
   rw [← hcv] at hsucc
   obtain ⟨sk, hsk⟩ : ∃ q, (rdNs 5 k s1).2 = q := ⟨_, rfl⟩
   rw [hsk] at hsucc hnum hr
   obtain ⟨⟨z, s2⟩, hz⟩ : ∃ q, za1 5 sk = q := ⟨_, rfl⟩
   simp only [hz] at hsucc hnum
   have HS := Lib.hid hsucc
   have HCL := Lib.hid hcl
   have hcl5 : cur.l.length ≤ 5 := by omega
   clear hsucc hcv hsk hz hcl
   go_wp2_with fail
   refine hnum.mono ?_
   rintro e w2 ⟨rfl, h2⟩
   have ho2 := ho.fr h2.2 (fun j hj e => by have := ho.base j hj; omega)
   have hown := ho2.own
   have hf : Fr (· = g) w w2 := hr.2.tr h2.2
   go_wp2_with (at_builtin; refine zay rfl _ _ _ rfl 8 (.int .i64 0) Tryz.underlying41 ziI rfl (by decide) rfl (hown.alloc _) rfl (zaI w2 3 [I64 z] _ rfl) rfl (by intro u hu; rw [List.mem_singleton.1 hu]; rfl) (by omega) (by unfold maxLen; omega) ?_; intro B' c' w4 hap)
   go_roundw
   case rel =>
    have hin : ∀ j, inA B' j → inA cur.a j ∨ j = (w2.alloc (.cells #[I64 z] 3)).heap.size := hap.inA_
    have qa : Nw w2 (w2.alloc (.cells #[I64 z] 3)) := (Fr.refl (fun _ => False) w2).alloc _
    have hs2 := hf.size
    have hsa := qa.size
    refine ⟨k + 1, ⟨B', c', cur.l ++ [z]⟩, by omega, by go_num, by simp, by simp [HCL.out], by rw [HS.out], ⟨?_, fun j hj => ?_⟩, ?_⟩
    ·show Own w4 3 1 B' (cur.l ++ [z]).length c' (zac (cur.l ++ [z]))
     rw [List.length_append, zck]
     exact hap.1
    ·rcases hin j hj with e | e
     ·exact ho.base j e
     ·omega
    ·rw [HS.out]
     have hA : ∀ j, inA cur.a j → w.heap.size ≤ j := ho.base
     exact ⟨((h2.1.fr qa (fun h => h) (fun _ _ h => h)).fr hap.fr (fun e => by have := hA _ e; omega) (fun j hj e => by have h5 := hA _ e; have h6 := HFL.out j hj; omega)), (hf.tr (Nw.on qa)).trans hap.fr (fun j hj => .inr (hA j hj))⟩
   case measure => simp [intOf]; omega
  ·obtain rfl : k = n := by omega
   go_wp2_with fail
   go_ret
   exact ⟨cur, rfl, hcv, ho, hr⟩
open Go Go.RowKit
abbrev zeH : PanicEntry := { v := .iface 67 (.int .i64 4), recovered := false }
theorem zdl (w : World) : Calls Tryz.prog 97 #[.bool true] w fun e w' => e = .returned (.tuple #[]) ∧ w = w' := by
 go_enter Tryz.func97, Tryz.ntmps97
 go_wp2_with fail
 go_end0
 exact ⟨rfl, rfl⟩
theorem zdH (w : World) : Calls Tryz.prog 97 #[.bool false] w fun e w' => e = .panicked [zeH] ∧ w = w' := by
 go_enter Tryz.func97, Tryz.ntmps97
 go_wp2_with fail
 exact ⟨rfl, rfl, rfl⟩
theorem zfS (w : World) (F : Nat → Prop) (g : Nat) (s : Rd) (h : IsRd w F g s) : Calls Tryz.prog 212 #[.pointer (some ⟨g, 0, none⟩)] w fun e w' => e = .returned (.bool (!s.isSome)) ∧ w = w' := by
 have hl := zgm w F g s h
 have he := zhA w F g s h
 match s, h, hl, he with
 | none, h, hl, he =>
  have e1 : zav (none : Rd) = 0 := rfl
  have e2 : zd2 (none : Rd) = 4 := rfl
  rw [e1] at hl
  rw [e2] at he
  go_enter Tryz.func212, Tryz.ntmps212
  go_wp2_with fail
  refine hl.mono ?_
  rintro e w1 ⟨rfl, rfl⟩
  go_wp2_with fail
  refine he.mono ?_
  rintro e w1 ⟨rfl, rfl⟩
  go_wp2_with fail
  go_ret
  exact ⟨rfl, rfl⟩
 | some [], h, hl, he =>
  have e1 : zav (some [] : Rd) = 0 := rfl
  have e2 : zd2 (some [] : Rd) = 0 := rfl
  rw [e1] at hl
  rw [e2] at he
  go_enter Tryz.func212, Tryz.ntmps212
  go_wp2_with fail
  refine hl.mono ?_
  rintro e w1 ⟨rfl, rfl⟩
  go_wp2_with fail
  refine he.mono ?_
  rintro e w1 ⟨rfl, rfl⟩
  go_wp2_with fail
  go_ret
  exact ⟨rfl, rfl⟩
 | some (b :: r), h, hl, he =>
  have e1 : zav (some (b :: r) : Rd) = r.length + 1 := rfl
  rw [e1] at hl
  have hn : ((((r.length + 1 : Nat) : Int)) == 0) = false := by
   rw [beq_eq_false_iff_ne]
   omega
  obtain ⟨m, hm⟩ : ∃ m : Int, m = ((r.length + 1 : Nat) : Int) := ⟨_, rfl⟩
  rw [← hm] at hl hn
  clear hm e1
  go_enter Tryz.func212, Tryz.ntmps212
  go_wp2_with fail
  refine hl.mono ?_
  rintro e w1 ⟨rfl, rfl⟩
  go_wp2_with fail
  go_ret
  exact ⟨rfl, rfl⟩
def zcR (cs : Array Value) : List Nat → List Int → Array Value
 | o :: os, n :: ns => zcR (cs.setIfInBounds o (I64 n)) os ns
 | _, _ => cs
theorem zgv (os : List Nat) (ns : List Int) (h : os.length = ns.length) (o : Nat) (n : Int) (cs : Array Value) : zcR cs (os ++ [o]) (ns ++ [n]) = (zcR cs os ns).setIfInBounds o (I64 n) := by
 induction os generalizing ns cs with
 | nil => cases ns with
  | nil => rfl
  | cons _ _ => cases h
 | cons a os ih => cases ns with
  | nil => cases h
  | cons b ns =>
   show zcR _ (os ++ [o]) (ns ++ [n]) = _
   rw [ih _ (by simpa using h)]
   rfl
theorem zgq (os : List Nat) (ns : List Int) (cs : Array Value) : (zcR cs os ns).size = cs.size := by
 induction os generalizing ns cs with
 | nil => cases ns <;> rfl
 | cons a os ih => cases ns with
  | nil => rfl
  | cons b ns =>
   show (zcR _ os ns).size = _
   rw [ih]
   simp
abbrev ptrV (X o : Nat) : Value := .pointer (some ⟨X, o, none⟩)
def IsQ (b : Bool) (w : World) (F : Nat → Prop) (g : Nat) (s : Rd) : Prop := IsRd w F g s
def QTo (b : Bool) (w : World) (F : Nat → Prop) (g : Nat) (s : Rd) (w' : World) : Prop := IsQ b w' F g s ∧ Fr (· = g) w w'
theorem IsQ.fr {b : Bool} {w w' : World} {F S : Nat → Prop} {g : Nat} {s : Rd} (h : IsQ b w F g s) (hf : Fr S w w') (hg : ¬ S g) (hd : ∀ k, F k → ¬ S k) : IsQ b w' F g s := IsRd.fr h hf hg hd
structure RSt (b : Bool) (w0 wr : World) (F : Nat → Prop) (g X : Nat) (t : TypeId) (K : World → Prop) (s : Rd) (cs : Array Value) : Prop where
 rd : IsQ b wr F g s
 x : Blk wr X t cs
 k : K wr
 fr : Fr (· = g) w0 wr
 gX : g ≠ X
 FX : ¬ F X
 new : w0.heap.size ≤ X
 st : ∀ a c, Fr (fun k => k = g ∨ k = X) a c → K a → K c
section
variable {b : Bool} {w0 wr w' : World} {F : Nat → Prop} {g X : Nat} {t : TypeId} {K K' : World → Prop} {s s' : Rd} {cs : Array Value}
theorem RSt.call (h : RSt b w0 wr F g X t K s cs) (q : QTo b wr F g s' w') : RSt b w0 w' F g X t K s' cs :=
 ⟨q.1, h.x.fr q.2 (fun e => h.gX e.symm), h.st _ _ (q.2.mono fun k hk => .inl (.inl hk)) h.k, h.fr.tr q.2, h.gX, h.FX, h.new, h.st⟩
theorem RSt.callP (h : RSt true w0 wr F g X t K s cs) (q : RdTo wr F g s' w') : RSt true w0 w' F g X t K s' cs := h.call q
theorem RSt.set_ (h : RSt b w0 wr F g X t K s cs) (j : Nat) (u : Value) : RSt b w0 (wr.setCell ⟨X, j, none⟩ u) F g X t K s (cs.setIfInBounds j u) :=
 have q : Fr (· = X) wr (wr.setCell ⟨X, j, none⟩ u) := (Fr.refl (· = X) wr).setCell (p := ⟨X, j, none⟩) (.inl rfl) u
 ⟨h.rd.fr q h.gX (fun k hk e => h.FX (e ▸ hk)), h.x.set_ j u, h.st _ _ (q.mono fun k hk => .inl (.inr hk)) h.k, h.fr.trans q (fun k hk => .inr (hk ▸ h.new)), h.gX, h.FX, h.new, h.st⟩
theorem RSt.nw (h : RSt b w0 wr F g X t K s cs) (q : Nw wr w') : RSt b w0 w' F g X t K s cs :=
 ⟨h.rd.fr q (fun h => h) (fun _ _ h => h), h.x.fr q (fun h => h), h.st _ _ (Nw.on q) h.k, h.fr.tr (Nw.on q), h.gX, h.FX, h.new, h.st⟩
theorem RSt.both {cs' : Array Value} (h : RSt b w0 wr F g X t K s cs) (q : Fr (fun k => k = g ∨ k = X) wr w') (hr : IsQ b w' F g s') (hx : Blk w' X t cs') : RSt b w0 w' F g X t K s' cs' :=
 ⟨hr, hx, h.st _ _ q h.k, h.fr.trans q (fun k hk => hk.elim .inl fun e => .inr (e ▸ h.new)), h.gX, h.FX, h.new, h.st⟩
theorem RSt.more (h : RSt b w0 wr F g X t K s cs) (hk : K' wr) (hst : ∀ a c, Fr (fun k => k = g ∨ k = X) a c → K' a → K' c) : RSt b w0 wr F g X t (fun w => K w ∧ K' w) s cs :=
 ⟨h.rd, h.x, ⟨h.k, hk⟩, h.fr, h.gX, h.FX, h.new, fun a c f hh => ⟨h.st a c f hh.1, hst a c f hh.2⟩⟩
theorem RSt.other {S : Nat → Prop} (h : RSt b w0 wr F g X t K s cs) (q : Fr S wr w') (hg : ¬ S g) (hX : ¬ S X) (hF : ∀ k, F k → ¬ S k) (hn : ∀ k, S k → w0.heap.size ≤ k) (hk : K' w') (hst : ∀ a c, Fr (fun k => k = g ∨ k = X) a c → K' a → K' c) : RSt b w0 w' F g X t K' s cs :=
 ⟨h.rd.fr q hg hF, h.x.fr q hX, hk, h.fr.trans q (fun k hk => .inr (hn k hk)), h.gX, h.FX, h.new, hst⟩
end
theorem zdU (m : Int) (hm : 0 ≤ m) (s : Rd) : ((zb1 m s).1.length : Int) ≤ m := by
 rcases zbO m s with h | ⟨bs, n, r, _, h, _, h2, _⟩
 ·rw [zdt h]; simpa using hm
 ·rw [zd0 h]
  split
  ·simpa using hm
  ·simp; omega
def NsRel (w : World) (F : Nat → Prop) (g X sb : Nat) (t : TypeId) (cs : Array Value) (os : List Nat) (s : Rd) (i : Value) (wr : World) : Prop :=
 ∃ k : Nat, k ≤ os.length ∧ i = .int .i64 k ∧ IsRd wr F g (rdNs 1073741824 k s).2 ∧ Blk wr X t (zcR cs (os.take k) (rdNs 1073741824 k s).1) ∧ Fr (fun b => b = g ∨ b = X) w wr ∧ Blk wr sb 148 #[.pointer (some ⟨g, 0, none⟩)]
theorem zhN (w : World) (F : Nat → Prop) (g : Nat) (s : Rd) (h : IsRd w F g s) (X : Nat) (t : TypeId) (cs : Array Value) (hx : Blk w X t cs) (hgX : g ≠ X) (hF : ¬ F X) (os : List Nat) (hos : ∀ o ∈ os, o < cs.size) (F2 : Nat → Prop) (A : Option Addr) (c : Nat)
  (hs : Sl w F2 A (os.map (ptrV X))) (hF2 : ∀ k, F2 k → ¬ (k = g ∨ k = X)) (hol : os.length ≤ 1000) :
  Calls Tryz.prog 165 #[.agg #[.pointer (some ⟨g, 0, none⟩)], .slice A os.length c] w fun e w' => e = .returned (.tuple #[]) ∧ IsRd w' F g (rdNs 1073741824 os.length s).2 ∧ Blk w' X t (zcR cs os (rdNs 1073741824 os.length s).1) ∧ Fr (fun b => b = g ∨ b = X) w w' := by
 have hgl := h.lt
 have hXl := hx.lt
 obtain ⟨n, hn⟩ : ∃ n, os.length = n := ⟨_, rfl⟩
 have q0 : Nw w (w.alloc (.cells #[.pointer (some ⟨g, 0, none⟩)] 148)) := (Fr.refl _ w).alloc _
 have hsb := Blk.new w 148 #[.pointer (some ⟨g, 0, none⟩)]
 have h0 := h.fr q0 (fun h => h) (fun _ _ h => h)
 have x0 := hx.fr q0 (fun h => h)
 rw [hn] at hol ⊢
 have HN := Lib.hid hn
 clear hn
 go_enter Tryz.func165, Tryz.ntmps165
 go_wp2_with fail
 go_loopw [8] (fun i wx => NsRel w F g X w.heap.size t cs os s i wx) (fun i _ => n - (intOf i).toNat)
 case atStart => exact ⟨0, Nat.zero_le _, rfl, h0, by simpa [rdNs, zcR] using x0, Nw.on q0, hsb⟩
 case round =>
  clear hsb h0 x0 q0
  obtain ⟨k, hk, rfl, hr, hb, hf, hsb⟩ := hrel
  have hn := HN.out
  by_cases hlt : k < n
  ·have hlo : k < os.length := by omega
   obtain ⟨B, of, rfl, hFB, hcell⟩ := (hs.fr hf hF2).get hlo
   have hnk := fun w1 h1 => zb5 w1 F g (rdNs 1073741824 k s).2 h1 1073741824
   have hsucc : rdNs 1073741824 (k + 1) s = ((rdNs 1073741824 k s).1 ++ [(za1 1073741824 (rdNs 1073741824 k s).2).1], (za1 1073741824 (rdNs 1073741824 k s).2).2) := rfl
   have hset := zgv (os.take k) (rdNs 1073741824 k s).1 (by rw [zeg, List.length_take]; omega) os[k] (za1 1073741824 (rdNs 1073741824 k s).2).1 cs
   rw [← List.take_succ_eq_append_getElem hlo] at hset
   have hcs : os[k] < (zcR cs (os.take k) (rdNs 1073741824 k s).1).size := by rw [zgq]; exact hos _ (List.getElem_mem hlo)
   generalize zcR cs (os.take k) (rdNs 1073741824 k s).1 = C at hb hset hcs
   generalize za1 1073741824 (rdNs 1073741824 k s).2 = q at hnk hsucc hset
   generalize (rdNs 1073741824 k s).2 = sk at hr hnk
   obtain ⟨z, s2⟩ := q
   simp only at hnk hsucc hset
   have HS := Lib.hid hsucc
   have HT := Lib.hid hset
   generalize os[k] = o at hcell hcs hset HT
   clear hsucc hset
   have hsc := hsb.cell 0
   simp at hsc
   go_wp2_with fail
   refine (hnk _ hr).mono ?_
   rintro e w1 ⟨rfl, h1⟩
   have hb1 := hb.fr h1.2 (fun e => hgX e.symm)
   have c1 : w1.cell? ⟨X, o, none⟩ = some C[o] := by rw [hb1.cell]; simp [hcs]
   have f1 := hb1.frozen o
   have hsb1 := hsb.fr h1.2 (by omega)
   generalize C[o] = old at c1
   go_wp2_with fail
   go_roundw
   case rel =>
    have hb2 := hb1.set_ o (I64 z)
    rw [← HT.out] at hb2
    have hs2 := HS.out
    refine ⟨k + 1, by omega, by go_num, ?_, ?_, ?_, ?_⟩
    ·rw [hs2]
     exact h1.1.fr (S := (· = X)) ((Fr.refl (· = X) w1).setCell (p := ⟨X, o, none⟩) (.inl rfl) _) (fun e => hgX e) (fun j hj e => hF (e ▸ hj))
    ·rw [hs2]
     exact hb2
    ·exact (hf.trans h1.2 (fun j hj => .inl (.inl hj))).setCell (p := ⟨X, o, none⟩) (.inl (.inr rfl)) _
    ·exact hsb1.far (show w.heap.size ≠ X by omega) _
   case measure => simp [intOf]; omega
  ·have hkn : k = n := by omega
   subst hkn
   go_wp2_with fail
   go_end0
   refine ⟨rfl, hr, ?_, hf⟩
   rw [List.take_of_length_le (by omega)] at hb
   exact hb
end Go.Proofs.YtippdjaakcgeoaaGreat
