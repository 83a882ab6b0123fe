/- Lemmas of the walks: RgD, GdB. (Laid together by shake.py.) -/
import Derived.Test.YtippdjaakcgeoaaGreatEa03
import Derived.Test.YtippdjaakcgeoaaGreatEa04
import Derived.Test.YtippdjaakcgeoaaGreatEa16
import Derived.Test.YtippdjaakcgeoaaGreatEa17
set_option linter.unusedVariables false
set_option linter.unusedSimpArgs false
set_option maxRecDepth 100000
set_option maxHeartbeats 16000000
namespace Go.Proofs.YtippdjaakcgeoaaGreat
open Go Go.RowKit
theorem zhy (x : BasM) : zbi x.x = (decide (0 ≤ x.index) && (decide (x.index ≤ 1073741824) && (decide (0 ≤ x.term) && (decide (x.term ≤ 1073741824) && zby x.cfg.x)))) := by
 rw [Bool.eq_iff_iff]
 unfold zbi zbd
 simp only [Bool.and_eq_true, decide_eq_true_eq]
 constructor
 ·rintro ⟨⟨a, b⟩, ⟨c, d⟩, e⟩; exact ⟨a, b, c, d, e⟩
 ·rintro ⟨a, b, c, d, e⟩; exact ⟨⟨a, b⟩, ⟨c, d⟩, e⟩
theorem rbas (w : World) (F : Nat → Prop) (x : BasM) (hx : zaD w F x.cfg) (hz : zaY x.cfg) :
  Calls Tryz.prog 131 #[.agg (basA x)] w fun e w' => e = .returned (.bool (zbi x.x)) ∧ Nw w w' := by
 obtain ⟨W0, hW0⟩ : ∃ W, W = w.alloc (.cells (basA x) 47) := ⟨_, rfl⟩
 have p0 : Nw w W0 := by rw [hW0]; exact (Fr.refl (fun _ => False) _).alloc _
 have b0 : Blk W0 w.heap.size 47 (basA x) := by rw [hW0]; exact Blk.new _ _ _
 have k0 : W0.cell? ⟨w.heap.size, 0, none⟩ = some (I64 x.index) := by simpa using b0.cell 0
 have k1 : W0.cell? ⟨w.heap.size, 1, none⟩ = some (I64 x.term) := by simpa using b0.cell 1
 have kc : ∀ p u, ((cl9 x.cfg) : List Value)[p]? = some u → W0.cell? ⟨w.heap.size, 2 + p, none⟩ = some u := Blk.cells_in (l := (bl9 x)) b0 2 4
 have hcon := rcfg W0 F x.cfg (hx.nw p0) hz
 have hp := zhy x
 obtain ⟨r, hr⟩ : ∃ d, zbi x.x = d := ⟨_, rfl⟩
 obtain ⟨d, hd⟩ : ∃ d, zby x.cfg.x = d := ⟨_, rfl⟩
 rw [hd] at hp hcon
 rw [hr] at hp ⊢
 have hno : r = true → (0 ≤ x.index ∧ x.index ≤ 1073741824) ∧ 0 ≤ x.term ∧ x.term ≤ 1073741824 := fun h => by
  rw [hp] at h
  simp only [Bool.and_eq_true, decide_eq_true_eq] at h
  exact ⟨⟨h.1, h.2.1⟩, h.2.2.1, h.2.2.2.1⟩
 have hyes : (0 ≤ x.index ∧ x.index ≤ 1073741824) → (0 ≤ x.term ∧ x.term ≤ 1073741824) → d = r := fun h1 h2 => by
  rw [hp, decide_eq_true h1.1, decide_eq_true h1.2, decide_eq_true h2.1, decide_eq_true h2.2]; simp
 have HW0 := Lib.hid hW0
 have HNO := Lib.hid hno
 have HYES := Lib.hid hyes
 have HC := Lib.hid hcon
 clear hW0 hno hyes hcon hp hr hd b0
 by_cases h1 : 0 ≤ x.index ∧ x.index ≤ 1073741824
 ·obtain ⟨h1a, h1b⟩ := h1
  by_cases h2 : 0 ≤ x.term ∧ x.term ≤ 1073741824
  ·obtain ⟨h2a, h2b⟩ := h2
   go_enter Tryz.func131, Tryz.ntmps131
   go_upto_region 1 with (fail)
   rw [← HW0.out]
   go_wp2_with (refine zaO (by kernel_rfl) 45 _ rfl w.heap.size 2 rfl (cl9 x.cfg) _ kc Tryz.underlying45 rfl (by kernel_rfl) ?_)
   refine HC.out.mono ?_
   rintro e w1 ⟨rfl, q1⟩
   go_wp2_with fail
   go_ret
   exact ⟨zad (congrArg Value.bool (HYES.out ⟨h1a, h1b⟩ ⟨h2a, h2b⟩)), p0.tr q1⟩
  ·have hrf : r = false := Bool.eq_false_iff.2 fun h => h2 (HNO.out h).2
   subst hrf
   by_cases h3 : 0 ≤ x.term
   ·have h4 : ¬ x.term ≤ 1073741824 := fun h => h2 ⟨h3, h⟩
    clear h2
    go_enter Tryz.func131, Tryz.ntmps131
    go_upto_region 1 with (fail)
    rw [← HW0.out]
    go_wp2_with fail
    go_ret
    exact ⟨rfl, p0⟩
   ·clear h2
    go_enter Tryz.func131, Tryz.ntmps131
    go_upto_region 1 with (fail)
    rw [← HW0.out]
    go_wp2_with fail
    go_ret
    exact ⟨rfl, p0⟩
 ·have hrf : r = false := Bool.eq_false_iff.2 fun h => h1 (HNO.out h).1
  subst hrf
  by_cases h3 : 0 ≤ x.index
  ·have h4 : ¬ x.index ≤ 1073741824 := fun h => h1 ⟨h3, h⟩
   clear h1
   go_enter Tryz.func131, Tryz.ntmps131
   go_upto_region 1 with (fail)
   rw [← HW0.out]
   go_wp2_with fail
   go_ret
   exact ⟨rfl, p0⟩
  ·clear h1
   go_enter Tryz.func131, Tryz.ntmps131
   go_upto_region 1 with (fail)
   rw [← HW0.out]
   go_wp2_with fail
   go_ret
   exact ⟨rfl, p0⟩
def zen (x : LetM) : List Int := [x.term, x.index, x.logt, x.commit, x.size, x.at_]
def zmm (V : World) (x : LetM) (i : Value) (wr : World) : Prop := ∃ k : Nat, k ≤ 6 ∧ i = .int .i64 k ∧ Nw V wr
def zjh (V : World) (x : LetM) (i : Value) (wr : World) : Prop := ∃ k : Nat, k ≤ x.ents.l.length ∧ i = .int .i64 k ∧ (∀ j (h : j < x.ents.l.length), j < k → zbB x.ents.l[j] = true) ∧ Nw V wr
theorem zmo (x : LetM) (h : zaE x.x = true) : ((1 ≤ x.kind ∧ x.kind ≤ 8) ∧ (0 ≤ x.group ∧ x.group ≤ 4) ∧ (1 ≤ x.src ∧ x.src ≤ 5) ∧ (1 ≤ x.dst ∧ x.dst ≤ 5)) ∧ (0 ≤ x.tag ∧ x.tag ≤ 4611686018427387903) ∧ x.ents.l.length ≤ 30 ∧ x.bytes.l.length ≤ 131072 := by
 have hs := (zbw _).1 h
 obtain ⟨⟨⟨h8, h9⟩, h10, h11⟩, _, h7, ⟨h12, h15⟩, h14, h13⟩ := hs
 have h12 : (x.ents.l.map EntM.x).length ≤ 30 := h12
 rw [List.length_map] at h12
 exact ⟨⟨h8, h9, h10, h11⟩, h7, h12, h13⟩
theorem zls (x : LetM) (h : zaE x.x = true) : ∀ n ∈ zen x, 0 ≤ n ∧ n ≤ 1073741824 := by
 have hs := ((zbw _).1 h).nums
 obtain ⟨⟨h1, h2⟩, ⟨h3, h4⟩, h5, h6⟩ := hs
 intro n hn
 simp only [zen, List.mem_cons, List.not_mem_nil, or_false] at hn
 rcases hn with rfl | rfl | rfl | rfl | rfl | rfl
 ·exact h1
 ·exact h2
 ·exact h3
 ·exact h4
 ·exact h5
 ·exact h6
theorem zlJ (x : LetM) (h : zaE x.x = true) : zbi x.base.x = true := ((zbw _).1 h).base
theorem zlM (x : LetM) (h : zaE x.x = true) : ∀ j (hj : j < x.ents.l.length), zbB x.ents.l[j] = true := fun j hj => ((zbw _).1 h).ents.2 _ (List.mem_map.2 ⟨_, List.getElem_mem hj, rfl⟩)
theorem zmj (x : LetM) (h1 : ∀ n ∈ zen x, 0 ≤ n ∧ n ≤ 1073741824) (h2 : ((1 ≤ x.kind ∧ x.kind ≤ 8) ∧ (0 ≤ x.group ∧ x.group ≤ 4) ∧ (1 ≤ x.src ∧ x.src ≤ 5) ∧ (1 ≤ x.dst ∧ x.dst ≤ 5)) ∧ (0 ≤ x.tag ∧ x.tag ≤ 4611686018427387903) ∧ x.ents.l.length ≤ 30 ∧ x.bytes.l.length ≤ 131072)
  (h3 : zbi x.base.x = true) (h4 : ∀ j (hj : j < x.ents.l.length), zbB x.ents.l[j] = true) : zaE x.x = true := by
 obtain ⟨⟨h8, h9, h10, h11⟩, h7, h12, h13⟩ := h2
 refine (zbw _).2 ⟨⟨⟨h8, h9⟩, h10, h11⟩, ⟨⟨h1 _ ?_, h1 _ ?_⟩, ⟨h1 _ ?_, h1 _ ?_⟩, h1 _ ?_, h1 _ ?_⟩, h7, ⟨by show (x.ents.l.map EntM.x).length ≤ 30; rw [List.length_map]; exact h12, fun e he => ?_⟩, h3, h13⟩
 rotate_right
 ·obtain ⟨y, hy, rfl⟩ := List.mem_map.1 he
  obtain ⟨j, hj, rfl⟩ := List.mem_iff_getElem.1 hy
  exact h4 j hj
 all_goals simp [zen]
theorem zeQ (w : World) (F : Nat → Prop) (x : LetM) (hx : za3 w F x) (hz : za8 x) :
  Calls Tryz.prog 63 #[.agg (letA x)] w fun e w' => e = .returned (.bool (zaE x.x)) ∧ Nw w w' := by
 obtain ⟨X, hX⟩ : ∃ X, X = w.heap.size := ⟨_, rfl⟩
 obtain ⟨W0, hW0⟩ : ∃ W, W = w.alloc (.cells (letA x) 50) := ⟨_, rfl⟩
 have p0 : Nw w W0 := by rw [hW0]; exact (Fr.refl (fun _ => False) _).alloc _
 have b0 : Blk W0 X 50 (letA x) := by rw [hW0, hX]; exact Blk.new _ _ _
 obtain ⟨L, hL⟩ : ∃ L, L = W0.heap.size := ⟨_, rfl⟩
 obtain ⟨V, hV⟩ : ∃ V, V = W0.alloc (.cells #[I64 x.term, I64 x.index, I64 x.logt, I64 x.commit, I64 x.size, I64 x.at_] 3) := ⟨_, rfl⟩
 have p1 : Nw W0 V := by rw [hV]; exact (Fr.refl (fun _ => False) _).alloc _
 have sl : Sl V (· = L) (some ⟨L, 0, none⟩) (zac (zen x)) := by rw [hV]; exact zaI W0 3 (zac (zen x)) _ hL.symm
 have b1 := b0.fr p1 (fun h => h)
 have pV := p0.tr p1
 have htl : (zen x).length = 6 := rfl
 have hlin := zmo x
 have htop := zls x
 have hbas := zlJ x
 have hent := zlM x
 have hall := zmj x
 obtain ⟨r, hr⟩ : ∃ r, zaE x.x = r := ⟨_, rfl⟩
 rw [hr] at hlin htop hbas hent hall ⊢
 obtain ⟨ns, hns⟩ : ∃ ns, zen x = ns := ⟨_, rfl⟩
 rw [hns] at sl htl htop hall
 have hzb : ∀ w1, Nw V w1 → Calls Tryz.prog 131 #[.agg #[I64 x.base.index, I64 x.base.term, .slice x.base.cfg.v.a x.base.cfg.v.l.length x.base.cfg.v.c, .slice x.base.cfg.o.a x.base.cfg.o.l.length x.base.cfg.o.c, .slice x.base.cfg.l.a x.base.cfg.l.l.length x.base.cfg.l.c, .slice x.base.cfg.w.a x.base.cfg.w.l.length x.base.cfg.w.c]] w1 fun e w' => e = .returned (.bool (zbi x.base.x)) ∧ Nw w1 w' := fun w1 f => rbas w1 F x.base (hx.cfg.nw (pV.tr f)) hz.cfg
 obtain ⟨db, hdb⟩ : ∃ d, zbi x.base.x = d := ⟨_, rfl⟩
 simp only [hdb] at hzb
 rw [hdb] at hbas hall
 have hkd := hx.kind
 have hel : x.ents.l.length ≤ 1000000 := hz.ents
 have hbl : x.bytes.l.length ≤ 1000000 := hz.bytes
 have HX := Lib.hid hX
 have HW0 := Lib.hid hW0
 have HL := Lib.hid hL
 have HV := Lib.hid hV
 have HLIN := Lib.hid hlin
 have HTOP := Lib.hid htop
 have HBAS := Lib.hid hbas
 have HENT := Lib.hid hent
 have HALL := Lib.hid hall
 have HZB := Lib.hid hzb
 have HTL := Lib.hid htl
 have HEI := Lib.hid hx.ents
 have HEE := Lib.hid hx.each
 have HEZ := Lib.hid hz.each
 have k4 : W0.cell? ⟨X, 4, none⟩ = some (I64 x.term) := by simpa using b0.cell 4
 have k5 : W0.cell? ⟨X, 5, none⟩ = some (I64 x.index) := by simpa using b0.cell 5
 have k6 : W0.cell? ⟨X, 6, none⟩ = some (I64 x.logt) := by simpa using b0.cell 6
 have k7 : W0.cell? ⟨X, 7, none⟩ = some (I64 x.commit) := by simpa using b0.cell 7
 have k16 : W0.cell? ⟨X, 16, none⟩ = some (I64 x.size) := by simpa using b0.cell 16
 have k17 : W0.cell? ⟨X, 17, none⟩ = some (I64 x.at_) := by simpa using b0.cell 17
 clear hX hW0 hL hV hlin htop hbas hent hall hzb htl hdb hns hr hx hz b0
 go_enter Tryz.func63, Tryz.ntmps63
 go_upto_region 1 with (fail)
 rw [← HX.out, ← HW0.out]
 go_upto_region 2 with (fail)
 rw [← HL.out, ← HV.out]
 clear k4 k5 k6 k7 k16 k17
 go_wp2_with fail
 go_loopw [4] (fun i wr => zmm V x i wr ∧ ∀ j, j < (intOf i).toNat → ∀ (h : j < ns.length), 0 ≤ ns[j] ∧ ns[j] ≤ 1073741824) (fun i _ => 6 - (intOf i).toNat)
 case atStart => exact ⟨⟨0, by omega, rfl, Fr.refl _ _⟩, fun j hj => by simp [intOf] at hj⟩
 case round =>
  obtain ⟨⟨k, hk, rfl, hq⟩, hb⟩ := hrel
  have HB : Hid (∀ j, j < k → ∀ (h : j < ns.length), 0 ≤ ns[j] ∧ ns[j] ≤ 1073741824) := Lib.hid (fun j hj h => hb j (by simpa [intOf] using hj) h)
  clear hb
  by_cases hlt : k < 6
  ·have hkn : k < ns.length := by rw [HTL.out]; exact hlt
   obtain ⟨b, o', hbo, _, p0c⟩ := (sl.fr hq (fun _ _ h => h)).get hkn
   injection hbo with hbo
   injection hbo with e1 e2 _
   subst e1
   subst e2
   simp only [Nat.zero_add] at p0c
   have hnn := fun h => HTOP.out h ns[k] (List.getElem_mem hkn)
   have hnx : (0 ≤ ns[k] ∧ ns[k] ≤ 1073741824) → ∀ j, j < k + 1 → ∀ (h : j < ns.length), 0 ≤ ns[j] ∧ ns[j] ≤ 1073741824 := fun h0 j hj h => by
    by_cases e : j < k
    ·exact HB.out j e h
    ·obtain rfl : j = k := by omega
     exact h0
   obtain ⟨n, hn⟩ : ∃ n, ns[k] = n := ⟨_, rfl⟩
   rw [hn] at p0c hnn hnx
   have HNN := Lib.hid hnn
   have HNX := Lib.hid hnx
   have hi0 : (k : Int) < 6 := by omega
   have P0 := fun (m : za0 wr) => m.cell p0c
   clear hnn hnx hn
   by_cases h1 : n < 0
   ·have g1 : decide (n < 0) = true := decide_eq_true h1
    go_wp2_with fail
    go_ret
    exact ⟨zad (congrArg Value.bool (Bool.eq_false_iff.2 fun h => by have := HNN.out h; omega).symm), (pV.tr hq)⟩
   ·have g1 : decide (n < 0) = false := decide_eq_false h1
    have h1' : 0 ≤ n := by omega
    by_cases h2 : 1073741824 < n
    ·have g2 : decide (1073741824 < n) = true := decide_eq_true h2
     go_wp2_with fail
     go_ret
     exact ⟨zad (congrArg Value.bool (Bool.eq_false_iff.2 fun h => by have := HNN.out h; omega).symm), (pV.tr hq)⟩
    ·have g2 : decide (1073741824 < n) = false := decide_eq_false h2
     have h2' : n ≤ 1073741824 := by omega
     go_wp2_with fail
     go_roundw
     case rel =>
      refine ⟨⟨k + 1, by omega, by go_num, hq⟩, fun j hj h => HNX.out ⟨h1', h2'⟩ j (by simp [intOf] at hj; omega) h⟩
     case measure => simp [intOf]; omega
  ·obtain rfl : k = 6 := by omega
   have hB2 : ∀ n ∈ ns, 0 ≤ n ∧ n ≤ 1073741824 := fun n hn => by
    obtain ⟨j, hj, rfl⟩ := List.mem_iff_getElem.1 hn
    exact HB.out j (by rw [HTL.out] at hj; exact hj) hj
   have HB2 := Lib.hid hB2
   have b2 := b1.fr hq (fun h => h)
   have b1x := b1
   have k18 : wr.cell? ⟨X, 18, none⟩ = some (I64 x.tag) := by simpa using b2.cell 18
   have k0 : wr.cell? ⟨X, 0, none⟩ = some (U8V x.kind) := by simpa using b2.cell 0
   have k1 : wr.cell? ⟨X, 1, none⟩ = some (I64 x.group) := by simpa using b2.cell 1
   have k2 : wr.cell? ⟨X, 2, none⟩ = some (I64 x.src) := by simpa using b2.cell 2
   have k3 : wr.cell? ⟨X, 3, none⟩ = some (I64 x.dst) := by simpa using b2.cell 3
   have k9 : wr.cell? ⟨X, 9, none⟩ = some (.slice x.ents.a x.ents.l.length x.ents.c) := by simpa using b2.cell 9
   have k19 : wr.cell? ⟨X, 19, none⟩ = some (.slice x.bytes.a x.bytes.l.length x.bytes.c) := by simpa using b2.cell 19
   clear hB2 HB b1 sl
   by_cases hlx : ((1 ≤ x.kind ∧ x.kind ≤ 8) ∧ (0 ≤ x.group ∧ x.group ≤ 4) ∧ (1 ≤ x.src ∧ x.src ≤ 5) ∧ (1 ≤ x.dst ∧ x.dst ≤ 5)) ∧ (0 ≤ x.tag ∧ x.tag ≤ 4611686018427387903)
   case neg =>
    have hrf : r = false := Bool.eq_false_iff.2 fun h => hlx ⟨(HLIN.out h).1, (HLIN.out h).2.1⟩
    have HRF := Lib.hid hrf
    clear hrf
    by_cases hl1 : 0 ≤ x.tag ∧ x.tag ≤ 4611686018427387903
    case neg =>
     clear hlx
     by_cases hl2 : 0 ≤ x.tag
     ·have hl3 : 4611686018427387903 < x.tag := by omega
      clear hl1
      go_wp2_with fail
      go_ret
      exact ⟨zad (congrArg Value.bool HRF.out.symm), pV.tr hq⟩
     ·clear hl1
      go_wp2_with fail
      go_ret
      exact ⟨zad (congrArg Value.bool HRF.out.symm), pV.tr hq⟩
    have hl1a := hl1.1
    have hl1b := hl1.2
    have hlz : x.kind < 1 ∨ 8 < x.kind ∨ x.group < 0 ∨ 4 < x.group ∨ x.src < 1 ∨ 5 < x.src ∨ x.dst < 1 ∨ 5 < x.dst := by omega
    clear hlx hl1
    go_upto_if 82 with (fail)
    all_goals (rcases hlz with h | h | h | h | h | h | h | h <;> (go_wp2_with fail; try omega) <;> (try (go_ret; exact ⟨zad (congrArg Value.bool HRF.out.symm), pV.tr hq⟩)))
   obtain ⟨⟨⟨l1, l2⟩, ⟨l3, l4⟩, ⟨l5, l6⟩, l7, l8⟩, l9, l10⟩ := hlx
   have t1 : decide (x.tag < 0) = false := decide_eq_false (by omega)
   have t2 : decide (4611686018427387903 < x.tag) = false := decide_eq_false (by omega)
   have t3 : decide (x.kind < 1) = false := decide_eq_false (by omega)
   have t4 : decide (8 < x.kind) = false := decide_eq_false (by omega)
   have t5 : decide (x.group < 0) = false := decide_eq_false (by omega)
   have t6 : decide (4 < x.group) = false := decide_eq_false (by omega)
   have t7 : decide (x.src < 1) = false := decide_eq_false (by omega)
   have t8 : decide (5 < x.src) = false := decide_eq_false (by omega)
   have t9 : decide (x.dst < 1) = false := decide_eq_false (by omega)
   have t10 : decide (5 < x.dst) = false := decide_eq_false (by omega)
   by_cases h30 : x.ents.l.length ≤ 30
   case neg =>
    have h30i : (30 : Int) < (x.ents.l.length : Int) := by omega
    go_wp2_with fail
    all_goals (go_ret; exact ⟨zad (congrArg Value.bool (Bool.eq_false_iff.2 fun h => by have := HLIN.out h; omega).symm), pV.tr hq⟩)
   have h30i : (x.ents.l.length : Int) ≤ 30 := by omega
   have h30d : decide ((30 : Int) < (x.ents.l.length : Int)) = false := decide_eq_false (by omega)
   by_cases h13 : x.bytes.l.length ≤ 131072
   case neg =>
    have h13i : (131072 : Int) < (x.bytes.l.length : Int) := by omega
    go_wp2_with fail
    all_goals (go_ret; exact ⟨zad (congrArg Value.bool (Bool.eq_false_iff.2 fun h => by have := HLIN.out h; omega).symm), pV.tr hq⟩)
   have h13i : (x.bytes.l.length : Int) ≤ 131072 := by omega
   have h13d : decide ((131072 : Int) < (x.bytes.l.length : Int)) = false := decide_eq_false (by omega)
   go_wp2_with (refine zaO (by kernel_rfl) 47 _ rfl X 10 rfl [I64 x.base.index, I64 x.base.term, .slice x.base.cfg.v.a x.base.cfg.v.l.length x.base.cfg.v.c, .slice x.base.cfg.o.a x.base.cfg.o.l.length x.base.cfg.o.c, .slice x.base.cfg.l.a x.base.cfg.l.l.length x.base.cfg.l.c, .slice x.base.cfg.w.a x.base.cfg.w.l.length x.base.cfg.w.c] _ (Blk.cells_in (l := (letL x)) b2 10 6) Tryz.underlying47 rfl (by kernel_rfl) ?_)
   have hlin : ((1 ≤ x.kind ∧ x.kind ≤ 8) ∧ (0 ≤ x.group ∧ x.group ≤ 4) ∧ (1 ≤ x.src ∧ x.src ≤ 5) ∧ (1 ≤ x.dst ∧ x.dst ≤ 5)) ∧ (0 ≤ x.tag ∧ x.tag ≤ 4611686018427387903) ∧ x.ents.l.length ≤ 30 ∧ x.bytes.l.length ≤ 131072 := by omega
   have HL2 := Lib.hid hlin
   clear hlin
   refine (HZB.out _ hq).mono ?_
   rintro e w2 ⟨rfl, q2⟩
   have Q2 := hq.tr q2
   cases db with
   | false =>
    go_wp2_with fail
    go_ret
    exact ⟨zad (congrArg Value.bool (Bool.eq_false_iff.2 fun h => by have := HBAS.out h; cases this).symm), pV.tr Q2⟩
   | true =>
    have b3 := b2.fr q2 (fun h => h)
    have HALL2 := Lib.hid (HALL.out HB2.out HL2.out rfl)
    clear HALL b2 k18 k0 k1 k2 k3 k9 k19
    go_wp2_with fail
    go_loopw [5] (fun i wr => zjh V x i wr) (fun i _ => x.ents.l.length - (intOf i).toNat)
    case atStart => exact ⟨0, Nat.zero_le _, rfl, fun _ _ h => by omega, Q2⟩
    case round =>
     clear hq q2
     obtain ⟨k, hk, rfl, hb, hq⟩ := hrel
     have HB := Lib.hid hb
     clear hb
     have b4 : Blk wr X 50 (letA x) := b1x.fr hq (fun h => h)
     have kk9 : wr.cell? ⟨X, 9, none⟩ = some (.slice x.ents.a x.ents.l.length x.ents.c) := by simpa using b4.cell 9
     by_cases hlt : k < x.ents.l.length
     ·obtain ⟨b, o, hA, _, _, hc⟩ := ((HEI.out.nw (pV.tr hq)).sl).ent hlt
      have hi0 : (k : Int) < (x.ents.l.length : Int) := by omega
      have hei := (HEE.out _ (List.getElem_mem hlt)).nw (pV.tr hq)
      have hez := HEZ.out _ (List.getElem_mem hlt)
      have hnx : zbB x.ents.l[k] = true → zjh V x (.int .i64 ((k : Int) + 1)) wr := fun h0 => ⟨k + 1, hlt, by go_num, fun j hj hjk => by
       by_cases e : j < k
       ·exact HB.out j hj e
       ·obtain rfl : j = k := by omega
        exact h0, hq⟩
      have hno : r = true → zbB x.ents.l[k] = true := fun h => HENT.out h k hlt
      obtain ⟨y, hy⟩ : ∃ y, x.ents.l[k] = y := ⟨_, rfl⟩
      rw [hy] at hc hei hez hnx hno
      have hcon := rent wr F y hei hez
      have hcon : Calls Tryz.prog 132 #[.agg (entA y)] wr fun e w' => e = .returned (.bool (zbB y)) ∧ Nw wr w' := hcon
      obtain ⟨de, hde⟩ : ∃ d, zbB y = d := ⟨_, rfl⟩
      rw [hde] at hcon hnx hno
      have HC := Lib.hid hcon
      have HNX := Lib.hid hnx
      have HNO := Lib.hid hno
      rw [hA] at kk9
      clear hcon hnx hno hei hez hy hde hA
      go_wp2_with (refine za5 rfl 87 _ rfl b (o + k * 7) rfl _ _ hc Tryz.underlying87 rfl (by kernel_rfl) ?_)
      refine HC.out.mono ?_
      rintro e w5 ⟨rfl, q5⟩
      cases de with
      | false =>
       go_wp2_with fail
       go_ret
       exact ⟨zad (congrArg Value.bool (Bool.eq_false_iff.2 fun h => by have := HNO.out h; cases this).symm), pV.tr (hq.tr q5)⟩
      | true =>
       go_wp2_with fail
       go_roundw
       case rel =>
        obtain ⟨kk, a1, a2, a3, a4⟩ := HNX.out (by first | rfl | trivial)
        first | exact ⟨kk, a1, a2, a3, hq.tr q5⟩ | ((repeat apply Exists.intro); exact ⟨⟨kk, a1, a2, a3, hq.tr q5⟩, rfl⟩)
       case measure => simp [intOf]; omega
     ·obtain rfl : x.ents.l.length = k := by omega
      go_wp2_with fail
      go_ret
      exact ⟨zad (congrArg Value.bool (HALL2.out (fun j hj => HB.out j hj hj)).symm), pV.tr hq⟩
open Go Go.RowKit
theorem zdE (s : Rd) : (zaA s).1.length ≤ 5 := by
 have h := zbR 5 s (by omega)
 show (rdNs 5 (za1 5 s).1.toNat (za1 5 s).2).1.length ≤ 5
 rw [zeg]
 omega
theorem zdJ {y : CfgM} {s : Rd} (h : y.x = (zat s).1) : zaY y := by
 have a1 : y.v.l = (zat s).1.v := congrArg Cfg.v h
 have a2 : y.o.l = (zat s).1.o := congrArg Cfg.o h
 have a3 : y.l.l = (zat s).1.l := congrArg Cfg.l h
 have a4 : y.w.l = (zat s).1.w := congrArg Cfg.w h
 have b1 : (zat s).1.v.length ≤ 5 := zdE _
 have b2 : (zat s).1.o.length ≤ 5 := zdE _
 have b3 : (zat s).1.l.length ≤ 5 := zdE _
 have b4 : (zat s).1.w.length ≤ 5 := zdE _
 exact ⟨by rw [a1]; omega, by rw [a2]; omega, by rw [a3]; omega, by rw [a4]; omega⟩
theorem zaV.zero (w0 w : World) : zaV w0 w zcm := by
 have h : ∀ k, ¬ inA (none : Option Addr) k := zaH
 exact ⟨⟨by decide, by decide⟩, ⟨Own.nil _ _ _, fun k hk => (h k hk).elim⟩, ⟨⟨Own.nil _ _ _, fun k hk => (h k hk).elim⟩, ⟨Own.nil _ _ _, fun k hk => (h k hk).elim⟩, ⟨Own.nil _ _ _, fun k hk => (h k hk).elim⟩, ⟨Own.nil _ _ _, fun k hk => (h k hk).elim⟩, fun k _ hk => (h k hk).elim, fun k _ hk => (h k hk).elim, fun k _ hk => (h k hk).elim, fun k _ hk => (h k hk).elim, fun k _ hk => (h k hk).elim, fun k _ hk => (h k hk).elim⟩⟩
theorem zky (w : World) (F : Nat → Prop) (g : Nat) (s : Rd) (h : IsRd w F g s) (hsz : zav s ≤ 1000000000000) :
  Calls Tryz.prog 167 #[.pointer (some ⟨g, 0, none⟩)] w fun e w' => ∃ y : EntM, e = .returned (.tuple #[.agg (entA y), .bool (zbb s).2]) ∧ y.x = (zbb s).1 ∧ zaV w w' y ∧ RdTo w F g (zb7 s).2 w' := by
 have hE : zb7 s = (⟨(za1 1073741824 s).1, (za1 255 (za1 1073741824 s).2).1, (zb1 131072 (za1 255 (za1 1073741824 s).2).2).1, (zat (zb1 131072 (za1 255 (za1 1073741824 s).2).2).2).1⟩, (zat (zb1 131072 (za1 255 (za1 1073741824 s).2).2).2).2) := rfl
 have hT : zbb s = if ((zb7 s).2.isSome && zbm (zb7 s).1) = true then ((zb7 s).1, true) else (entZ, false) := rfl
 have hD : ∀ a : Ent × Bool, zbb s = a → (zbb s).1 = a.1 ∧ (zbb s).2 = a.2 := fun a h => by rw [h]; exact ⟨rfl, rfl⟩
 obtain ⟨⟨qe, qd⟩, hqq⟩ : ∃ q, zbb s = q := ⟨_, rfl⟩
 rw [hqq, hE]
 rw [hqq, hE] at hT
 clear hD hqq hE
 have n1 := fun w1 h1 => zb5 w1 F g s h1 1073741824
 have l1 := Nat.le_trans (zap 1073741824 s) hsz
 obtain ⟨⟨t, s1⟩, hq1⟩ : ∃ q, za1 1073741824 s = q := ⟨_, rfl⟩
 rw [hq1] at n1 l1
 simp only [hq1] at n1 l1 hT ⊢
 have n2 := fun w1 h1 => zb5 w1 F g s1 h1 255
 have m2 := zbR 255 s1 (by omega)
 have l2 := Nat.le_trans (zap 255 s1) l1
 obtain ⟨⟨k, s2⟩, hq2⟩ : ∃ q, za1 255 s1 = q := ⟨_, rfl⟩
 simp only [hq2] at n2 m2 l2 hT ⊢
 have n3 := fun w1 h1 => zhu w1 F g s2 h1 131072 l2
 have m3 := zdU 131072 (by omega) s2
 obtain ⟨⟨bl, s3⟩, hq3⟩ : ∃ q, zb1 131072 s2 = q := ⟨_, rfl⟩
 simp only [hq3] at n3 m3 hT ⊢
 have n4 := fun w1 h1 => zer w1 F g s3 h1
 have hkw : k % 256 = k := by omega
 have hbl : bl.length ≤ 131072 := by omega
 have N1 := Lib.hid n1
 have N2 := Lib.hid n2
 have N3 := Lib.hid n3
 have N4 := Lib.hid n4
 have HT0 := Lib.hid hT
 clear hT n1 n2 n3 n4 hq1 hq2 hq3 l1 l2 m3
 obtain ⟨R, hR⟩ : ∃ X, X = w.heap.size := ⟨_, rfl⟩
 obtain ⟨X, hX⟩ : ∃ Y, Y = w.heap.size + 1 := ⟨_, rfl⟩
 obtain ⟨Wa, hWa⟩ : ∃ W, W = w.alloc (.cells zE9A 87) := ⟨_, rfl⟩
 have pa : Nw w Wa := by rw [hWa]; exact (Fr.refl (fun _ => False) _).alloc _
 have ra : Blk Wa R 87 zE9A := by rw [hWa, hR]; exact Blk.new _ _ _
 have hza : Wa.heap.size = X := by rw [hWa, hX]; simp
 obtain ⟨W0, hW0⟩ : ∃ W, W = Wa.alloc (.cells zE9A 87) := ⟨_, rfl⟩
 have p0 : Nw Wa W0 := by rw [hW0]; exact (Fr.refl (fun _ => False) _).alloc _
 have x0 : Blk W0 X 87 zE9A := by rw [hW0, ← hza]; exact Blk.new _ _ _
 have r0 := ra.fr p0 (fun h => h)
 have Q0 : Nw w W0 := pa.tr p0
 have hgl := h.lt
 have hFl := h.out.2
 have hRX : R ≠ X := by omega
 have hgX : g ≠ X := by omega
 have hwR : w.heap.size ≤ R := by omega
 have hwX : w.heap.size ≤ X := by omega
 have hXl : X < W0.heap.size := x0.lt
 obtain ⟨KK, hKK⟩ : ∃ K : World → Prop, K = fun wz => Blk wz R 87 zE9A := ⟨_, rfl⟩
 have hKe : ∀ wz, KK wz → Blk wz R 87 zE9A := fun wz hk => by rw [hKK] at hk; exact hk
 have hKi : ∀ wz, Blk wz R 87 zE9A → KK wz := fun wz hk => by rw [hKK]; exact hk
 have st0 : RSt true w W0 F g X 87 KK s zE9A := ⟨h.fr Q0 (fun h => h) (fun _ _ h => h), x0, hKi _ r0, Nw.on Q0, hgX, fun hF => by have := hFl _ hF; omega, hwX, fun a c f hk => hKi _ ((hKe _ hk).fr f (by omega))⟩
 have HR := Lib.hid hR
 have HX := Lib.hid hX
 have HWa := Lib.hid hWa
 have HW0 := Lib.hid hW0
 clear hR hX hWa hW0 hza ra x0 r0 pa p0 hKK
 go_enter Tryz.func167, Tryz.ntmps167
 go_upto_region 2 with (fail)
 rw [← HX.out, ← HR.out, ← HWa.out, ← HW0.out]
 go_upto_region 3 with (go_at_call 96; refine (N1.out _ st0.rd).mono ?_; rintro e w1 ⟨rfl, h1⟩; have su1 := st0.callP h1; have c1 : w1.cell? ⟨X, 0, none⟩ = some (I64 0) := (by simpa using su1.x.cell 0); have f1 := su1.x.frozen 0)
 obtain ⟨W1, hW1⟩ : ∃ W, W = w1.setCell ⟨X, 0, none⟩ (I64 t) := ⟨_, rfl⟩
 have st1 : RSt true w W1 F g X 87 KK s1 #[I64 t, U8V 0, .slice none 0 0, .slice none 0 0, .slice none 0 0, .slice none 0 0, .slice none 0 0] := by rw [hW1]; exact su1.set_ 0 (I64 t)
 have HW1 := Lib.hid hW1
 rw [← HW1.out]
 clear hW1 su1 c1 f1 st0
 go_upto_region 4 with (go_at_call 96; refine (N2.out _ st1.rd).mono ?_; rintro e w2 ⟨rfl, h2⟩; have su2 := st1.callP h2; have c2 : w2.cell? ⟨X, 1, none⟩ = some (U8V 0) := (by simpa using su2.x.cell 1); have f2 := su2.x.frozen 1)
 obtain ⟨W2, hW2⟩ : ∃ W, W = w2.setCell ⟨X, 1, none⟩ (U8V k) := ⟨_, rfl⟩
 have st2 : RSt true w W2 F g X 87 KK s2 #[I64 t, U8V k, .slice none 0 0, .slice none 0 0, .slice none 0 0, .slice none 0 0, .slice none 0 0] := by rw [hW2]; exact su2.set_ 1 (U8V k)
 have HW2 := Lib.hid hW2
 rw [← HW2.out]
 clear hW2 su2 c2 f2 st1
 go_upto_region 5 with (go_at_call 169; refine (N3.out _ st2.rd).mono ?_; rintro e w3 ⟨A3, cp3, rfl, o3, h3, n3⟩; have su3 := st2.callP h3; have c3 : w3.cell? ⟨X, 2, none⟩ = some (.slice none 0 0) := (by simpa using su3.x.cell 2); have f3 := su3.x.frozen 2)
 obtain ⟨W3, hW3⟩ : ∃ W, W = w3.setCell ⟨X, 2, none⟩ (.slice A3 bl.length cp3) := ⟨_, rfl⟩
 have st3 : RSt true w W3 F g X 87 KK s3 #[I64 t, U8V k, .slice A3 bl.length cp3, .slice none 0 0, .slice none 0 0, .slice none 0 0, .slice none 0 0] := by rw [hW3]; exact su3.set_ 2 (.slice A3 bl.length cp3)
 have o3 : zao w W3 5 1 zaw ⟨A3, cp3, bl⟩ := ⟨o3.fr (S := (· = X)) (by rw [hW3]; exact (Fr.refl (· = X) _).set1 _ _) (fun j hj e => by have := n3 j hj; have := st2.x.lt; omega), fun j hj => Nat.le_trans st2.fr.size (n3 j hj)⟩
 have HW3 := Lib.hid hW3
 rw [← HW3.out]
 clear hW3 su3 c3 f3 st2
 have bu3 := st3.x.lt
 have bR3 := (hKe _ st3.k).lt
 go_wp2_with fail
 refine (N4.out _ st3.rd).mono ?_
 rintro e w4 ⟨y4, rfl, ey4, oy4, h4⟩
 have su4 := st3.callP h4
 have th4 := Blk.there (l := [I64 t, U8V k, .slice A3 bl.length cp3, .slice none 0 0, .slice none 0 0, .slice none 0 0, .slice none 0 0]) su4.x 3 4 (by show 3 + 4 ≤ 7; omega)
 have one4 := zdi y4
 obtain ⟨W4, hW4⟩ : ∃ W, W = w4.setCells X 3 (cl9 y4) := ⟨_, rfl⟩
 have m4 : Fr (· = X) w4 W4 := by rw [hW4]; exact (Fr.refl (· = X) _).setCells _ _
 have x4 : Blk W4 X 87 (le9A t k A3 bl.length cp3 y4) := by rw [hW4]; exact Blk.setCells (l := [I64 t, U8V k, .slice A3 bl.length cp3, .slice none 0 0, .slice none 0 0, .slice none 0 0, .slice none 0 0]) su4.x 3 (cl9 y4)
 have r4 : Blk W4 R 87 zE9A := (hKe _ su4.k).fr m4 hRX
 have rd4 : IsRd W4 F g (zat s3).2 := IsRd.fr su4.rd m4 hgX (fun j hj e => by have := hFl j hj; omega)
 have f4 : Fr (· = g) w W4 := su4.fr.trans m4 (fun j hj => .inr (by omega))
 have oc4 : zaQ W3 W4 y4 := oy4.fr m4 (fun j hj e => by omega)
 have sz3 := st3.fr.size
 have own4 : zaV w W4 ⟨t, k, ⟨A3, cp3, bl⟩, y4⟩ := by
  refine ⟨by show 0 ≤ k ∧ k ≤ 255; omega, (o3.fr h4.2 (fun j hj e => by have := o3.base j hj; omega)).fr m4 (fun j hj e => ?_), (oy4.fr m4 (fun j hj e => by omega)).from_ st3.fr.size⟩
  exact o3.own.ne_ (st3.x) (by decide) (e ▸ hj)
 have HW4 := Lib.hid hW4
 have cf := zfS W4 F g (zat s3).2 rd4
 have hsze : zaW ⟨t, k, ⟨A3, cp3, bl⟩, y4⟩ := ⟨by show bl.length ≤ _; omega, zdJ ey4⟩
 have cj := jent W4 _ ⟨t, k, ⟨A3, cp3, bl⟩, y4⟩ own4.in_ hsze
 have hyx : (⟨t, k, ⟨A3, cp3, bl⟩, y4⟩ : EntM).x = ⟨t, k, bl, (zat s3).1⟩ := by show (⟨t, k, bl, y4.x⟩ : Ent) = _; rw [ey4]
 rw [hyx] at cj
 obtain ⟨⟨cg, s4⟩, hq4⟩ : ∃ q, zat s3 = q := ⟨_, rfl⟩
 have hT := HT0.out
 simp only [hq4] at cj cf rd4 hyx hT
 have HQ4 := Lib.hid hq4
 obtain ⟨ok, hok⟩ : ∃ ok, ok = zbm ⟨t, k, bl, cg⟩ := ⟨_, rfl⟩
 rw [← hok] at cj
 rw [← hok] at hT
 have lx4 := Blk.cells_at (l := (le9L t k A3 bl.length cp3 y4)) x4 0
 clear hW4 su4 h4 oy4 ey4 st3 hq4 hok
 have HT := Lib.hid hT
 have HYX := Lib.hid hyx
 clear hT hyx
 cases s4 with
 | none =>
  have ct : Calls Tryz.prog 212 #[.pointer (some ⟨g, 0, none⟩)] W4 fun e w' => e = .returned (.bool true) ∧ W4 = w' := cf
  have thz := Blk.there (l := zE9L) r4 0 7 (by show 0 + 7 ≤ 7; omega)
  have onez := zbo zcm
  obtain ⟨W5, hw5⟩ : ∃ W, W = W4.setCells R 0 zE9L := ⟨_, rfl⟩
  have m5 : Fr (· = R) W4 W5 := by rw [hw5]; exact (Fr.refl (· = R) _).setCells _ _
  have r5 : Blk W5 R 87 zE9A := by rw [hw5]; exact Blk.setCells (l := zE9L) r4 0 zE9L
  have own5 := zaV.zero w W5
  have res : zaV w W5 zcm ∧ RdTo w F g none W5 := ⟨own5, rd4.fr m5 (fun e => by omega) (fun j hj e => by have := hFl j hj; omega), f4.trans m5 (fun j hj => .inr (by omega))⟩
  have HW5 := Lib.hid hw5
  have HRES := Lib.hid res
  clear own5 res hw5
  go_wp2_with (first | (refine wpList_store_mid rfl 45 _ _ rfl X 3 (cfgA y4) rfl rfl th4 (by kernel_rfl) one4 ?_; rw [← HW4.out]))
  refine ct.mono ?_
  rintro e w5 ⟨rfl, rfl⟩
  go_wp2_with (refine wpList_store_mid rfl 87 _ _ rfl R 0 zE9A rfl rfl thz (by kernel_rfl) onez ?_; rw [← HW5.out])
  refine bodyPost_ret (v := .tuple #[.agg zE9A, .bool false]) ?_ rfl ?_
  ·exact zan rfl _ _ R 87 _ (0, 0) _ _ rfl rfl r5 Tryz.underlying87 rfl (by kernel_rfl)
  obtain ⟨h1, h2⟩ := HRES.out
  have hT : (qe, qd) = (entZ, false) := HT.out
  obtain ⟨rfl, rfl⟩ := Prod.mk.inj hT
  exact ⟨zcm, rfl, rfl, h1, by rw [HQ4.out]; exact h2⟩
 | some r =>
  have ct : Calls Tryz.prog 212 #[.pointer (some ⟨g, 0, none⟩)] W4 fun e w' => e = .returned (.bool false) ∧ W4 = w' := cf
  go_wp2_with (first | (refine wpList_store_mid rfl 45 _ _ rfl X 3 (cfgA y4) rfl rfl th4 (by kernel_rfl) one4 ?_; rw [← HW4.out]))
  refine ct.mono ?_
  rintro e w5 ⟨rfl, rfl⟩
  go_wp2_with (refine zaO (by kernel_rfl) 87 _ rfl X 0 rfl (le9L t k A3 bl.length cp3 y4) _ lx4 Tryz.underlying87 rfl (by kernel_rfl) ?_)
  refine cj.mono ?_
  rintro e v5 ⟨rfl, p5⟩
  have r4' := r4.fr p5 (fun h => h)
  have rd4' : IsRd v5 F g (some r) := IsRd.fr rd4 p5 (fun h => h) (fun _ _ h => h)
  have f4' : Fr (· = g) w v5 := f4.trans p5 (fun j hj => hj.elim)
  cases ok with
  | false =>
   have thz := Blk.there (l := zE9L) r4' 0 7 (by show 0 + 7 ≤ 7; omega)
   have onez := zbo zcm
   obtain ⟨W5, hw5⟩ : ∃ W, W = v5.setCells R 0 zE9L := ⟨_, rfl⟩
   have m5 : Fr (· = R) v5 W5 := by rw [hw5]; exact (Fr.refl (· = R) _).setCells _ _
   have r5 : Blk W5 R 87 zE9A := by rw [hw5]; exact Blk.setCells (l := zE9L) r4' 0 zE9L
   have own5 := zaV.zero w W5
   have res : zaV w W5 zcm ∧ RdTo w F g (some r) W5 := ⟨own5, rd4'.fr m5 (fun e => by omega) (fun j hj e => by have := hFl j hj; omega), f4'.trans m5 (fun j hj => .inr (by omega))⟩
   have HW5 := Lib.hid hw5
   have HRES := Lib.hid res
   clear own5 res hw5
   go_wp2_with (refine wpList_store_mid rfl 87 _ _ rfl R 0 zE9A rfl rfl thz (by kernel_rfl) onez ?_; rw [← HW5.out])
   refine bodyPost_ret (v := .tuple #[.agg zE9A, .bool false]) ?_ rfl ?_
   ·exact zan rfl _ _ R 87 _ (0, 0) _ _ rfl rfl r5 Tryz.underlying87 rfl (by kernel_rfl)
   obtain ⟨h1, h2⟩ := HRES.out
   have hT : (qe, qd) = (entZ, false) := HT.out
   obtain ⟨rfl, rfl⟩ := Prod.mk.inj hT
   exact ⟨zcm, rfl, rfl, h1, by rw [HQ4.out]; exact h2⟩
  | true =>
   have x5 := x4.fr p5 (fun h => h)
   have lx5 := Blk.cells_at (l := (le9L t k A3 bl.length cp3 y4)) x5 0
   have own4' := own4.fr p5 (fun _ _ h => h)
   have thz := Blk.there (l := zE9L) r4' 0 7 (by show 0 + 7 ≤ 7; omega)
   have onez := zbo ⟨t, k, ⟨A3, cp3, bl⟩, y4⟩
   obtain ⟨W5, hw5⟩ : ∃ W, W = v5.setCells R 0 (le9L t k A3 bl.length cp3 y4) := ⟨_, rfl⟩
   have m5 : Fr (· = R) v5 W5 := by rw [hw5]; exact (Fr.refl (· = R) _).setCells _ _
   have r5 : Blk W5 R 87 (le9A t k A3 bl.length cp3 y4) := by rw [hw5]; exact Blk.setCells (l := zE9L) r4' 0 (le9L t k A3 bl.length cp3 y4)
   have own5 : zaV w W5 ⟨t, k, ⟨A3, cp3, bl⟩, y4⟩ := by
    refine ⟨own4'.kind, own4'.cmd.fr m5 (fun j hj e => own4'.cmd.own.ne_ r4' (by decide) (e ▸ hj)), ((oc4.fr p5 (fun _ _ h => h)).fr m5 (fun j hj e => by omega)).from_ sz3⟩
   have res : zaV w W5 ⟨t, k, ⟨A3, cp3, bl⟩, y4⟩ ∧ RdTo w F g (some r) W5 := ⟨own5, rd4'.fr m5 (fun e => by omega) (fun j hj e => by have := hFl j hj; omega), f4'.trans m5 (fun j hj => .inr (by omega))⟩
   have HW5 := Lib.hid hw5
   have HRES := Lib.hid res
   clear own5 res hw5 own4'
   go_wp2_with (first | (refine za5 rfl 87 _ rfl X 0 rfl (le9L t k A3 bl.length cp3 y4) _ lx5 Tryz.underlying87 rfl (by kernel_rfl) ?_) | (refine wpList_store_mid rfl 87 _ _ rfl R 0 (le9A t k A3 bl.length cp3 y4) rfl rfl thz (by kernel_rfl) onez ?_; rw [← HW5.out]))
   refine bodyPost_ret (v := .tuple #[.agg (le9A t k A3 bl.length cp3 y4), .bool true]) ?_ rfl ?_
   ·exact zan rfl _ _ R 87 _ (0, 0) _ _ rfl rfl r5 Tryz.underlying87 rfl (by kernel_rfl)
   obtain ⟨h1, h2⟩ := HRES.out
   have hT : (qe, qd) = ((⟨t, k, bl, cg⟩ : Ent), true) := HT.out
   obtain ⟨rfl, rfl⟩ := Prod.mk.inj hT
   exact ⟨⟨t, k, ⟨A3, cp3, bl⟩, y4⟩, rfl, by rw [HYX.out], h1, by rw [HQ4.out]; exact h2⟩
end Go.Proofs.YtippdjaakcgeoaaGreat
