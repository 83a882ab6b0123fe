/- Lemmas of the walks: RgD, DnF. (Laid together by shake.py.) -/
import Derived.Test.YtippdjaakcgeoaaGreatNr04
import Derived.Test.YtippdjaakcgeoaaGreatNr09
import Derived.Test.YtippdjaakcgeoaaGreatNr13
set_option linter.unusedVariables false
set_option linter.unusedSimpArgs false
namespace Go.Proofs.YtippdjaakcgeoaaGreat
open Go Go.RowKit
set_option linter.unusedVariables false
set_option linter.unusedSimpArgs false
theorem bas_parts (x : BasM) : basOk x.x = (decide (0 ≤ x.index) && (decide (x.index ≤ 1073741824) && (decide (0 ≤ x.term) && (decide (x.term ≤ 1073741824) && cfgOk x.cfg.x)))) := by
  rw [Bool.eq_iff_iff]
  unfold basOk topOk
  simp only [Bool.and_eq_true, decide_eq_true_eq]
  constructor
  · rintro ⟨⟨a, b⟩, ⟨c, d⟩, e⟩; exact ⟨a, b, c, d, e⟩
  · rintro ⟨a, b, c, d, e⟩; exact ⟨⟨a, b⟩, ⟨c, d⟩, e⟩
set_option maxRecDepth 100000 in
set_option maxHeartbeats 4000000 in
theorem rbas (w : World) (F : Nat → Prop) (x : BasM) (hx : CfgIn w F x.cfg) (hz : CfgSz x.cfg) :
    Calls Tryz.prog 131 #[.agg (basA x)] w fun e w' => e = .returned (.bool (basOk x.x)) ∧ Nw w w' := by
  obtain ⟨W0, hW0⟩ : ∃ W, W = w.alloc (.cells (basA x) 47) := ⟨_, rfl⟩
  have p0 : Nw w W0 := by rw [hW0]; exact (Fr.refl (fun _ => False) _).alloc _
  have b0 : Blk W0 w.heap.size 47 (basA x) := by rw [hW0]; exact Blk.new _ _ _
  have k0 : W0.cell? ⟨w.heap.size, 0, none⟩ = some (I64 x.index) := by simpa using b0.cell 0
  have k1 : W0.cell? ⟨w.heap.size, 1, none⟩ = some (I64 x.term) := by simpa using b0.cell 1
  have kc : ∀ p u, ([.slice x.cfg.v.a x.cfg.v.l.length x.cfg.v.c, .slice x.cfg.o.a x.cfg.o.l.length x.cfg.o.c, .slice x.cfg.l.a x.cfg.l.l.length x.cfg.l.c, .slice x.cfg.w.a x.cfg.w.l.length x.cfg.w.c] : List Value)[p]? = some u → W0.cell? ⟨w.heap.size, 2 + p, none⟩ = some u := Blk.cells_in (l := [I64 x.index, I64 x.term, .slice x.cfg.v.a x.cfg.v.l.length x.cfg.v.c, .slice x.cfg.o.a x.cfg.o.l.length x.cfg.o.c, .slice x.cfg.l.a x.cfg.l.l.length x.cfg.l.c, .slice x.cfg.w.a x.cfg.w.l.length x.cfg.w.c]) b0 2 4
  have hcon := rcfg W0 F x.cfg (hx.nw p0) hz
  have hp := bas_parts x
  obtain ⟨r, hr⟩ : ∃ d, basOk x.x = d := ⟨_, rfl⟩
  obtain ⟨d, hd⟩ : ∃ d, cfgOk x.cfg.x = d := ⟨_, rfl⟩
  rw [hd] at hp hcon
  rw [hr] at hp ⊢
  have hno : r = true → (0 ≤ x.index ∧ x.index ≤ 1073741824) ∧ 0 ≤ x.term ∧ x.term ≤ 1073741824 := fun h => by
    rw [hp] at h
    simp only [Bool.and_eq_true, decide_eq_true_eq] at h
    exact ⟨⟨h.1, h.2.1⟩, h.2.2.1, h.2.2.2.1⟩
  have hyes : (0 ≤ x.index ∧ x.index ≤ 1073741824) → (0 ≤ x.term ∧ x.term ≤ 1073741824) → d = r := fun h1 h2 => by
    rw [hp, decide_eq_true h1.1, decide_eq_true h1.2, decide_eq_true h2.1, decide_eq_true h2.2]; simp
  have HW0 := Lib.hid hW0
  have HNO := Lib.hid hno
  have HYES := Lib.hid hyes
  have HC := Lib.hid hcon
  clear hW0 hno hyes hcon hp hr hd b0
  by_cases h1 : 0 ≤ x.index ∧ x.index ≤ 1073741824
  · obtain ⟨h1a, h1b⟩ := h1
    by_cases h2 : 0 ≤ x.term ∧ x.term ≤ 1073741824
    · obtain ⟨h2a, h2b⟩ := h2
      go_enter Tryz.func131, Tryz.ntmps131
      go_upto_region 1 with (fail)
      rw [← HW0.out]
      go_wp2_with (refine wl_cells_want (by kernel_rfl) 45 _ rfl w.heap.size 2 rfl [.slice x.cfg.v.a x.cfg.v.l.length x.cfg.v.c, .slice x.cfg.o.a x.cfg.o.l.length x.cfg.o.c, .slice x.cfg.l.a x.cfg.l.l.length x.cfg.l.c, .slice x.cfg.w.a x.cfg.w.l.length x.cfg.w.c] _ kc Tryz.underlying45 rfl (by kernel_rfl) ?_)
      refine HC.out.mono ?_
      rintro e w1 ⟨rfl, q1⟩
      go_wp2_with fail
      go_ret
      exact ⟨ret_eq (congrArg Value.bool (HYES.out ⟨h1a, h1b⟩ ⟨h2a, h2b⟩)), p0.tr q1⟩
    · have hrf : r = false := Bool.eq_false_iff.2 fun h => h2 (HNO.out h).2
      subst hrf
      by_cases h3 : 0 ≤ x.term
      · have h4 : ¬ x.term ≤ 1073741824 := fun h => h2 ⟨h3, h⟩
        clear h2
        go_enter Tryz.func131, Tryz.ntmps131
        go_upto_region 1 with (fail)
        rw [← HW0.out]
        go_wp2_with fail
        go_ret
        exact ⟨rfl, p0⟩
      · clear h2
        go_enter Tryz.func131, Tryz.ntmps131
        go_upto_region 1 with (fail)
        rw [← HW0.out]
        go_wp2_with fail
        go_ret
        exact ⟨rfl, p0⟩
  · have hrf : r = false := Bool.eq_false_iff.2 fun h => h1 (HNO.out h).1
    subst hrf
    by_cases h3 : 0 ≤ x.index
    · have h4 : ¬ x.index ≤ 1073741824 := fun h => h1 ⟨h3, h⟩
      clear h1
      go_enter Tryz.func131, Tryz.ntmps131
      go_upto_region 1 with (fail)
      rw [← HW0.out]
      go_wp2_with fail
      go_ret
      exact ⟨rfl, p0⟩
    · clear h1
      go_enter Tryz.func131, Tryz.ntmps131
      go_upto_region 1 with (fail)
      rw [← HW0.out]
      go_wp2_with fail
      go_ret
      exact ⟨rfl, p0⟩
/-- The numbers of a letter that are at most the top. -/
def topNs (x : LetM) : List Int := [x.term, x.index, x.logt, x.commit, x.size, x.at_]
def RRightR (V : World) (x : LetM) (i : Value) (wr : World) : Prop := ∃ k : Nat, k ≤ 6 ∧ i = .int .i64 k ∧ Nw V wr
def RRightE (V : World) (x : LetM) (i : Value) (wr : World) : Prop := ∃ k : Nat, k ≤ x.ents.l.length ∧ i = .int .i64 k ∧ (∀ j (h : j < x.ents.l.length), j < k → entOkM x.ents.l[j] = true) ∧ Nw V wr
theorem let_lin (x : LetM) (h : letOk x.x = true) : ((1 ≤ x.kind ∧ x.kind ≤ 8) ∧ (0 ≤ x.group ∧ x.group ≤ 4) ∧ (1 ≤ x.src ∧ x.src ≤ 5) ∧ (1 ≤ x.dst ∧ x.dst ≤ 5)) ∧ (0 ≤ x.tag ∧ x.tag ≤ 4611686018427387903) ∧ x.ents.l.length ≤ 30 ∧ x.bytes.l.length ≤ 131072 := by
  have hs := (letOk_iff _).1 h
  obtain ⟨⟨⟨h8, h9⟩, h10, h11⟩, _, h7, ⟨h12, h15⟩, h14, h13⟩ := hs
  have h12 : (x.ents.l.map EntM.x).length ≤ 30 := h12
  rw [List.length_map] at h12
  exact ⟨⟨h8, h9, h10, h11⟩, h7, h12, h13⟩
theorem let_tops (x : LetM) (h : letOk x.x = true) : ∀ n ∈ topNs x, 0 ≤ n ∧ n ≤ 1073741824 := by
  have hs := ((letOk_iff _).1 h).nums
  obtain ⟨⟨h1, h2⟩, ⟨h3, h4⟩, h5, h6⟩ := hs
  intro n hn
  simp only [topNs, List.mem_cons, List.not_mem_nil, or_false] at hn
  rcases hn with rfl | rfl | rfl | rfl | rfl | rfl
  · exact h1
  · exact h2
  · exact h3
  · exact h4
  · exact h5
  · exact h6
theorem let_base (x : LetM) (h : letOk x.x = true) : basOk x.base.x = true := ((letOk_iff _).1 h).base
theorem let_ents (x : LetM) (h : letOk x.x = true) : ∀ j (hj : j < x.ents.l.length), entOkM x.ents.l[j] = true := fun j hj => ((letOk_iff _).1 h).ents.2 _ (List.mem_map.2 ⟨_, List.getElem_mem hj, rfl⟩)
theorem let_all (x : LetM) (h1 : ∀ n ∈ topNs x, 0 ≤ n ∧ n ≤ 1073741824) (h2 : ((1 ≤ x.kind ∧ x.kind ≤ 8) ∧ (0 ≤ x.group ∧ x.group ≤ 4) ∧ (1 ≤ x.src ∧ x.src ≤ 5) ∧ (1 ≤ x.dst ∧ x.dst ≤ 5)) ∧ (0 ≤ x.tag ∧ x.tag ≤ 4611686018427387903) ∧ x.ents.l.length ≤ 30 ∧ x.bytes.l.length ≤ 131072)
    (h3 : basOk x.base.x = true) (h4 : ∀ j (hj : j < x.ents.l.length), entOkM x.ents.l[j] = true) : letOk x.x = true := by
  obtain ⟨⟨h8, h9, h10, h11⟩, h7, h12, h13⟩ := h2
  refine (letOk_iff _).2 ⟨⟨⟨h8, h9⟩, h10, h11⟩, ⟨⟨h1 _ ?_, h1 _ ?_⟩, ⟨h1 _ ?_, h1 _ ?_⟩, h1 _ ?_, h1 _ ?_⟩, h7, ⟨by show (x.ents.l.map EntM.x).length ≤ 30; rw [List.length_map]; exact h12, fun e he => ?_⟩, h3, h13⟩
  rotate_right
  · obtain ⟨y, hy, rfl⟩ := List.mem_map.1 he
    obtain ⟨j, hj, rfl⟩ := List.mem_iff_getElem.1 hy
    exact h4 j hj
  all_goals simp [topNs]
set_option maxRecDepth 100000 in
set_option maxHeartbeats 16000000 in
theorem rRight_any (w : World) (F : Nat → Prop) (x : LetM) (hx : LetIn w F x) (hz : LetSz x) :
    Calls Tryz.prog 63 #[.agg (letA x)] w fun e w' => e = .returned (.bool (letOk x.x)) ∧ Nw w w' := by
  obtain ⟨X, hX⟩ : ∃ X, X = w.heap.size := ⟨_, rfl⟩
  obtain ⟨W0, hW0⟩ : ∃ W, W = w.alloc (.cells (letA x) 50) := ⟨_, rfl⟩
  have p0 : Nw w W0 := by rw [hW0]; exact (Fr.refl (fun _ => False) _).alloc _
  have b0 : Blk W0 X 50 (letA x) := by rw [hW0, hX]; exact Blk.new _ _ _
  obtain ⟨L, hL⟩ : ∃ L, L = W0.heap.size := ⟨_, rfl⟩
  obtain ⟨V, hV⟩ : ∃ V, V = W0.alloc (.cells #[I64 x.term, I64 x.index, I64 x.logt, I64 x.commit, I64 x.size, I64 x.at_] 3) := ⟨_, rfl⟩
  have p1 : Nw W0 V := by rw [hV]; exact (Fr.refl (fun _ => False) _).alloc _
  have sl : Sl V (· = L) (some ⟨L, 0, none⟩) (intsC (topNs x)) := by rw [hV]; exact sl_new W0 3 (intsC (topNs x)) _ hL.symm
  have b1 := b0.fr p1 (fun h => h)
  have pV := p0.tr p1
  have htl : (topNs x).length = 6 := rfl
  have hlin := let_lin x
  have htop := let_tops x
  have hbas := let_base x
  have hent := let_ents x
  have hall := let_all x
  obtain ⟨r, hr⟩ : ∃ r, letOk x.x = r := ⟨_, rfl⟩
  rw [hr] at hlin htop hbas hent hall ⊢
  obtain ⟨ns, hns⟩ : ∃ ns, topNs x = ns := ⟨_, rfl⟩
  rw [hns] at sl htl htop hall
  have hzb : ∀ w1, Nw V w1 → Calls Tryz.prog 131 #[.agg #[I64 x.base.index, I64 x.base.term, .slice x.base.cfg.v.a x.base.cfg.v.l.length x.base.cfg.v.c, .slice x.base.cfg.o.a x.base.cfg.o.l.length x.base.cfg.o.c, .slice x.base.cfg.l.a x.base.cfg.l.l.length x.base.cfg.l.c, .slice x.base.cfg.w.a x.base.cfg.w.l.length x.base.cfg.w.c]] w1 fun e w' => e = .returned (.bool (basOk x.base.x)) ∧ Nw w1 w' := fun w1 f => rbas w1 F x.base (hx.cfg.nw (pV.tr f)) hz.cfg
  obtain ⟨db, hdb⟩ : ∃ d, basOk x.base.x = d := ⟨_, rfl⟩
  simp only [hdb] at hzb
  rw [hdb] at hbas hall
  have hkd := hx.kind
  have hel : x.ents.l.length ≤ 1000000 := hz.ents
  have hbl : x.bytes.l.length ≤ 1000000 := hz.bytes
  have HX := Lib.hid hX
  have HW0 := Lib.hid hW0
  have HL := Lib.hid hL
  have HV := Lib.hid hV
  have HLIN := Lib.hid hlin
  have HTOP := Lib.hid htop
  have HBAS := Lib.hid hbas
  have HENT := Lib.hid hent
  have HALL := Lib.hid hall
  have HZB := Lib.hid hzb
  have HTL := Lib.hid htl
  have HEI := Lib.hid hx.ents
  have HEE := Lib.hid hx.each
  have HEZ := Lib.hid hz.each
  have k4 : W0.cell? ⟨X, 4, none⟩ = some (I64 x.term) := by simpa using b0.cell 4
  have k5 : W0.cell? ⟨X, 5, none⟩ = some (I64 x.index) := by simpa using b0.cell 5
  have k6 : W0.cell? ⟨X, 6, none⟩ = some (I64 x.logt) := by simpa using b0.cell 6
  have k7 : W0.cell? ⟨X, 7, none⟩ = some (I64 x.commit) := by simpa using b0.cell 7
  have k16 : W0.cell? ⟨X, 16, none⟩ = some (I64 x.size) := by simpa using b0.cell 16
  have k17 : W0.cell? ⟨X, 17, none⟩ = some (I64 x.at_) := by simpa using b0.cell 17
  clear hX hW0 hL hV hlin htop hbas hent hall hzb htl hdb hns hr hx hz b0
  go_enter Tryz.func63, Tryz.ntmps63
  go_upto_region 1 with (fail)
  rw [← HX.out, ← HW0.out]
  go_upto_region 2 with (fail)
  rw [← HL.out, ← HV.out]
  clear k4 k5 k6 k7 k16 k17
  go_wp2_with fail
  go_loopw [4] (fun i wr => RRightR V x i wr ∧ ∀ j, j < (intOf i).toNat → ∀ (h : j < ns.length), 0 ≤ ns[j] ∧ ns[j] ≤ 1073741824) (fun i _ => 6 - (intOf i).toNat)
  case atStart => exact ⟨⟨0, by omega, rfl, Fr.refl _ _⟩, fun j hj => by simp [intOf] at hj⟩
  case round =>
    obtain ⟨⟨k, hk, rfl, hq⟩, hb⟩ := hrel
    have HB : Hid (∀ j, j < k → ∀ (h : j < ns.length), 0 ≤ ns[j] ∧ ns[j] ≤ 1073741824) := Lib.hid (fun j hj h => hb j (by simpa [intOf] using hj) h)
    clear hb
    by_cases hlt : k < 6
    · have hkn : k < ns.length := by rw [HTL.out]; exact hlt
      obtain ⟨b, o', hbo, _, p0c⟩ := (sl.fr hq (fun _ _ h => h)).get hkn
      injection hbo with hbo
      injection hbo with e1 e2 _
      subst e1
      subst e2
      simp only [Nat.zero_add] at p0c
      have hnn := fun h => HTOP.out h ns[k] (List.getElem_mem hkn)
      have hnx : (0 ≤ ns[k] ∧ ns[k] ≤ 1073741824) → ∀ j, j < k + 1 → ∀ (h : j < ns.length), 0 ≤ ns[j] ∧ ns[j] ≤ 1073741824 := fun h0 j hj h => by
        by_cases e : j < k
        · exact HB.out j e h
        · obtain rfl : j = k := by omega
          exact h0
      obtain ⟨n, hn⟩ : ∃ n, ns[k] = n := ⟨_, rfl⟩
      rw [hn] at p0c hnn hnx
      have HNN := Lib.hid hnn
      have HNX := Lib.hid hnx
      have hi0 : (k : Int) < 6 := by omega
      have P0 := fun (m : Later wr) => m.cell p0c
      clear hnn hnx hn
      by_cases h1 : n < 0
      · have g1 : decide (n < 0) = true := decide_eq_true h1
        go_wp2_with fail
        go_ret
        exact ⟨ret_eq (congrArg Value.bool (Bool.eq_false_iff.2 fun h => by have := HNN.out h; omega).symm), (pV.tr hq)⟩
      · have g1 : decide (n < 0) = false := decide_eq_false h1
        have h1' : 0 ≤ n := by omega
        by_cases h2 : 1073741824 < n
        · have g2 : decide (1073741824 < n) = true := decide_eq_true h2
          go_wp2_with fail
          go_ret
          exact ⟨ret_eq (congrArg Value.bool (Bool.eq_false_iff.2 fun h => by have := HNN.out h; omega).symm), (pV.tr hq)⟩
        · have g2 : decide (1073741824 < n) = false := decide_eq_false h2
          have h2' : n ≤ 1073741824 := by omega
          go_wp2_with fail
          go_roundw
          case rel =>
            refine ⟨⟨k + 1, by omega, by go_num, hq⟩, fun j hj h => HNX.out ⟨h1', h2'⟩ j (by simp [intOf] at hj; omega) h⟩
          case measure => simp [intOf]; omega
    · obtain rfl : k = 6 := by omega
      have hB2 : ∀ n ∈ ns, 0 ≤ n ∧ n ≤ 1073741824 := fun n hn => by
        obtain ⟨j, hj, rfl⟩ := List.mem_iff_getElem.1 hn
        exact HB.out j (by rw [HTL.out] at hj; exact hj) hj
      have HB2 := Lib.hid hB2
      have b2 := b1.fr hq (fun h => h)
      have b1x := b1
      have k18 : wr.cell? ⟨X, 18, none⟩ = some (I64 x.tag) := by simpa using b2.cell 18
      have k0 : wr.cell? ⟨X, 0, none⟩ = some (U8V x.kind) := by simpa using b2.cell 0
      have k1 : wr.cell? ⟨X, 1, none⟩ = some (I64 x.group) := by simpa using b2.cell 1
      have k2 : wr.cell? ⟨X, 2, none⟩ = some (I64 x.src) := by simpa using b2.cell 2
      have k3 : wr.cell? ⟨X, 3, none⟩ = some (I64 x.dst) := by simpa using b2.cell 3
      have k9 : wr.cell? ⟨X, 9, none⟩ = some (.slice x.ents.a x.ents.l.length x.ents.c) := by simpa using b2.cell 9
      have k19 : wr.cell? ⟨X, 19, none⟩ = some (.slice x.bytes.a x.bytes.l.length x.bytes.c) := by simpa using b2.cell 19
      clear hB2 HB b1 sl
      by_cases hlx : ((1 ≤ x.kind ∧ x.kind ≤ 8) ∧ (0 ≤ x.group ∧ x.group ≤ 4) ∧ (1 ≤ x.src ∧ x.src ≤ 5) ∧ (1 ≤ x.dst ∧ x.dst ≤ 5)) ∧ (0 ≤ x.tag ∧ x.tag ≤ 4611686018427387903)
      case neg =>
        have hrf : r = false := Bool.eq_false_iff.2 fun h => hlx ⟨(HLIN.out h).1, (HLIN.out h).2.1⟩
        have HRF := Lib.hid hrf
        clear hrf
        by_cases hl1 : 0 ≤ x.tag ∧ x.tag ≤ 4611686018427387903
        case neg =>
          clear hlx
          by_cases hl2 : 0 ≤ x.tag
          · have hl3 : 4611686018427387903 < x.tag := by omega
            clear hl1
            go_wp2_with fail
            go_ret
            exact ⟨ret_eq (congrArg Value.bool HRF.out.symm), pV.tr hq⟩
          · clear hl1
            go_wp2_with fail
            go_ret
            exact ⟨ret_eq (congrArg Value.bool HRF.out.symm), pV.tr hq⟩
        have hl1a := hl1.1
        have hl1b := hl1.2
        have hlz : x.kind < 1 ∨ 8 < x.kind ∨ x.group < 0 ∨ 4 < x.group ∨ x.src < 1 ∨ 5 < x.src ∨ x.dst < 1 ∨ 5 < x.dst := by omega
        clear hlx hl1
        go_upto_if 82 with (fail)
        all_goals (rcases hlz with h | h | h | h | h | h | h | h <;> (go_wp2_with fail; try omega) <;> (try (go_ret; exact ⟨ret_eq (congrArg Value.bool HRF.out.symm), pV.tr hq⟩)))
      obtain ⟨⟨⟨l1, l2⟩, ⟨l3, l4⟩, ⟨l5, l6⟩, l7, l8⟩, l9, l10⟩ := hlx
      have t1 : decide (x.tag < 0) = false := decide_eq_false (by omega)
      have t2 : decide (4611686018427387903 < x.tag) = false := decide_eq_false (by omega)
      have t3 : decide (x.kind < 1) = false := decide_eq_false (by omega)
      have t4 : decide (8 < x.kind) = false := decide_eq_false (by omega)
      have t5 : decide (x.group < 0) = false := decide_eq_false (by omega)
      have t6 : decide (4 < x.group) = false := decide_eq_false (by omega)
      have t7 : decide (x.src < 1) = false := decide_eq_false (by omega)
      have t8 : decide (5 < x.src) = false := decide_eq_false (by omega)
      have t9 : decide (x.dst < 1) = false := decide_eq_false (by omega)
      have t10 : decide (5 < x.dst) = false := decide_eq_false (by omega)
      by_cases h30 : x.ents.l.length ≤ 30
      case neg =>
        have h30i : (30 : Int) < (x.ents.l.length : Int) := by omega
        go_wp2_with fail
        all_goals (go_ret; exact ⟨ret_eq (congrArg Value.bool (Bool.eq_false_iff.2 fun h => by have := HLIN.out h; omega).symm), pV.tr hq⟩)
      have h30i : (x.ents.l.length : Int) ≤ 30 := by omega
      have h30d : decide ((30 : Int) < (x.ents.l.length : Int)) = false := decide_eq_false (by omega)
      by_cases h13 : x.bytes.l.length ≤ 131072
      case neg =>
        have h13i : (131072 : Int) < (x.bytes.l.length : Int) := by omega
        go_wp2_with fail
        all_goals (go_ret; exact ⟨ret_eq (congrArg Value.bool (Bool.eq_false_iff.2 fun h => by have := HLIN.out h; omega).symm), pV.tr hq⟩)
      have h13i : (x.bytes.l.length : Int) ≤ 131072 := by omega
      have h13d : decide ((131072 : Int) < (x.bytes.l.length : Int)) = false := decide_eq_false (by omega)
      go_wp2_with (refine wl_cells_want (by kernel_rfl) 47 _ rfl X 10 rfl [I64 x.base.index, I64 x.base.term, .slice x.base.cfg.v.a x.base.cfg.v.l.length x.base.cfg.v.c, .slice x.base.cfg.o.a x.base.cfg.o.l.length x.base.cfg.o.c, .slice x.base.cfg.l.a x.base.cfg.l.l.length x.base.cfg.l.c, .slice x.base.cfg.w.a x.base.cfg.w.l.length x.base.cfg.w.c] _ (Blk.cells_in (l := [U8V x.kind, I64 x.group, I64 x.src, I64 x.dst, I64 x.term, I64 x.index, I64 x.logt, I64 x.commit, .bool x.ok, .slice x.ents.a x.ents.l.length x.ents.c, I64 x.base.index, I64 x.base.term, .slice x.base.cfg.v.a x.base.cfg.v.l.length x.base.cfg.v.c, .slice x.base.cfg.o.a x.base.cfg.o.l.length x.base.cfg.o.c, .slice x.base.cfg.l.a x.base.cfg.l.l.length x.base.cfg.l.c, .slice x.base.cfg.w.a x.base.cfg.w.l.length x.base.cfg.w.c, I64 x.size, I64 x.at_, I64 x.tag, .slice x.bytes.a x.bytes.l.length x.bytes.c]) b2 10 6) Tryz.underlying47 rfl (by kernel_rfl) ?_)
      have hlin : ((1 ≤ x.kind ∧ x.kind ≤ 8) ∧ (0 ≤ x.group ∧ x.group ≤ 4) ∧ (1 ≤ x.src ∧ x.src ≤ 5) ∧ (1 ≤ x.dst ∧ x.dst ≤ 5)) ∧ (0 ≤ x.tag ∧ x.tag ≤ 4611686018427387903) ∧ x.ents.l.length ≤ 30 ∧ x.bytes.l.length ≤ 131072 := by omega
      have HL2 := Lib.hid hlin
      clear hlin
      refine (HZB.out _ hq).mono ?_
      rintro e w2 ⟨rfl, q2⟩
      have Q2 := hq.tr q2
      cases db with
      | false =>
        go_wp2_with fail
        go_ret
        exact ⟨ret_eq (congrArg Value.bool (Bool.eq_false_iff.2 fun h => by have := HBAS.out h; cases this).symm), pV.tr Q2⟩
      | true =>
        have b3 := b2.fr q2 (fun h => h)
        have HALL2 := Lib.hid (HALL.out HB2.out HL2.out rfl)
        clear HALL b2 k18 k0 k1 k2 k3 k9 k19
        go_wp2_with fail
        go_loopw [5] (fun i wr => RRightE V x i wr) (fun i _ => x.ents.l.length - (intOf i).toNat)
        case atStart => exact ⟨0, Nat.zero_le _, rfl, fun _ _ h => by omega, Q2⟩
        case round =>
          clear hq q2
          obtain ⟨k, hk, rfl, hb, hq⟩ := hrel
          have HB := Lib.hid hb
          clear hb
          have b4 : Blk wr X 50 #[U8V x.kind, I64 x.group, I64 x.src, I64 x.dst, I64 x.term, I64 x.index, I64 x.logt, I64 x.commit, .bool x.ok, .slice x.ents.a x.ents.l.length x.ents.c, I64 x.base.index, I64 x.base.term, .slice x.base.cfg.v.a x.base.cfg.v.l.length x.base.cfg.v.c, .slice x.base.cfg.o.a x.base.cfg.o.l.length x.base.cfg.o.c, .slice x.base.cfg.l.a x.base.cfg.l.l.length x.base.cfg.l.c, .slice x.base.cfg.w.a x.base.cfg.w.l.length x.base.cfg.w.c, I64 x.size, I64 x.at_, I64 x.tag, .slice x.bytes.a x.bytes.l.length x.bytes.c] := b1x.fr hq (fun h => h)
          have kk9 : wr.cell? ⟨X, 9, none⟩ = some (.slice x.ents.a x.ents.l.length x.ents.c) := by simpa using b4.cell 9
          by_cases hlt : k < x.ents.l.length
          · obtain ⟨b, o, hA, _, _, hc⟩ := ((HEI.out.nw (pV.tr hq)).sl).ent hlt
            have hi0 : (k : Int) < (x.ents.l.length : Int) := by omega
            have hei := (HEE.out _ (List.getElem_mem hlt)).nw (pV.tr hq)
            have hez := HEZ.out _ (List.getElem_mem hlt)
            have hnx : entOkM x.ents.l[k] = true → RRightE V x (.int .i64 ((k : Int) + 1)) wr := fun h0 => ⟨k + 1, hlt, by go_num, fun j hj hjk => by
              by_cases e : j < k
              · exact HB.out j hj e
              · obtain rfl : j = k := by omega
                exact h0, hq⟩
            have hno : r = true → entOkM x.ents.l[k] = true := fun h => HENT.out h k hlt
            obtain ⟨y, hy⟩ : ∃ y, x.ents.l[k] = y := ⟨_, rfl⟩
            rw [hy] at hc hei hez hnx hno
            have hcon := rent wr F y hei hez
            have hcon : Calls Tryz.prog 132 #[.agg #[I64 y.term, U8V y.kind, .slice y.cmd.a y.cmd.l.length y.cmd.c, .slice y.cfg.v.a y.cfg.v.l.length y.cfg.v.c, .slice y.cfg.o.a y.cfg.o.l.length y.cfg.o.c, .slice y.cfg.l.a y.cfg.l.l.length y.cfg.l.c, .slice y.cfg.w.a y.cfg.w.l.length y.cfg.w.c]] wr fun e w' => e = .returned (.bool (entOkM y)) ∧ Nw wr w' := hcon
            obtain ⟨de, hde⟩ : ∃ d, entOkM y = d := ⟨_, rfl⟩
            rw [hde] at hcon hnx hno
            have HC := Lib.hid hcon
            have HNX := Lib.hid hnx
            have HNO := Lib.hid hno
            rw [hA] at kk9
            clear hcon hnx hno hei hez hy hde hA
            go_wp2_with (refine wl_load_cells rfl 87 _ rfl b (o + k * 7) rfl _ _ hc Tryz.underlying87 rfl (by kernel_rfl) ?_)
            refine HC.out.mono ?_
            rintro e w5 ⟨rfl, q5⟩
            cases de with
            | false =>
              go_wp2_with fail
              go_ret
              exact ⟨ret_eq (congrArg Value.bool (Bool.eq_false_iff.2 fun h => by have := HNO.out h; cases this).symm), pV.tr (hq.tr q5)⟩
            | true =>
              go_wp2_with fail
              go_roundw
              case rel =>
                obtain ⟨kk, a1, a2, a3, a4⟩ := HNX.out (by first | rfl | trivial)
                first | exact ⟨kk, a1, a2, a3, hq.tr q5⟩ | ((repeat apply Exists.intro); exact ⟨⟨kk, a1, a2, a3, hq.tr q5⟩, rfl⟩)
              case measure => simp [intOf]; omega
          · obtain rfl : x.ents.l.length = k := by omega
            go_wp2_with fail
            go_ret
            exact ⟨ret_eq (congrArg Value.bool (HALL2.out (fun j hj => HB.out j hj hj)).symm), pV.tr hq⟩
end Go.Proofs.YtippdjaakcgeoaaGreat

namespace Go.Proofs.YtippdjaakcgeoaaGreat
open Go Go.RowKit
set_option linter.unusedVariables false
set_option linter.unusedSimpArgs false

/-- What a net of the document is behind a letter put behind its row. -/
theorem IsDoc.push {w wy wx w' : World} {O I : Nat → Prop} {X : DocM} {A' : Option Addr} {c' : Nat} (h : IsDoc w O I X) (q : Nw w wy) (y : LetM) (iy : LetIn wy (Since w) y) (sy : LetSz y)
    (ha : AppTo wy 50 20 X.r.a X.r.l.length X.r.c 1 (letsC X.r.l) (letL y) A' c' wx) (hw : w' = wx.setCell ⟨X.g, 0, none⟩ (.slice A' (X.r.l.length + 1) c')) :
    ∃ (O' I' : Nat → Prop) (X' : DocM), IsDoc w' O' I' X' ∧ X'.g = X.g ∧ X'.L = X.L ++ [y.x] ∧ X'.r.l.length = X.r.l.length + 1 ∧ Fr O w w' ∧ (∀ j, O' j → O j ∨ w.heap.size ≤ j) ∧ ∀ j, I' j → I j ∨ w.heap.size ≤ j := by
  have N5 := h.nw q
  have hq := q.size
  have hax := ha.fr.size
  have hA' := ha.inA_
  have hAw : ∀ k, inA X.r.a k → k < w.heap.size := fun k hk => h.ol k (h.base k hk)
  have hgw := h.blk.lt
  have hgA : ¬ inA X.r.a X.g := h.ga
  have hgA' : ¬ inA A' X.g := fun hk => by
    rcases hA' _ hk with h1 | h1
    · exact hgA h1
    · omega
  have hF : Fr (fun k => inA X.r.a k ∨ k = X.g) wy w' := by
    rw [hw]
    exact (ha.fr.mono fun _ h => .inl (.inl h)).setCell (p := ⟨X.g, 0, none⟩) (.inl (.inr rfl)) _
  have hfs := hF.size
  have hIs : ∀ k, I k → ¬ (inA X.r.a k ∨ k = X.g) := fun k hk e => by
    rcases e with e | e
    · exact h.dis k (h.base k e) hk
    · exact h.dis _ h.og (e ▸ hk)
  have hlen : (X.r.l ++ [y]).length = X.r.l.length + 1 := by rw [List.length_append]; rfl
  have hbx := N5.blk.fr ha.fr hgA
  refine ⟨fun k => O k ∨ inA A' k, fun k => I k ∨ (Since w k ∧ k < wy.heap.size), ⟨X.g, ⟨A', c', X.r.l ++ [y]⟩⟩, ⟨?_, ?_, fun k hk => .inr hk, fun x hx => ?_, fun x hx => ?_, .inl h.og, fun k h8 h9 => ?_, fun k h8 => ?_, fun k h8 => ?_⟩, rfl, ?_, hlen, (Nw.on q).tr (hF.mono fun k hk => .inl ?_), fun j hj => ?_, fun j hj => ?_⟩
  · show Blk w' X.g _ #[.slice A' (X.r.l ++ [y]).length c']
    rw [hlen, hw]
    exact hbx.set_ 0 _
  · show Own w' 50 20 A' (X.r.l ++ [y]).length c' (letsC (X.r.l ++ [y]))
    rw [hlen, letsC_append, letsC_one, hw]
    exact ha.1.setCell hgA' _
  · rcases List.mem_append.1 hx with hx | hx
    · exact (((h.each x hx).nw q).fr hF hIs).mono fun k hk _ => .inl hk
    · rw [List.mem_singleton.1 hx]
      refine (iy.mono (F' := fun k => I k ∨ (Since w k ∧ k < wy.heap.size)) (fun k hk hl => .inr ⟨hk, hl⟩)).fr hF (fun k hk e => ?_)
      rcases hk with hk | hk
      · exact hIs k hk e
      · have h1 := hk.1
        unfold Since at h1
        rcases e with e | e
        · have := hAw k e; omega
        · omega
  · rcases List.mem_append.1 hx with hx | hx
    · exact h.sz x hx
    · rw [List.mem_singleton.1 hx]; exact sy
  · rcases h8 with h8 | h8 <;> rcases h9 with h9 | h9
    · exact h.dis _ h8 h9
    · have := h.ol _ h8; have := h9.1; unfold Since at this; omega
    · rcases hA' k h8 with h1 | h1
      · exact h.dis _ (h.base k h1) h9
      · have := h.il _ h9; omega
    · rcases hA' k h8 with h1 | h1
      · have := hAw k h1; have := h9.1; unfold Since at this; omega
      · have := h9.2; omega
  · rcases h8 with h8 | h8
    · have := h.ol _ h8; omega
    · have := ha.1.lt _ h8
      have h2 : wx.heap.size ≤ w'.heap.size := by rw [hw]; exact ((Fr.refl (· = X.g) wx).set1 0 _).size
      omega
  · rcases h8 with h8 | h8
    · have := h.il _ h8; omega
    · have := h8.2; omega
  · show (X.r.l ++ [y]).map LetM.x = _
    rw [List.map_append]
    rfl
  · rcases hk with hk | hk
    · exact h.base k hk
    · rw [hk]; exact h.og
  · rcases hj with hj | hj
    · exact .inl hj
    · rcases hA' j hj with h1 | h1
      · exact .inl (h.base j h1)
      · exact .inr (by omega)
  · rcases hj with hj | hj
    · exact .inl hj
    · exact .inr hj.1
def NwC (W1 : World) (L : Nat → Bool) (B : BkT (Option Addr × Nat)) (w : World) : Prop := Nw W1 w
def ddS3 (W : World) (x : LetM) (A0 : Option Addr) (n0 c0 : Nat) (cs : List Value) (t b : SdT) (w : World) : Prop :=
  ∃ wy, sdS1 W x t wy ∧ AppTo wy 50 20 A0 n0 c0 1 cs (letL t.1) b.2.2 b.2.1 w
def ddS4 (W : World) (x : LetM) (A0 : Option Addr) (n0 c0 : Nat) (cs : List Value) (g : Nat) (t b : SdT) (w : World) : Prop :=
  ∃ wx, ddS3 W x A0 n0 c0 cs t b wx ∧ w = wx.setCell ⟨g, 0, none⟩ (.slice b.2.2 (n0 + 1) b.2.1)
theorem dd3_fr {W : World} {x : LetM} {A0 : Option Addr} {n0 c0 : Nat} {cs : List Value} {t b : SdT} {w : World} (h : ddS3 W x A0 n0 c0 cs t b w) (m : Nat) : Fr (fun k => inA A0 k ∨ k = m) W w := by
  obtain ⟨wy, h1, h2⟩ := h
  exact (Nw.on h1.1).tr (h2.fr.mono fun _ h => .inl (.inl h))
theorem dd4_fr {W : World} {x : LetM} {A0 : Option Addr} {n0 c0 : Nat} {cs : List Value} {g : Nat} {t b : SdT} {w : World} (h : ddS4 W x A0 n0 c0 cs g t b w) : Fr (fun k => inA A0 k ∨ k = g) W w := by
  obtain ⟨wx, h1, rfl⟩ := h
  exact (dd3_fr h1 g).setCell (p := ⟨g, 0, none⟩) (.inl (.inr rfl)) _
def sendDR (w : World) (O I : Nat → Prop) (X : DocM) (xs : List LetM) (v i : Value) (wr : World) : Prop :=
  ∃ (k r : Nat) (O2 I2 : Nat → Prop) (X2 : DocM), k ≤ xs.length ∧ r ≤ k ∧ i = .int .i64 k ∧ v = I64 (r : Nat) ∧ sendD X.L ((xs.take k).map LetM.x) = (X2.L, r) ∧ IsDoc wr O2 I2 X2 ∧ X2.g = X.g ∧ X2.r.l.length ≤ X.r.l.length + k ∧ Fr O w wr ∧ (∀ j, O2 j → O j ∨ w.heap.size ≤ j) ∧ ∀ j, I2 j → I j ∨ w.heap.size ≤ j
set_option maxRecDepth 100000 in
set_option maxHeartbeats 8000000 in
theorem dSend_any (w : World) (O I F : Nat → Prop) (X : DocM) (h : IsDoc w O I X) (hX : X.r.l.length ≤ 90000000) (A : Option Addr) (c : Nat) (xs : List LetM) (hsl : Sl w F A (letsC xs)) (he : ∀ x ∈ xs, LetIn w F x) (hz : ∀ x ∈ xs, LetSz x) (hsz : xs.length ≤ 10000) (hFO : ∀ k, F k → ¬ O k) (hFw : ∀ k, F k → k < w.heap.size) :
    Calls Tryz.prog 20 #[.pointer (some ⟨X.g, 0, none⟩), .slice A xs.length c] w fun e w' => e = .returned (I64 ((sendD X.L (xs.map LetM.x)).2 : Nat)) ∧ ∃ (O' I' : Nat → Prop) (X' : DocM), IsDoc w' O' I' X' ∧ X'.g = X.g ∧ X'.L = (sendD X.L (xs.map LetM.x)).1 ∧ Fr O w w' ∧ (∀ k, O' k → O k ∨ w.heap.size ≤ k) ∧ ∀ k, I' k → I k ∨ w.heap.size ≤ k := by
  have HE := Lib.hid he
  have HZ := Lib.hid hz
  obtain ⟨T, hT⟩ : ∃ T, T = sendD X.L (xs.map LetM.x) := ⟨_, rfl⟩
  rw [← hT]
  have HT := Lib.hid hT
  clear he hz hT
  go_enter Tryz.func20, Tryz.ntmps20
  go_wp2_with fail
  go_loopw [5, 6] (fun v i wr => sendDR w O I X xs v i wr) (fun _ i _ => xs.length - (intOf i).toNat)
  case atStart => exact ⟨0, 0, O, I, X, Nat.zero_le _, Nat.zero_le _, rfl, rfl, rfl, h, rfl, by omega, Fr.refl _ _, fun _ h => .inl h, fun _ h => .inl h⟩
  case round =>
    obtain ⟨k, r, O2, I2, X2, hk, hrk, rfl, rfl, hp, hN, eg, hlx, hq, hO2, hI2⟩ := hrel
    have HP := Lib.hid hp
    have HEG := Lib.hid eg
    rw [← eg]
    clear hp eg
    by_cases hlt : k < xs.length
    · have hFO2 : ∀ k, F k → ¬ O2 k := fun k hk ho => by
        rcases hO2 k ho with h1 | h1
        · exact hFO k hk h1
        · have := hFw k hk; omega
      obtain ⟨b, o, rfl, hFb, _, hc⟩ := (hsl.fr hq hFO).let_ hlt
      have hi0 : (k : Int) < (xs.length : Int) := by omega
      have xi := (HE.out _ (List.getElem_mem hlt)).fr hq hFO
      have xz := HZ.out _ (List.getElem_mem hlt)
      obtain ⟨x, hx⟩ : ∃ x, xs[k] = x := ⟨_, rfl⟩
      rw [hx] at xi xz hc
      have hst : sendD X.L ((xs.take (k + 1)).map LetM.x) = sendStepD (X2.L, r) x.x := by
        rw [List.take_succ_eq_append_getElem hlt, hx, List.map_append, List.map_singleton, sendD_snoc, HP.out]
      have HST := Lib.hid hst
      have hbw : b < wr.heap.size := by assumption
      have hcw : ∀ w9, Nw wr w9 → ∀ j u, (letL x)[j]? = some u → w9.cell? ⟨b, o + k * 20 + j, none⟩ = some u := fun w9 q9 j u hu => (q9.cell (p := ⟨b, o + k * 20 + j, none⟩) hbw (fun h => h)).trans (hc j u hu)
      have HC := Lib.hid hcw
      clear hx hst hc hcw
      obtain ⟨d, hd⟩ : ∃ d, d = letOk x.x := ⟨_, rfl⟩
      have hrt : ∀ w9, Nw wr w9 → Calls Tryz.prog 63 #[.agg (letA x)] w9 fun e w' => e = .returned (.bool d) ∧ Nw w9 w' := fun w9 q9 => by
        rw [hd]
        exact rRight_any w9 F x (xi.nw q9) xz
      have HRT := Lib.hid hrt
      have HD := Lib.hid hd
      clear hrt hd
      go_upto_region 5 with (fail)
      refine wp_region_effT (NwC wr) (fun _ => (none, 0)) (by kernel_rfl) (by kernel_rfl) ((Fr.refl (fun _ => False) wr).drew) ?_
      apply wpEffT_cons
      focus
        intro B L w9 hL hD hC
        have q9 : Nw wr w9 := hC
        refine .inl ⟨by rfl, ?_⟩
        unfold effAt
        go_simp
        exact ⟨rfl, hC⟩
      simp only [Act.put, List.setIfInBounds_toArray, List.set_cons_zero, List.set_cons_succ]
      apply wpEffT_cons
      focus
        intro B L w9 hL hD hC
        have q9 : Nw wr w9 := hC
        refine .inl ⟨by rfl, ?_⟩
        unfold effAt
        go_simp
        exact ⟨rfl, hC⟩
      simp only [Act.put, List.setIfInBounds_toArray, List.set_cons_zero, List.set_cons_succ]
      apply wpEffT_cons
      focus
        intro B L w9 hL hD hC
        have q9 : Nw wr w9 := hC
        refine .inl ⟨by rfl, ?_⟩
        unfold effAt
        go_simp
        exact ⟨rfl, hC⟩
      simp only [Act.put, List.setIfInBounds_toArray, List.set_cons_zero, List.set_cons_succ]
      apply wpEffT_cons
      focus
        intro B L w9 hL hD hC
        have q9 : Nw wr w9 := hC
        refine .inl ⟨by rfl, ?_⟩
        exact effAt_cells 50 _ rfl b (o + k * 20) rfl (letL x) _ (HC.out w9 q9) Tryz.underlying50 rfl (by kernel_rfl) hC
      simp only [Act.put, List.setIfInBounds_toArray, List.set_cons_zero, List.set_cons_succ]
      apply wpEffT_cons
      focus
        intro B L w9 hL hD hC
        have q9 : Nw wr w9 := hC
        refine .inl ⟨by rfl, ?_⟩
        unfold effAt
        go_simp
        refine (HRT.out w9 q9).mono ?_
        rintro e w8 ⟨rfl, q8⟩
        exact ⟨rfl, q9.tr q8⟩
      simp only [Act.put, List.setIfInBounds_toArray, List.set_cons_zero, List.set_cons_succ]
      cases d
      case false =>
        apply wpEffT_cons
        focus
          intro B L w9 hL hD hC
          have q9 : Nw wr w9 := hC
          refine .inl ⟨by rfl, ?_⟩
          unfold effAt
          go_simp
          exact ⟨rfl, hC⟩
        simp only [Act.put, List.setIfInBounds_toArray, List.set_cons_zero, List.set_cons_succ]
        apply wpEffT_cons
        focus
          intro B L wz hL hD hC
          exact .inr ⟨by rfl, rfl, hC⟩
        simp only [Act.put, List.setIfInBounds_toArray, List.set_cons_zero, List.set_cons_succ]
        apply wpEffT_cons
        focus
          intro B L wz hL hD hC
          exact .inr ⟨by rfl, rfl, hC⟩
        simp only [Act.put, List.setIfInBounds_toArray, List.set_cons_zero, List.set_cons_succ]
        apply wpEffT_cons
        focus
          intro B L wz hL hD hC
          exact .inr ⟨by rfl, rfl, hC⟩
        simp only [Act.put, List.setIfInBounds_toArray, List.set_cons_zero, List.set_cons_succ]
        apply wpEffT_cons
        focus
          intro B L wz hL hD hC
          exact .inr ⟨by rfl, rfl, hC⟩
        simp only [Act.put, List.setIfInBounds_toArray, List.set_cons_zero, List.set_cons_succ]
        apply wpEffT_cons
        focus
          intro B L wz hL hD hC
          exact .inr ⟨by rfl, rfl, hC⟩
        simp only [Act.put, List.setIfInBounds_toArray, List.set_cons_zero, List.set_cons_succ]
        apply wpEffT_cons
        focus
          intro B L wz hL hD hC
          exact .inr ⟨by rfl, rfl, hC⟩
        simp only [Act.put, List.setIfInBounds_toArray, List.set_cons_zero, List.set_cons_succ]
        apply wpEffT_cons
        focus
          intro B L wz hL hD hC
          exact .inr ⟨by rfl, rfl, hC⟩
        simp only [Act.put, List.setIfInBounds_toArray, List.set_cons_zero, List.set_cons_succ]
        apply wpEffT_cons
        focus
          intro B L wz hL hD hC
          exact .inr ⟨by rfl, rfl, hC⟩
        simp only [Act.put, List.setIfInBounds_toArray, List.set_cons_zero, List.set_cons_succ]
        apply wpEffT_cons
        focus
          intro B L wz hL hD hC
          exact .inr ⟨by rfl, rfl, hC⟩
        simp only [Act.put, List.setIfInBounds_toArray, List.set_cons_zero, List.set_cons_succ]
        apply wpEffT_cons
        focus
          intro B L wz hL hD hC
          exact .inr ⟨by rfl, rfl, hC⟩
        simp only [Act.put, List.setIfInBounds_toArray, List.set_cons_zero, List.set_cons_succ]
        apply wpEffT_cons
        focus
          intro B L wz hL hD hC
          exact .inr ⟨by rfl, rfl, hC⟩
        simp only [Act.put, List.setIfInBounds_toArray, List.set_cons_zero, List.set_cons_succ]
        apply wpEffT_cons
        focus
          intro B L wz hL hD hC
          exact .inr ⟨by rfl, rfl, hC⟩
        simp only [Act.put, List.setIfInBounds_toArray, List.set_cons_zero, List.set_cons_succ]
        apply wpEffT_cons
        focus
          intro B L wz hL hD hC
          exact .inr ⟨by rfl, rfl, hC⟩
        simp only [Act.put, List.setIfInBounds_toArray, List.set_cons_zero, List.set_cons_succ]
        apply wpEffT_cons
        focus
          intro B L wz hL hD hC
          exact .inr ⟨by rfl, rfl, hC⟩
        simp only [Act.put, List.setIfInBounds_toArray, List.set_cons_zero, List.set_cons_succ]
        apply wpEffT_cons
        focus
          intro B L w9 hL hD hC
          have q9 : Nw wr w9 := hC
          refine .inl ⟨by rfl, ?_⟩
          unfold effAt
          go_simp
          exact ⟨rfl, hC⟩
        simp only [Act.put, List.setIfInBounds_toArray, List.set_cons_zero, List.set_cons_succ]
        refine wpEffT_nil fun B wz hC => ?_
        have q6 : Nw wr wz := hC
        clear hC
        go_wp2_with fail
        go_roundw
        case rel =>
          have hst2 : sendStepD (X2.L, r) x.x = (X2.L, r) := by
            unfold sendStepD
            rw [if_neg]
            rintro ⟨h8, _⟩
            rw [← HD.out] at h8
            cases h8
          exact ⟨k + 1, r, O2, I2, X2, hlt, by omega, by go_num, rfl, by rw [HST.out, hst2], hN.nw q6, HEG.out, by omega, hq.tr (Nw.on q6), hO2, hI2⟩
        case measure => simp [intOf]; omega
      case true =>
        obtain ⟨n0, hn0⟩ : ∃ n0, n0 = (lnk X2.L (x.src, x.dst)).length := ⟨_, rfl⟩
        have hwt : ∀ w9, Nw wr w9 → Calls Tryz.prog 59 #[.pointer (some ⟨X2.g, 0, none⟩), I64 x.src, I64 x.dst] w9 fun e w' => ∃ A c, e = .returned (.slice A n0 c) ∧ Nw w9 w' := fun w9 q9 => (dWaiting_any w9 O2 I2 X2 (hN.nw q9) (by omega) x.src x.dst).mono fun e w' hh => by
          obtain ⟨A, c, ys, h1, h2, _, _, _, h3, _⟩ := hh
          have h4 : ys.length = n0 := by rw [hn0, ← h2, List.length_map]
          rw [h4] at h1
          exact ⟨A, c, h1, h3⟩
        have HWT := Lib.hid hwt
        have HN0 := Lib.hid hn0
        have hnle : n0 ≤ 100000000 := by
          have h1 := lnk_le X2.L (x.src, x.dst)
          rw [List.length_map] at h1
          omega
        clear hwt hn0
        apply wpEffT_cons
        focus
          intro B L w9 hL hD hC
          have q9 : Nw wr w9 := hC
          refine .inl ⟨by rfl, ?_⟩
          unfold effAt
          go_simp
          exact ⟨rfl, hC⟩
        simp only [Act.put, List.setIfInBounds_toArray, List.set_cons_zero, List.set_cons_succ]
        apply wpEffT_cons
        focus
          intro B L w9 hL hD hC
          have q9 : Nw wr w9 := hC
          refine .inl ⟨by rfl, ?_⟩
          unfold effAt
          go_simp
          exact ⟨rfl, hC⟩
        simp only [Act.put, List.setIfInBounds_toArray, List.set_cons_zero, List.set_cons_succ]
        apply wpEffT_cons
        focus
          intro B L w9 hL hD hC
          have q9 : Nw wr w9 := hC
          refine .inl ⟨by rfl, ?_⟩
          unfold effAt
          go_simp
          exact ⟨rfl, hC⟩
        simp only [Act.put, List.setIfInBounds_toArray, List.set_cons_zero, List.set_cons_succ]
        apply wpEffT_cons
        focus
          intro B L w9 hL hD hC
          have q9 : Nw wr w9 := hC
          refine .inl ⟨by rfl, ?_⟩
          unfold effAt
          go_simp
          exact ⟨rfl, hC⟩
        simp only [Act.put, List.setIfInBounds_toArray, List.set_cons_zero, List.set_cons_succ]
        apply wpEffT_cons
        focus
          intro B L w9 hL hD hC
          have q9 : Nw wr w9 := hC
          refine .inl ⟨by rfl, ?_⟩
          unfold effAt
          go_simp
          exact ⟨rfl, hC⟩
        simp only [Act.put, List.setIfInBounds_toArray, List.set_cons_zero, List.set_cons_succ]
        apply wpEffT_cons
        focus
          intro B L w9 hL hD hC
          have q9 : Nw wr w9 := hC
          refine .inl ⟨by rfl, ?_⟩
          unfold effAt
          go_simp
          exact ⟨rfl, hC⟩
        simp only [Act.put, List.setIfInBounds_toArray, List.set_cons_zero, List.set_cons_succ]
        apply wpEffT_cons
        focus
          intro B L w9 hL hD hC
          have q9 : Nw wr w9 := hC
          have c2 : w9.cell? ⟨b, o + k * 20 + 2, none⟩ = some (I64 x.src) := HC.out w9 q9 2 _ rfl
          refine .inl ⟨by rfl, ?_⟩
          unfold effAt
          go_simp
          exact ⟨rfl, hC⟩
        simp only [Act.put, List.setIfInBounds_toArray, List.set_cons_zero, List.set_cons_succ]
        apply wpEffT_cons
        focus
          intro B L w9 hL hD hC
          have q9 : Nw wr w9 := hC
          refine .inl ⟨by rfl, ?_⟩
          unfold effAt
          go_simp
          exact ⟨rfl, hC⟩
        simp only [Act.put, List.setIfInBounds_toArray, List.set_cons_zero, List.set_cons_succ]
        apply wpEffT_cons
        focus
          intro B L w9 hL hD hC
          have q9 : Nw wr w9 := hC
          refine .inl ⟨by rfl, ?_⟩
          unfold effAt
          go_simp
          exact ⟨rfl, hC⟩
        simp only [Act.put, List.setIfInBounds_toArray, List.set_cons_zero, List.set_cons_succ]
        apply wpEffT_cons
        focus
          intro B L w9 hL hD hC
          have q9 : Nw wr w9 := hC
          refine .inl ⟨by rfl, ?_⟩
          unfold effAt
          go_simp
          exact ⟨rfl, hC⟩
        simp only [Act.put, List.setIfInBounds_toArray, List.set_cons_zero, List.set_cons_succ]
        apply wpEffT_cons
        focus
          intro B L w9 hL hD hC
          have q9 : Nw wr w9 := hC
          refine .inl ⟨by rfl, ?_⟩
          unfold effAt
          go_simp
          exact ⟨rfl, hC⟩
        simp only [Act.put, List.setIfInBounds_toArray, List.set_cons_zero, List.set_cons_succ]
        apply wpEffT_cons
        focus
          intro B L w9 hL hD hC
          have q9 : Nw wr w9 := hC
          have c3 : w9.cell? ⟨b, o + k * 20 + 3, none⟩ = some (I64 x.dst) := HC.out w9 q9 3 _ rfl
          refine .inl ⟨by rfl, ?_⟩
          unfold effAt
          go_simp
          exact ⟨rfl, hC⟩
        simp only [Act.put, List.setIfInBounds_toArray, List.set_cons_zero, List.set_cons_succ]
        refine wpEffT_free (fun b => .slice b.1 n0 b.2) ?_ ?_
        focus
          intro B L w9 hL hD hC
          have q9 : Nw wr w9 := hC
          refine .inl ⟨by rfl, ?_⟩
          unfold effAtT
          go_simp
          refine (HWT.out w9 q9).mono ?_
          rintro e w8 ⟨A8, c8, rfl, q8⟩
          exact ⟨(A8, c8), rfl, q9.tr q8⟩
        simp only [Act.put, List.setIfInBounds_toArray, List.set_cons_zero, List.set_cons_succ]
        apply wpEffT_cons
        focus
          intro B L w9 hL hD hC
          have q9 : Nw wr w9 := hC
          refine .inl ⟨by rfl, ?_⟩
          unfold effAt
          go_simp
          exact ⟨rfl, hC⟩
        simp only [Act.put, List.setIfInBounds_toArray, List.set_cons_zero, List.set_cons_succ]
        by_cases h40 : n0 < 40
        · have hi40 : (n0 : Int) < 40 := by omega
          have hd40 : decide ((n0 : Int) < 40) = true := decide_eq_true hi40
          apply wpEffT_cons
          focus
            intro B L w9 hL hD hC
            have q9 : Nw wr w9 := hC
            refine .inl ⟨by rfl, ?_⟩
            unfold effAt
            go_simp
            exact ⟨rfl, hC⟩
          simp only [Act.put, List.setIfInBounds_toArray, List.set_cons_zero, List.set_cons_succ]
          apply wpEffT_cons
          focus
            intro B L w9 hL hD hC
            have q9 : Nw wr w9 := hC
            refine .inl ⟨by rfl, ?_⟩
            unfold effAt
            go_simp
            exact ⟨rfl, hC⟩
          simp only [Act.put, List.setIfInBounds_toArray, List.set_cons_zero, List.set_cons_succ]
          refine wpEffT_nil fun B wz hC => ?_
          have q6 : Nw wr wz := hC
          clear hC
          have N6 := hN.nw q6
          have y6 := N6.blk
          have hcp : ∀ w9, Nw wz w9 → Calls Tryz.prog 64 #[.agg (letA x)] w9 fun e w' => ∃ y : LetM, e = .returned (.agg (letA y)) ∧ y.x = x.x ∧ LetIn w' (Since w9) y ∧ Nw w9 w' := fun w9 q => copy_let w9 F x ((xi.nw q6).nw q) xz
          have HCP := Lib.hid hcp
          clear hcp
          obtain ⟨n2, hn2⟩ : ∃ n2, n2 = X2.r.l.length := ⟨_, rfl⟩
          have own6 : Own wz 50 20 X2.r.a n2 X2.r.c (letsC X2.r.l) := by rw [hn2]; exact N6.own
          have g6 : ∀ w9, Nw wz w9 → w9.cell? ⟨X2.g, 0, none⟩ = some (.slice X2.r.a n2 X2.r.c) := fun w9 q9 => by
            rw [hn2]
            simpa using (y6.fr q9 (fun h => h)).cell 0
          have hn2l : n2 ≤ 90010000 := by omega
          have hnb : ¬ (inA X2.r.a b ∨ b = X2.g) := fun e => by
            rcases e with e | e
            · exact hFO2 b hFb (hN.base b e)
            · exact hFO2 b hFb (e ▸ hN.og)
          have HN2 := Lib.hid hn2
          have HG6 := Lib.hid g6
          clear hn2 g6
          go_upto_region 6 with (fail)
          refine wp_region_appT (T := SdT) 9 10 11 14 (fun w9 => Nw wz w9) (sdS1 wz x) (sdS2 wz x) (ddS3 wz x X2.r.a n2 X2.r.c (letsC X2.r.l)) (ddS4 wz x X2.r.a n2 X2.r.c (letsC X2.r.l) X2.g) (fun _ => (letMZ, 0, none)) (by kernel_rfl) (by kernel_rfl) ((Fr.refl (fun _ => False) wz).drew) ?_
          apply wpEffT_cons
          focus
            intro B L w9 hL hD hC
            refine .inl ⟨by rfl, ?_⟩
            unfold effAt
            go_simp
            exact ⟨rfl, hC.keep (by kernel_rfl) hD (by rfl) (by rfl) (by rfl) (by rfl)⟩
          simp only [Act.put, List.setIfInBounds_toArray, List.set_cons_zero, List.set_cons_succ]
          apply wpEffT_cons
          focus
            intro B L w9 hL hD hC
            refine .inl ⟨by rfl, ?_⟩
            unfold effAt
            go_simp
            exact ⟨rfl, hC.keep (by kernel_rfl) hD (by rfl) (by rfl) (by rfl) (by rfl)⟩
          simp only [Act.put, List.setIfInBounds_toArray, List.set_cons_zero, List.set_cons_succ]
          apply wpEffT_cons
          focus
            intro B L w9 hL hD hC
            refine .inl ⟨by rfl, ?_⟩
            unfold effAt
            go_simp
            exact ⟨rfl, hC.keep (by kernel_rfl) hD (by rfl) (by rfl) (by rfl) (by rfl)⟩
          simp only [Act.put, List.setIfInBounds_toArray, List.set_cons_zero, List.set_cons_succ]
          apply wpEffT_cons
          focus
            intro B L w9 hL hD hC
            refine .inl ⟨by rfl, ?_⟩
            unfold effAt
            go_simp
            exact ⟨rfl, hC.keep (by kernel_rfl) hD (by rfl) (by rfl) (by rfl) (by rfl)⟩
          simp only [Act.put, List.setIfInBounds_toArray, List.set_cons_zero, List.set_cons_succ]
          apply wpEffT_cons
          focus
            intro B L w9 hL hD hC
            have q9 : Nw wz w9 := hC.early hL (by kernel_rfl) (by kernel_rfl) (fun h => h) (fun a h => h.1) (fun a b h => h.1.1)
            have hg9 := HG6.out w9 q9
            refine .inl ⟨by rfl, ?_⟩
            unfold effAt
            go_simp
            exact ⟨rfl, hC.keep (by kernel_rfl) hD (by rfl) (by rfl) (by rfl) (by rfl)⟩
          simp only [Act.put, List.setIfInBounds_toArray, List.set_cons_zero, List.set_cons_succ]
          apply wpEffT_cons
          focus
            intro B L w9 hL hD hC
            refine .inl ⟨by rfl, ?_⟩
            unfold effAt
            go_simp
            exact ⟨rfl, hC.keep (by kernel_rfl) hD (by rfl) (by rfl) (by rfl) (by rfl)⟩
          simp only [Act.put, List.setIfInBounds_toArray, List.set_cons_zero, List.set_cons_succ]
          apply wpEffT_cons
          focus
            intro B L w9 hL hD hC
            refine .inl ⟨by rfl, ?_⟩
            unfold effAt
            go_simp
            exact ⟨rfl, hC.keep (by kernel_rfl) hD (by rfl) (by rfl) (by rfl) (by rfl)⟩
          simp only [Act.put, List.setIfInBounds_toArray, List.set_cons_zero, List.set_cons_succ]
          apply wpEffT_cons
          focus
            intro B L w9 hL hD hC
            refine .inl ⟨by rfl, ?_⟩
            unfold effAt
            go_simp
            exact ⟨rfl, hC.keep (by kernel_rfl) hD (by rfl) (by rfl) (by rfl) (by rfl)⟩
          simp only [Act.put, List.setIfInBounds_toArray, List.set_cons_zero, List.set_cons_succ]
          apply wpEffT_cons
          focus
            intro B L w9 hL hD hC
            have f9 := hC.all (φ := Fr (fun k => inA X2.r.a k ∨ k = X2.g) wz w9) (fun h => Nw.on h) (fun a h => Nw.on h.1) (fun a b h => Nw.on h.1.1) (fun a b h => dd3_fr h _) (fun a b h => dd4_fr h)
            refine .inl ⟨by rfl, ?_⟩
            exact effAt_cells 50 _ rfl b (o + k * 20) rfl (letL x) _ (fun j u hu => (f9.cell (p := ⟨b, o + k * 20 + j, none⟩) (Nat.lt_of_lt_of_le hbw q6.size) hnb).trans (HC.out wz q6 j u hu)) Tryz.underlying50 rfl (by kernel_rfl) (hC.keep (by kernel_rfl) hD (by rfl) (by rfl) (by rfl) (by rfl))
          simp only [Act.put, List.setIfInBounds_toArray, List.set_cons_zero, List.set_cons_succ]
          refine wpEffT_free (fun b => .agg (letA b.1)) ?_ ?_
          focus
            intro B L w9 hL hD hC
            obtain ⟨h1, h2⟩ := hC.call hL (by kernel_rfl) (by kernel_rfl) (by kernel_rfl) (by kernel_rfl) hD (by rfl) (by rfl) (by rfl)
            refine .inl ⟨by rfl, ?_⟩
            unfold effAtT
            go_simp
            refine (HCP.out _ h1).mono ?_
            rintro e w8 ⟨y, rfl, ey, oy, q8⟩
            exact ⟨(y, 0, none), rfl, h2 _ _ ⟨h1.tr q8, ey, oy.mono (fun k hk _ => Nat.le_trans h1.size hk)⟩⟩
          simp only [Act.put, List.setIfInBounds_toArray, List.set_cons_zero, List.set_cons_succ]
          refine wpEffT_free (fun b => .slice (some ⟨b.2.1, 0, none⟩) 1 1) ?_ ?_
          focus
            intro B L w9 hL hD hC
            obtain ⟨h1, h2⟩ := hC.build hL (hD 9 (by kernel_rfl)) (by kernel_rfl) (by kernel_rfl) (by kernel_rfl) hD (by rfl) (by rfl) (by rfl)
            refine .inl ⟨by rfl, ?_⟩
            unfold effAtT
            go_simp
            exact ⟨(letMZ, w9.heap.size, none), rfl, h2 (w9.alloc (.cells (letA (B 9).1) 50)) _ ⟨sd1_nw h1 ((Fr.refl (fun _ => False) w9).alloc _), sl_new w9 50 (letL (B 9).1) _ rfl⟩⟩
          simp only [Act.put, List.setIfInBounds_toArray, List.set_cons_zero, List.set_cons_succ]
          refine wpEffT_free (fun b => .slice b.2.2 (n2 + 1) b.2.1) ?_ ?_
          focus
            intro B L w9 hL hD hC
            obtain ⟨h1, h2⟩ := hC.app hL (hD 10 (by kernel_rfl)) (by kernel_rfl) (by kernel_rfl) hD (by rfl) (by rfl)
            refine .inl ⟨by rfl, ?_⟩
            exact effAtT_append _ _ 28 rfl 256 (.agg #[U8V 0, I64 0, I64 0, I64 0, I64 0, I64 0, I64 0, I64 0, .bool false, .slice none 0 0, I64 0, I64 0, .slice none 0 0, .slice none 0 0, .slice none 0 0, .slice none 0 0, I64 0, I64 0, I64 0, .slice none 0 0]) Tryz.underlying28 info_let (by rfl) (by omega) rfl (own6.fr h1.1.1 (fun _ _ h => h)) rfl h1.2 (by rfl) (letL_cell _) (by omega) (by unfold maxLen; omega) (fun A' cap' w' hA => ⟨(letMZ, cap', A'), rfl, h2 _ _ ⟨_, h1.1, hA⟩⟩)
          simp only [Act.put, List.setIfInBounds_toArray, List.set_cons_zero, List.set_cons_succ]
          apply wpEffT_cons
          focus
            intro B L w9 hL hD hC
            refine .inl ⟨by rfl, ?_⟩
            unfold effAt
            go_simp
            exact ⟨rfl, hC.keep (by kernel_rfl) hD (by rfl) (by rfl) (by rfl) (by rfl)⟩
          simp only [Act.put, List.setIfInBounds_toArray, List.set_cons_zero, List.set_cons_succ]
          apply wpEffT_cons
          focus
            intro B L w9 hL hD hC
            refine .inl ⟨by rfl, ?_⟩
            unfold effAt
            go_simp
            exact ⟨rfl, hC.keep (by kernel_rfl) hD (by rfl) (by rfl) (by rfl) (by rfl)⟩
          simp only [Act.put, List.setIfInBounds_toArray, List.set_cons_zero, List.set_cons_succ]
          apply wpEffT_cons
          focus
            intro B L w9 hL hD hC
            obtain ⟨h1, h2⟩ := hC.store hL (hD 11 (by kernel_rfl)) (by kernel_rfl) hD
            have hg9 : w9.cell? ⟨X2.g, 0, none⟩ = some (.slice X2.r.a n2 X2.r.c) ∧ w9.frozen? ⟨X2.g, 0, none⟩ = false := by
              obtain ⟨wy, h3, h4⟩ := h1
              have hb := (y6.fr h3.1 (fun h => h)).fr h4.fr N6.ga
              refine ⟨?_, hb.frozen 0⟩
              rw [HN2.out]
              simpa using hb.cell 0
            obtain ⟨hg9, hf9⟩ := hg9
            refine .inl ⟨by rfl, ?_⟩
            unfold effAt
            go_simp
            exact ⟨rfl, h2 _ ⟨w9, h1, rfl⟩⟩
          simp only [Act.put, List.setIfInBounds_toArray, List.set_cons_zero, List.set_cons_succ]
          refine wpEffT_nil fun B wf hC => ?_
          have hfin := hC.fin (by rfl)
          obtain ⟨t, ht⟩ : ∃ t, t = B 9 := ⟨_, rfl⟩
          obtain ⟨b2, hb⟩ : ∃ b, b = B 11 := ⟨_, rfl⟩
          rw [← ht, ← hb] at hfin
          clear hC hb ht
          obtain ⟨wx, ⟨wy, hs1, hap⟩, hwf⟩ := hfin
          rw [HN2.out] at hap hwf
          obtain ⟨O3, I3, X3, N7, eg3, ep3, es3, f7, hO3, hI3⟩ := IsDoc.push N6 hs1.1 t.1 hs1.2.2 (LetSz.of_eq hs1.2.1 xz) hap hwf
          have HN7 := Lib.hid N7
          have HEP := Lib.hid ep3
          have HX3 := Lib.hid hs1.2.1
          have h14 := q6.size
          have hwr := hq.size
          clear N7 ep3 hs1 hap hwf own6 y6
          go_wp2_with fail
          go_roundw
          case rel =>
            have hst2 : sendStepD (X2.L, r) x.x = (X3.L, r + 1) := by
              unfold sendStepD
              rw [if_pos ⟨HD.out.symm, by show (lnk X2.L (x.src, x.dst)).length < 40; rw [← HN0.out]; exact h40⟩, HEP.out, HX3.out]
            refine ⟨k + 1, r + 1, O3, I3, X3, hlt, by omega, by go_num, by go_num, by rw [HST.out, hst2], HN7.out, by rw [eg3, HEG.out], by omega, ?_, fun j hj => ?_, fun j hj => ?_⟩
            · exact (hq.tr (Nw.on q6)).trans f7 fun j hj => hO2 j hj
            · rcases hO3 j hj with h1 | h1
              · exact hO2 j h1
              · right; omega
            · rcases hI3 j hj with h1 | h1
              · exact hI2 j h1
              · right; omega
          case measure => simp [intOf]; omega
        · have hi40 : ¬ (n0 : Int) < 40 := by omega
          have hd40 : decide ((n0 : Int) < 40) = false := decide_eq_false hi40
          apply wpEffT_cons
          focus
            intro B L w9 hL hD hC
            have q9 : Nw wr w9 := hC
            refine .inl ⟨by rfl, ?_⟩
            unfold effAt
            go_simp
            exact ⟨rfl, hC⟩
          simp only [Act.put, List.setIfInBounds_toArray, List.set_cons_zero, List.set_cons_succ]
          apply wpEffT_cons
          focus
            intro B L w9 hL hD hC
            have q9 : Nw wr w9 := hC
            refine .inl ⟨by rfl, ?_⟩
            unfold effAt
            go_simp
            exact ⟨rfl, hC⟩
          simp only [Act.put, List.setIfInBounds_toArray, List.set_cons_zero, List.set_cons_succ]
          refine wpEffT_nil fun B wz hC => ?_
          have q6 : Nw wr wz := hC
          clear hC
          go_wp2_with fail
          go_roundw
          case rel =>
            have hst2 : sendStepD (X2.L, r) x.x = (X2.L, r) := by
              unfold sendStepD
              rw [if_neg]
              rintro ⟨_, h8⟩
              exact h40 (HN0.out ▸ h8)
            exact ⟨k + 1, r, O2, I2, X2, hlt, by omega, by go_num, rfl, by rw [HST.out, hst2], hN.nw q6, HEG.out, by omega, hq.tr (Nw.on q6), hO2, hI2⟩
          case measure => simp [intOf]; omega
    · obtain rfl : xs.length = k := by omega
      go_wp2_with fail
      go_ret
      have hT : T = (X2.L, r) := by
        rw [HT.out, ← HP.out, List.take_of_length_le (Nat.le_refl _)]
      refine ⟨by rw [hT]; rfl, O2, I2, X2, hN, HEG.out, by rw [hT], hq, hO2, hI2⟩
end Go.Proofs.YtippdjaakcgeoaaGreat
