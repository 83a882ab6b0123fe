/- Rulings: names, reads held against each other; reads of two lists; the document's book: what it has of a name. -/
import Derived.Test.YtgmcjfjdjnoljaaRuI
import Derived.Laws.StructEq
namespace Go.Proofs.Ytgmcjfjdjnoljaa
open Go Go.RowKit

theorem eqf_name : Try.prog.underlying 35 = some (.struct (Try.prog.fieldsOf 35)) := by kernel_rfl
theorem eqf_read : Try.prog.underlying 83 = some (.struct (Try.prog.fieldsOf 83)) := by kernel_rfl
theorem stood_name : Try.prog.stoodInHeld 35 = false := by kernel_rfl
theorem stood_read : Try.prog.stoodInHeld 83 = false := by kernel_rfl
theorem name_eq (w : World) (x y : Nm) : (Op.equalIn 10000 35 (.agg #[I64 x.1, I64 x.2]) (.agg #[I64 y.1, I64 y.2])).run Try.prog w = .ok (decide (x = y)) w := by
  rw [run_equalIn_agg w 9999 _ _ _ eqf_name stood_name]
  unfold Program.fieldsOf
  simp only [Try.underlying35]
  simp [Op.eqFields, go_sem, Try.underlying3]
  obtain ⟨a, b⟩ := x
  obtain ⟨c, d⟩ := y
  by_cases h1 : a = c
  · by_cases h2 : b = d
    · simp [h1, h2]
    · simp [h1, h2]
  · simp [h1]
theorem name_eql (w : World) (x y : Nm) : (binOp .eql 35 (.agg #[I64 x.1, I64 x.2]) (.agg #[I64 y.1, I64 y.2])).run Try.prog w = .ok (.bool (decide (x = y))) w := by
  rw [run_eql_struct, name_eq]; rfl
theorem read_eq (w : World) (x y : Rdg) : (Op.equalIn 10000 83 (.agg #[StrV x.1, .bool x.2.1, StrV x.2.2]) (.agg #[StrV y.1, .bool y.2.1, StrV y.2.2])).run Try.prog w = .ok (decide (x = y)) w := by
  rw [run_equalIn_agg w 9999 _ _ _ eqf_read stood_read]
  unfold Program.fieldsOf
  simp only [Try.underlying83]
  simp [Op.eqFields, go_sem, Try.underlying9, Try.underlying4]
  obtain ⟨a, m, b⟩ := x
  obtain ⟨c, n, d⟩ := y
  by_cases h1 : a = c
  · by_cases h2 : m = n
    · by_cases h3 : b = d
      · simp [h1, h2, h3]
      · simp [h1, h2, h3]
    · simp [h1, h2]
  · simp [h1]
theorem read_eql (w : World) (x y : Rdg) : (binOp .eql 83 (.agg #[StrV x.1, .bool x.2.1, StrV x.2.2]) (.agg #[StrV y.1, .bool y.2.1, StrV y.2.2])).run Try.prog w = .ok (.bool (decide (x = y))) w := by
  rw [run_eql_struct, read_eq]; rfl
theorem read_neq (w : World) (x y : Rdg) : (binOp .neq 83 (.agg #[StrV x.1, .bool x.2.1, StrV x.2.2]) (.agg #[StrV y.1, .bool y.2.1, StrV y.2.2])).run Try.prog w = .ok (.bool (!decide (x = y))) w := by
  rw [run_neq_struct, read_eq]; rfl

/-- All reads before the k-th are the same. -/
def SameTo (w : World) (a b : List Rdg) (i : Value) (wx : World) : Prop := ∃ k : Nat, k ≤ a.length ∧ i = .int .i64 k ∧ (∀ j (h : j < a.length) (h' : j < b.length), j < k → a[j] = b[j]) ∧ Nw w wx
set_option maxRecDepth 100000 in
theorem sameReads_any (w : World) (F1 F2 : Nat → Prop) (A1 A2 : Option Addr) (c1 c2 : Nat) (a b : List Rdg) (h1 : Sl w F1 A1 (rdgsCells a)) (h2 : Sl w F2 A2 (rdgsCells b)) (hl : a.length ≤ 1000000000) :
    Calls Try.prog 45 #[.slice A1 a.length c1, .slice A2 b.length c2] w fun e w' => e = .returned (.bool (decide (a = b))) ∧ Nw w w' := by
  by_cases hlen : a.length = b.length
  · obtain ⟨n, hn⟩ : ∃ n, n = a.length := ⟨_, rfl⟩
    have hnb : n = b.length := hn.trans hlen
    rw [← hlen, ← hn]
    have HA := Lib.hid hn
    have HB := Lib.hid hnb
    have hl : n ≤ 1000000000 := by omega
    clear hn hnb hlen
    go_enter Try.func45, Try.ntmps45
    go_wp2_with fail
    go_loopw [5] (fun i wx => SameTo w a b i wx) (fun i _ => n - (intOf i).toNat)
    case atStart => exact ⟨0, Nat.zero_le _, rfl, fun _ _ _ h => by omega, Fr.refl _ _⟩
    case round =>
      obtain ⟨k, hk, rfl, hok, hq⟩ := hrel
      have HK := Lib.hid hok
      have hkn : k ≤ n := by rw [HA.out]; exact hk
      clear hok hk
      by_cases hlt : k < n
      · have hka : k < a.length := by rw [← HA.out]; exact hlt
        have hkb : k < b.length := by rw [← HB.out]; exact hlt
        obtain ⟨b1, o1, rfl, _, x1, x2, x3⟩ := (h1.fr hq (fun _ _ h => h)).rdg hka
        obtain ⟨b2, o2, rfl, _, y1, y2, y3⟩ := (h2.fr hq (fun _ _ h => h)).rdg hkb
        have hne := fun w => read_neq w a[k] b[k]
        obtain ⟨p, hp⟩ : ∃ p, decide (a[k] = b[k]) = p := ⟨_, rfl⟩
        rw [hp] at hne
        have HP := Lib.hid hp
        clear hp
        generalize a[k] = x at x1 x2 x3 hne
        generalize b[k] = y at y1 y2 y3 hne
        have d1 := fun (n : Later wr) => n.cell x1
        have d2 := fun (n : Later wr) => n.cell x2
        have d3 := fun (n : Later wr) => n.cell x3
        have d4 := fun (n : Later wr) => n.cell y1
        have d5 := fun (n : Later wr) => n.cell y2
        have d6 := fun (n : Later wr) => n.cell y3
        clear x1 x2 x3 y1 y2 y3
        go_wp2_with fail
        refine wp_region_later (by kernel_rfl) (by kernel_rfl) ?_
        repeat (go_big_quiet_step (fail))
        refine wpQuiet_later fun w5 q5 => ?_
        cases p
        · go_wp2_with fail
          go_ret
          refine ⟨retB (decide_eq_false fun e => ?_).symm, hq.tr q5⟩
          subst e
          have := HP.out
          simp at this
        · go_wp2_with fail
          go_roundw
          case rel =>
            refine ⟨k + 1, by omega, rfl, fun j h3 h4 hjk => ?_, hq.tr q5⟩
            by_cases hjk2 : j < k
            · exact HK.out j h3 h4 hjk2
            · obtain rfl : j = k := by omega
              exact of_decide_eq_true HP.out
          case measure => simp [intOf]; omega
      · go_wp2_with fail
        go_ret
        refine ⟨retB (decide_eq_true (List.ext_getElem (by rw [← HA.out, ← HB.out]) fun j h3 h4 => HK.out j h3 h4 (by have := HA.out; omega))).symm, hq⟩
  · have hne : ¬ (a.length : Int) = (b.length : Int) := by omega
    go_enter Try.func45, Try.ntmps45
    go_wp2_with fail
    go_ret
    exact ⟨retB (decide_eq_false fun e => hlen (by rw [e])).symm, Fr.refl _ _⟩
/-- All names before the k-th are others. -/
def OfRel (w : World) (n : Nm) (l : List Ver) (i : Value) (wx : World) : Prop := ∃ k : Nat, k ≤ l.length ∧ i = .int .i64 k ∧ (∀ j (h : j < l.length), j < k → l[j].1 ≠ n) ∧ Nw w wx
theorem findV_at {n : Nm} {l : List Ver} {k : Nat} (hk : k < l.length) (h : ∀ j (h : j < l.length), j < k → l[j].1 ≠ n) (he : l[k].1 = n) : findV n l = some l[k] := by
  induction l generalizing k with
  | nil => simp at hk
  | cons v l ih =>
    unfold findV
    cases k with
    | zero => rw [if_pos (by simpa using he)]; rfl
    | succ k =>
      have h0 : ¬ v.1 = n := h 0 (Nat.zero_lt_succ _) (Nat.zero_lt_succ _)
      rw [if_neg h0]
      exact ih (by simpa using hk) (fun j hj hjk => h (j + 1) (Nat.succ_lt_succ hj) (Nat.succ_lt_succ hjk)) (by simpa using he)
theorem rret_zero (w : World) (gD : Nat) (e : Value) (tmps : Array Value) (fn : Func) (hr : fn.results = #[.cell 4 41, .tmp 5]) (hp : tmps.getD 4 undef = .pointer (some ⟨gD, 0, none⟩)) (hq : tmps.getD 5 undef = e) (cs : Array Value) (h5 : cs.size = 5) (hE : Blk w gD 41 cs) :
    (results fn tmps).run Try.prog w = .ok (.tuple #[.agg cs, e]) w :=
  results_cell_tmp_row hr _ _ gD 41 _ (0, 0) _ _ hp hq hE Try.underlying41 rfl (by rw [h5]; exact rver_size)
set_option maxRecDepth 100000 in
set_option maxHeartbeats 4000000 in
theorem rbOf_any (w : World) (F : Nat → Prop) (g : Nat) (l : List Ver) (h : IsRB w F g l) (n : Nm) (hz : VersSz l) (hl : l.length ≤ 2000000000) :
    Calls Try.prog 23 #[.pointer (some ⟨g, 0, none⟩), nmKey n] w fun e w' => OfTo w (findV n l) e w' := by
  obtain ⟨A, cap, cs, I, hb, ho, hv, hFg, hFA, hFI, hlt⟩ := id h
  have q0 : Nw w ((w.alloc (.cells #[I64 n.1, I64 n.2] 35)).alloc (.cells zeroC 41)) := ((Fr.refl _ w).alloc _).alloc _
  have hB := (Blk.new w 35 #[I64 n.1, I64 n.2]).alloc (.cells zeroC 41)
  have hD : Blk ((w.alloc (.cells #[I64 n.1, I64 n.2] 35)).alloc (.cells zeroC 41)) (w.heap.size + 1) 41 zeroC := by
    simpa using Blk.new (w.alloc (.cells #[I64 n.1, I64 n.2] 35)) 41 zeroC
  obtain ⟨o, hfo⟩ : ∃ o, findV n l = o := ⟨_, rfl⟩
  rw [hfo]
  have HO := Lib.hid hfo
  clear hfo
  go_enter Try.func23, Try.ntmps23
  go_wp2_with fail
  obtain ⟨W, hW⟩ : ∃ W, W = (w.alloc (.cells #[I64 n.1, I64 n.2] 35)).alloc (.cells zeroC 41) := ⟨_, rfl⟩
  rw [← hW] at q0 hB hD ⊢
  have HW := Lib.hid hW
  clear hW
  have hWs : w.heap.size + 1 < W.heap.size := hD.lt
  go_loopw [6] (fun i wx => OfRel W n l i wx) (fun i _ => l.length - (intOf i).toNat)
  case atStart => exact ⟨0, Nat.zero_le _, rfl, fun _ _ h => by omega, Fr.refl _ _⟩
  case round =>
    obtain ⟨k, hk, rfl, hok, hq⟩ := hrel
    have HK := Lib.hid hok
    clear hok
    have g0 : wr.cell? ⟨g, 0, none⟩ = some (.slice A l.length cap) := by simpa using (hb.fr (q0.tr hq) (fun h => h)).cell 0
    by_cases hlt2 : k < l.length
    · have hv5 := hv.fr (q0.tr hq) (fun _ _ h => h)
      obtain ⟨bA, oA, A', c', rfl, hF, hc, _, _, hs'⟩ := (ho.fr (q0.tr hq) (fun _ _ h => h)).sl.ver hv5 hlt2
      have hzk := hz _ (List.getElem_mem hlt2)
      have x1 : wr.cell? ⟨bA, oA + k * 5, none⟩ = some (I64 l[k].1.1) := by simpa using hc 0 _ rfl
      have x2 := hc 1 _ rfl
      have k0 : wr.cell? ⟨w.heap.size, 0, none⟩ = some (I64 n.1) := by simpa using (hB.fr hq (fun h => h)).cell 0
      have k1 : wr.cell? ⟨w.heap.size, 1, none⟩ = some (I64 n.2) := by simpa using (hB.fr hq (fun h => h)).cell 1
      have hne := fun w => name_eql w l[k].1 n
      obtain ⟨p, hp⟩ : ∃ p, decide (l[k].1 = n) = p := ⟨_, rfl⟩
      rw [hp] at hne
      have HP := Lib.hid hp
      clear hp
      have d0 := fun (n : Later wr) => n.cell g0
      have d1 := fun (n : Later wr) => n.cell x1
      have d2 := fun (n : Later wr) => n.cell x2
      have d3 := fun (m : Later wr) => m.cell k0
      have d4 := fun (m : Later wr) => m.cell k1
      have hc1 : ∀ (w5 : World), Nw wr w5 → ∀ j u, (verL l[k] A' c')[j]? = some u → w5.cell? ⟨bA, oA + k * 5 + j, none⟩ = some u := fun w5 q j u hu => (q.cell (World.block_lt_of_cell? _ _ (hc j u hu)) (fun h => h)).trans (hc j u hu)
      have hcon := fun (w5 : World) (q : Nw wr w5) => rcopied_any w5 I l[k] A' c' (hs'.fr q (fun _ _ h => h)) (by have := hzk.1; omega)
      clear x1 x2 k0 k1 hc hzk
      obtain ⟨v, hvk⟩ : ∃ v, l[k] = v := ⟨_, rfl⟩
      rw [hvk] at hne d1 d2 hc1 hcon
      have HV := Lib.hid hvk
      clear hvk
      go_wp2_with fail
      refine wp_region_later (by kernel_rfl) (by kernel_rfl) ?_
      repeat (go_big_quiet_step (fail))
      refine wpQuiet_later fun w5 q5 => ?_
      cases p
      · go_wp2_with fail
        go_roundw
        case rel =>
          refine ⟨k + 1, by omega, rfl, fun j hj hjk => ?_, hq.tr q5⟩
          by_cases hjk2 : j < k
          · exact HK.out j hj hjk2
          · obtain rfl : j = k := by omega
            exact of_decide_eq_false HP.out
        case measure => simp [intOf]; omega
      · have Q5 : Nw W w5 := hq.tr q5
        have g5 : w5.cell? ⟨g, 0, none⟩ = some (.slice (some ⟨bA, oA, none⟩) l.length cap) := by simpa using (hb.fr (q0.tr Q5) (fun h => h)).cell 0
        have hc5 := hc1 w5 q5
        have hD5 := hD.fr Q5 (fun h => h)
        clear d0 d1 d2 d3 d4
        go_wp2_with (first | (refine wl_load_cells rfl 41 _ rfl bA (oA + k * 5) rfl (verL v A' c') _ hc5 Try.underlying41 rfl rver_size ?_) | (go_at_call 39; refine (hcon w5 q5).mono ?_; rintro e w3 ⟨A3, c3, rfl, hl3, hm3, hs3, q3⟩; have hD3 := hD5.fr q3 (fun h => h); have h13 := ver_one v.1.1 v.1.2 v.2.1 v.2.2.1 (.slice A3 v.2.2.2.length c3) rfl) | (refine wpList_store_row rfl 41 _ _ rfl (w.heap.size + 1) _ rfl rfl 41 _ hD3 rver_size rfl h13 ?_))
        have hE := hD3.row #[I64 v.1.1, I64 v.1.2, .bool v.2.1, I64 v.2.2.1, .slice A3 v.2.2.2.length c3]
        refine bodyPost_ret (v := .tuple #[VerV v A3 c3, .bool true]) ?_ rfl ?_
        · exact rret_zero _ (w.heap.size + 1) _ _ _ rfl rfl rfl _ rfl hE
        have ho1 : o = some v := by
          rw [← HO.out, ← HV.out]
          exact findV_at hlt2 HK.out (of_decide_eq_true HP.out)
        rw [ho1]
        have q4 : Fr (· = w.heap.size + 1) w3 (w3.setRow (w.heap.size + 1) #[I64 v.1.1, I64 v.1.2, .bool v.2.1, I64 v.2.2.1, .slice A3 v.2.2.2.length c3]) := (Fr.refl (· = w.heap.size + 1) w3).setRow (.inl rfl) _
        have h5 := Q5.size
        refine ⟨A3, c3, rfl, hl3, hm3, (hs3.fr q4 fun k hk e => ?_).mono fun k hk _ => ?_, ((q0.tr Q5).tr q3).trans q4 fun k hk => .inr (by omega)⟩
        · omega
        · omega
    · have hDq := hD.fr hq (fun h => h)
      have hE := hDq.row zeroC
      go_wp2_with (refine wpList_store_row rfl 41 _ _ rfl (w.heap.size + 1) _ rfl rfl 41 _ hDq rver_size rfl zero_one ?_)
      refine bodyPost_ret (v := .tuple #[.agg zeroC, .bool false]) ?_ rfl ?_
      · exact rret_zero _ (w.heap.size + 1) _ _ _ rfl rfl rfl _ rfl hE
      have ho0 : o = none := by
        rw [← HO.out]
        refine findV_none.2 fun x hx => ?_
        obtain ⟨j, hj, rfl⟩ := List.mem_iff_getElem.1 hx
        exact HK.out j hj (by omega)
      rw [ho0]
      exact ⟨none, 0, rfl, Nat.le_refl _, Nat.zero_le _, Sl.nil _ _ _, (q0.tr hq).setRow (.inr (by omega)) _⟩
end Go.Proofs.Ytgmcjfjdjnoljaa
