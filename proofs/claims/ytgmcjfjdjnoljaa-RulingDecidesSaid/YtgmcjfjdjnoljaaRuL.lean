/- Rulings: the program reads a verdict. -/
import Derived.Test.YtgmcjfjdjnoljaaRuI
import Derived.Test.YtgmcjfjdjnoljaaRdQ
import Derived.Test.YtgmcjfjdjnoljaaRdD
namespace Go.Proofs.Ytgmcjfjdjnoljaa
open Go Go.RowKit

theorem rdRdg_left (s : Rd) : rdLeft (rdRdg s).2 ≤ rdLeft s := Nat.le_trans (rdRow_left 20 _) (Nat.le_trans (rdFlag_left _) (rdRow_left 20 s))
theorem rdRdgs_left (k : Nat) (s : Rd) : rdLeft (rdRdgs k s).2 ≤ rdLeft s := by
  induction k with
  | zero => exact Nat.le_refl _
  | succ k ih => exact Nat.le_trans (rdRdg_left _) ih
theorem rdVerN_left (s : Rd) : rdLeft (rdVerN s).2 ≤ rdLeft s :=
  Nat.le_trans (rdNum_left 6 _) (Nat.le_trans (rdFlag_left _) (Nat.le_trans (rdNum_left _ _) (Nat.le_trans (rdNum_left _ _) (rdNum_left _ _))))
theorem rdVer_left (s : Rd) : rdLeft (rdVer s).2 ≤ rdLeft s := Nat.le_trans (rdRdgs_left _ _) (rdVerN_left s)

/-- A reader amid the reading of a verdict: what stands in the variable. -/
structure OneSt (w wr : World) (F : Nat → Prop) (gr : Nat) (s : Rd) (cs : Array Value) : Prop where
  rd : IsRd wr F gr s
  fr : Fr (· = gr) w wr
  x : Blk wr (w.heap.size + 1) 38 cs
  d : Blk wr w.heap.size 38 zeroC
section
variable {w wr w' : World} {F : Nat → Prop} {gr : Nat} {s s' : Rd} {cs : Array Value}
theorem OneSt.call (h : OneSt w wr F gr s cs) (hg : gr < w.heap.size) (k : RdTo wr F gr s' w') : OneSt w w' F gr s' cs :=
  ⟨k.1, h.fr.tr k.2, h.x.fr k.2 (by omega), h.d.fr k.2 (by omega)⟩
theorem OneSt.set_ (h : OneSt w wr F gr s cs) (hg : gr < w.heap.size) (hF : ∀ k, F k → k < w.heap.size) (j : Nat) (u : Value) : OneSt w (wr.setCell ⟨w.heap.size + 1, j, none⟩ u) F gr s (cs.setIfInBounds j u) :=
  ⟨h.rd.fr (S := (· = w.heap.size + 1)) ((Fr.refl (· = w.heap.size + 1) wr).setCell (p := ⟨w.heap.size + 1, j, none⟩) (.inl rfl) u) (by omega) (fun k hk e => by have := hF k hk; omega), h.fr.setCell (.inr (by simp)) u, h.x.set_ j u, h.d.far (by simp) u⟩
theorem OneSt.other (h : OneSt w wr F gr s cs) (hg : gr < w.heap.size) (hF : ∀ k, F k → k < w.heap.size) {p : Addr} (hp : w.heap.size + 1 < p.block) (u : Value) : OneSt w (wr.setCell p u) F gr s cs :=
  ⟨h.rd.fr (S := (· = p.block)) ((Fr.refl (· = p.block) wr).setCell (.inl rfl) u) (by omega) (fun k hk e => by have := hF k hk; omega), h.fr.setCell (.inr (by omega)) u, h.x.far (by omega) u, h.d.far (by omega) u⟩
theorem OneSt.nw (h : OneSt w wr F gr s cs) (q : Nw wr w') : OneSt w w' F gr s cs :=
  ⟨h.rd.fr q (fun h => h) (fun _ _ h => h), h.fr.tr (Nw.on q), h.x.fr q (fun h => h), h.d.fr q (fun h => h)⟩
end
theorem rd_size : (Try.prog.info? 83).map (·.size) = some 3 := by kernel_rfl
theorem rd_app {W w6 : World} {A A6 : Option Addr} {k c c6 : Nat} {cs : List Value} {news : List Value} (h : AppTo W 83 3 A k c 1 cs news A6 c6 w6) :
    Own w6 83 3 A6 (k + 1) c6 (cs ++ news) ∧ Fr (inA A) W w6 ∧ ∀ j, inA A6 j → inA A j ∨ W.heap.size ≤ j := by
  obtain ⟨h1, _, h3⟩ := h
  refine ⟨h1, ?_, ?_⟩
  · rcases h3 with ⟨_, _, _, hf⟩ | ⟨_, _, hf⟩
    · exact hf
    · exact Nw.on hf
  · intro j hj
    rcases h3 with ⟨_, rfl, _, _⟩ | ⟨_, rfl, _⟩
    · exact .inl hj
    · exact .inr (by rw [(inA_some _ _).1 hj]; exact Nat.le_refl _)
theorem one_app {w V w6 : World} {F : Nat → Prop} {gr : Nat} {s : Rd} {cs : Array Value} {A : Option Addr} {o : Obj} (h : OneSt w V F gr s cs) (hA : ∀ j, inA A j → w.heap.size + 1 < j) (f : Fr (inA A) (V.alloc o) w6) (hg : gr < w.heap.size) (hF : ∀ k, F k → k < w.heap.size) : OneSt w w6 F gr s cs := by
  have h2 := h.nw ((Fr.refl _ V).alloc o)
  exact ⟨h2.rd.fr f (fun hi => by have := hA _ hi; omega) (fun k hk hi => by have := hA _ hi; have := hF k hk; omega), h2.fr.trans f (fun j hj => .inr (by have := hA j hj; omega)), h2.x.fr f (fun hi => by have := hA _ hi; omega), h2.d.fr f (fun hi => by have := hA _ hi; omega)⟩
/-- So many reads are read. -/
def OneRel (w : World) (F : Nat → Prop) (gr : Nat) (a b : Int) (m : Bool) (t : Int) (n : Nat) (s : Rd) (i : Value) (wr : World) : Prop :=
  ∃ k : Nat, k ≤ n ∧ i = .int .i64 k ∧ ∃ A c, OneSt w wr F gr (rdRdgs k s).2 #[I64 a, I64 b, .bool m, I64 t, .slice A k c] ∧ Own wr 83 3 A k c (rdgsCells (rdRdgs k s).1) ∧ ∀ j, inA A j → w.heap.size + 1 < j
/-- What reading a verdict tells and leaves. -/
def OneTo (w : World) (F : Nat → Prop) (gr : Nat) (v : Ver) (s : Rd) (e : Ending) (w' : World) : Prop :=
  ∃ A c, e = .returned (VerV v A c) ∧ v.2.2.2.length ≤ c ∧ c ≤ maxLen ∧ Sl w' (fun k => w.heap.size ≤ k) A (rdgsCells v.2.2.2) ∧ RdTo w F gr s w'
theorem rdNum_most (m : Int) (s : Rd) (hm : 0 ≤ m) : 0 ≤ (rdNum m s).1 ∧ (rdNum m s).1 ≤ m := by
  rcases rdNum_cases m s with h | ⟨bs, n, r, _, h, _, h2, _⟩
  · rw [h]; exact ⟨Int.le_refl _, hm⟩
  · rw [h]; exact ⟨by simp, h2⟩
set_option maxRecDepth 100000 in
set_option maxHeartbeats 4000000 in
theorem one_any (w : World) (F : Nat → Prop) (gr : Nat) (s : Rd) (h : IsRd w F gr s) (hsz : rdLeft s ≤ 1000000000000) :
    Calls Try.prog 63 #[.pointer (some ⟨gr, 0, none⟩)] w fun e w' => OneTo w F gr (rdVer s).1 (rdVer s).2 e w' := by
  have hgr := h.lt
  have hF := h.out.2
  have hl5 := Nat.le_trans (rdVerN_left s) hsz
  have hver : rdVer s = ((((rdVerN s).1.1, (rdVerN s).1.2.1), (rdVerN s).1.2.2.2.1, (rdVerN s).1.2.2.1, (rdRdgs (rdVerN s).1.2.2.2.2.toNat (rdVerN s).2).1), (rdRdgs (rdVerN s).1.2.2.2.2.toNat (rdVerN s).2).2) := rfl
  have hn6 : 0 ≤ (rdVerN s).1.2.2.2.2 ∧ (rdVerN s).1.2.2.2.2 ≤ 6 := rdNum_most 6 _ (by omega)
  have e1 : (rdNum 1073741824 s).1 = (rdVerN s).1.1 := rfl
  have e2 : (rdNum 1073741824 (rdNum 1073741824 s).2).1 = (rdVerN s).1.2.1 := rfl
  have e3 : (rdNum 1073741824 (rdNum 1073741824 (rdNum 1073741824 s).2).2).1 = (rdVerN s).1.2.2.1 := rfl
  have e4 : (rdFlag (rdNum 1073741824 (rdNum 1073741824 (rdNum 1073741824 s).2).2).2).1 = (rdVerN s).1.2.2.2.1 := rfl
  have e5 : (rdNum 6 (rdFlag (rdNum 1073741824 (rdNum 1073741824 (rdNum 1073741824 s).2).2).2).2).1 = (rdVerN s).1.2.2.2.2 := rfl
  have e6 : (rdNum 6 (rdFlag (rdNum 1073741824 (rdNum 1073741824 (rdNum 1073741824 s).2).2).2).2).2 = (rdVerN s).2 := rfl
  rw [hver]
  clear hver
  have n1 := fun w1 h1 => rdnumber_any w1 F gr s h1 1073741824
  have n2 := fun w1 h1 => rdnumber_any w1 F gr (rdNum 1073741824 s).2 h1 1073741824
  have n3 := fun w1 h1 => rdnumber_any w1 F gr (rdNum 1073741824 (rdNum 1073741824 s).2).2 h1 1073741824
  have n4 := fun w1 h1 => rdflag_any w1 F gr (rdNum 1073741824 (rdNum 1073741824 (rdNum 1073741824 s).2).2).2 h1
  have n5 := fun w1 h1 => rdnumber_any w1 F gr (rdFlag (rdNum 1073741824 (rdNum 1073741824 (rdNum 1073741824 s).2).2).2).2 h1 6
  rw [e1] at n1
  rw [e2] at n2
  rw [e3] at n3
  rw [e4] at n4
  rw [e5, e6] at n5
  clear e1 e2 e3 e4 e5 e6
  generalize rdVerN s = q at hn6 hl5 n1 n2 n3 n4 n5 ⊢
  obtain ⟨⟨a, b, t, m, n⟩, s5⟩ := q
  simp only at hn6 hl5 n1 n2 n3 n4 n5 ⊢
  generalize (rdFlag (rdNum 1073741824 (rdNum 1073741824 (rdNum 1073741824 s).2).2).2).2 = s4 at n4 n5
  generalize (rdNum 1073741824 (rdNum 1073741824 (rdNum 1073741824 s).2).2).2 = s3 at n3 n4
  generalize (rdNum 1073741824 (rdNum 1073741824 s).2).2 = s2 at n2 n3
  generalize (rdNum 1073741824 s).2 = s1 at n1 n2
  obtain ⟨n, rfl⟩ : ∃ k : Nat, n = (k : Int) := ⟨n.toNat, by omega⟩
  have hn6 : n ≤ 6 := by omega
  simp only [Int.toNat_natCast]
  have N1 := Lib.hid n1
  have N2 := Lib.hid n2
  have N3 := Lib.hid n3
  have N4 := Lib.hid n4
  have N5 := Lib.hid n5
  clear n1 n2 n3 n4 n5
  have st0 : OneSt w ((w.alloc (.cells zeroC 38)).alloc (.cells zeroC 38)) F gr s zeroC := by
    have q : Nw w ((w.alloc (.cells zeroC 38)).alloc (.cells zeroC 38)) := ((Fr.refl _ w).alloc _).alloc _
    exact ⟨h.fr q (fun h => h) (fun _ _ h => h), Nw.on q, by simpa using Blk.new (w.alloc (.cells zeroC 38)) 38 zeroC, (Blk.new w 38 zeroC).alloc _⟩
  go_enter Try.func63, Try.ntmps63
  go_wp2_with fail
  refine (N1.out _ st0.rd).mono ?_
  rintro e w1 ⟨rfl, h1⟩
  have su1 := st0.call hgr h1
  have c1 : w1.cell? ⟨w.heap.size + 1, 0, none⟩ = _ := su1.x.cell 0
  have f1 := su1.x.frozen 0
  simp at c1
  have st1 : OneSt w _ F gr s1 #[I64 a, .int .i64 0, .bool false, .int .i64 0, .slice none 0 0] := su1.set_ hgr hF 0 (I64 a)
  clear su1 h1 
  go_wp2_with fail
  refine (N2.out _ st1.rd).mono ?_
  rintro e w2 ⟨rfl, h2⟩
  have su2 := st1.call hgr h2
  have c2 : w2.cell? ⟨w.heap.size + 1, 1, none⟩ = _ := su2.x.cell 1
  have f2 := su2.x.frozen 1
  simp at c2
  have st2 : OneSt w _ F gr s2 #[I64 a, I64 b, .bool false, .int .i64 0, .slice none 0 0] := su2.set_ hgr hF 1 (I64 b)
  clear su2 h2 st1
  go_wp2_with fail
  refine (N3.out _ st2.rd).mono ?_
  rintro e w3 ⟨rfl, h3⟩
  have su3 := st2.call hgr h3
  have c3 : w3.cell? ⟨w.heap.size + 1, 3, none⟩ = _ := su3.x.cell 3
  have f3 := su3.x.frozen 3
  simp at c3
  have st3 : OneSt w _ F gr s3 #[I64 a, I64 b, .bool false, I64 t, .slice none 0 0] := su3.set_ hgr hF 3 (I64 t)
  clear su3 h3 st2
  go_wp2_with fail
  refine (N4.out _ st3.rd).mono ?_
  rintro e w4 ⟨rfl, h4⟩
  have su4 := st3.call hgr h4
  have c4 : w4.cell? ⟨w.heap.size + 1, 2, none⟩ = _ := su4.x.cell 2
  have f4 := su4.x.frozen 2
  simp at c4
  have st4 : OneSt w _ F gr s4 #[I64 a, I64 b, .bool m, I64 t, .slice none 0 0] := su4.set_ hgr hF 2 (.bool m)
  clear su4 h4 st3
  go_wp2_with fail
  refine (N5.out _ st4.rd).mono ?_
  rintro e w5 ⟨rfl, h5⟩
  have st5 := st4.call hgr h5
  clear st4 h5 c1 c2 c3 c4 f1 f2 f3 f4
  go_wp2_with fail
  go_loopw [21] (fun i wx => OneRel w F gr a b m t n s5 i wx) (fun i _ => n - (intOf i).toNat)
  case atStart => exact ⟨0, Nat.zero_le _, rfl, none, 0, st5, Own.nil _ _ _, fun j hj => (inA_none j hj).elim⟩
  case round =>
    clear st5
    obtain ⟨k, hk, rfl, A, c, st, ho, hA⟩ := hrel
    by_cases hlt : k < n
    · have hlk := rdRdgs_len k s5
      have hsk := Nat.le_trans (rdRdgs_left k s5) hl5
      have hsucc : rdRdgs (k + 1) s5 = ((rdRdgs k s5).1 ++ [(rdRdg (rdRdgs k s5).2).1], (rdRdg (rdRdgs k s5).2).2) := rfl
      obtain ⟨⟨lk, sk⟩, hkk⟩ : ∃ q, rdRdgs k s5 = q := ⟨_, rfl⟩
      rw [hkk] at st ho hlk hsk hsucc
      simp only at st ho hlk hsk hsucc
      have hx : rdRdg sk = (((rdRow 20 sk).1, (rdFlag (rdRow 20 sk).2).1, (rdRow 20 (rdFlag (rdRow 20 sk).2).2).1), (rdRow 20 (rdFlag (rdRow 20 sk).2).2).2) := rfl
      have hl1 : rdLeft (rdFlag (rdRow 20 sk).2).2 ≤ 1000000000000 := Nat.le_trans (rdFlag_left _) (Nat.le_trans (rdRow_left 20 sk) hsk)
      rw [hx] at hsucc
      have t1 := fun w1 h1 => rdtext_any w1 F gr sk h1 20 hsk
      have t2 := fun w1 h1 => rdflag_any w1 F gr (rdRow 20 sk).2 h1
      have t3 := fun w1 h1 => rdtext_any w1 F gr (rdFlag (rdRow 20 sk).2).2 h1 20 hl1
      generalize rdRow 20 (rdFlag (rdRow 20 sk).2).2 = y3 at t3 hsucc
      generalize rdFlag (rdRow 20 sk).2 = y2 at t2 t3 hsucc
      generalize rdRow 20 sk = y1 at t1 t2 hsucc
      obtain ⟨x1, z1⟩ := y1
      obtain ⟨x2, z2⟩ := y2
      obtain ⟨x3, z3⟩ := y3
      simp only at t1 t2 t3 hsucc
      have HS := Lib.hid hsucc
      have T1 := Lib.hid t1
      have T2 := Lib.hid t2
      have T3 := Lib.hid t3
      clear hsucc t1 t2 t3 hkk hx hl1 hsk
      have hws : w.heap.size + 1 < wr.heap.size := st.x.lt
      have stY := st.nw ((Fr.refl _ wr).alloc (.cells #[.string ⟨#[]⟩, .bool false, .string ⟨#[]⟩] 83))
      have hY := Blk.new wr 83 #[.string ⟨#[]⟩, .bool false, .string ⟨#[]⟩]
      have hoY := ho.alloc (.cells #[.string ⟨#[]⟩, .bool false, .string ⟨#[]⟩] 83)
      have hAl : ∀ j, inA A j → j < wr.heap.size := ho.lt
      have hAg : ∀ j, inA A j → ¬ j = gr := fun j hj e => by have := hA j hj; omega
      have hAY : ∀ (p : Addr), p.block = wr.heap.size → ¬ inA A p.block := fun p hp hj => by have := hAl _ hj; omega
      go_wp2_with fail
      refine (T1.out _ stY.rd).mono ?_
      rintro e w1 ⟨rfl, h1⟩
      have su1 := (stY.call hgr h1).other hgr hF (p := ⟨wr.heap.size, 0, none⟩) hws (StrV x1)
      have hY1 := hY.fr h1.2 (by omega)
      have hu1 : Blk _ wr.heap.size 83 #[StrV x1, .bool false, .string ⟨#[]⟩] := hY1.set_ 0 (StrV x1)
      have ho1 := (hoY.fr h1.2 hAg).setCell (p := ⟨wr.heap.size, 0, none⟩) (hAY _ rfl) (StrV x1)
      have c1 := hY1.cell 0
      have f1 := hY1.frozen 0
      simp at c1
      clear stY hY hoY h1 hY1
      go_wp2_with fail
      refine (T2.out _ su1.rd).mono ?_
      rintro e w2 ⟨rfl, h2⟩
      have su2 := (su1.call hgr h2).other hgr hF (p := ⟨wr.heap.size, 1, none⟩) hws (.bool x2)
      have hY2 := hu1.fr h2.2 (by omega)
      have hu2 : Blk _ wr.heap.size 83 #[StrV x1, .bool x2, .string ⟨#[]⟩] := hY2.set_ 1 (.bool x2)
      have ho2 := (ho1.fr h2.2 hAg).setCell (p := ⟨wr.heap.size, 1, none⟩) (hAY _ rfl) (.bool x2)
      have c2 := hY2.cell 1
      have f2 := hY2.frozen 1
      simp at c2
      clear su1 hu1 ho1 h2 hY2 c1 f1
      go_wp2_with fail
      refine (T3.out _ su2.rd).mono ?_
      rintro e w3 ⟨rfl, h3⟩
      have su3 := (su2.call hgr h3).other hgr hF (p := ⟨wr.heap.size, 2, none⟩) hws (StrV x3)
      have hY3 := hu2.fr h3.2 (by omega)
      have hu3 : Blk _ wr.heap.size 83 #[StrV x1, .bool x2, StrV x3] := hY3.set_ 2 (StrV x3)
      have ho3 := (ho2.fr h3.2 hAg).setCell (p := ⟨wr.heap.size, 2, none⟩) (hAY _ rfl) (StrV x3)
      have c3 := hY3.cell 2
      have f3 := hY3.frozen 2
      simp at c3
      have c4 := su3.x.cell 4
      simp at c4
      have hs3 : (w3.setCell ⟨wr.heap.size, 2, none⟩ (StrV x3)).heap.size = w3.heap.size := by simp [World.setCell]
      have hone : ∀ u ∈ rdgCells (x1, x2, x3), u.oneCell' = true := by
        have := rdgsCells_one [(x1, x2, x3)]
        rwa [show rdgsCells [(x1, x2, x3)] = rdgCells (x1, x2, x3) from by simp [rdgsCells]] at this
      have hby : (k + 1) * 40 ≤ 140737488355328 := by omega
      have hmx : k + 1 ≤ maxLen := by unfold maxLen; omega
      have h13 : w.heap.size + 1 < w3.heap.size := by have := su3.x.lt; omega
      clear su2 hu2 ho2 h3 hY3 c2 f2
      go_wp2_with (first | (refine wpList_load_row rfl 83 _ rfl wr.heap.size rfl 83 _ (0, 0) _ hu3 Try.underlying83 rfl rd_size ?_) | (at_builtin; refine wl_append2 rfl _ _ _ rfl 40 (.agg #[.string ⟨#[]⟩, .bool false, .string ⟨#[]⟩]) Try.underlying36 info_read rfl (by decide) rfl (ho3.alloc _) rfl (sl_new _ 83 (rdgCells (x1, x2, x3)) _ hs3) rfl hone hby hmx ?_; intro A6 c6 w6 hap6; obtain ⟨o6, f6, a6⟩ := rd_app hap6; have s6 := one_app su3 hA f6 hgr hF; have c6x := s6.x.cell 4; have f6x := s6.x.frozen 4; simp at c6x))
      go_roundw
      case rel =>
        have hs := HS.out
        have h6s : w3.heap.size ≤ w6.heap.size := by have := f6.size; simp at this; omega
        refine ⟨k + 1, by omega, by go_num, A6, c6, ?_, ?_, fun j hj => ?_⟩
        · rw [hs]
          exact s6.set_ hgr hF 4 (.slice A6 (k + 1) c6)
        · rw [hs, rdgsCells_append, show rdgsCells [(x1, x2, x3)] = rdgCells (x1, x2, x3) from by simp [rdgsCells]]
          refine o6.setCell (fun hj => ?_) _
          rcases a6 _ hj with h1 | h1
          · have := hA _ h1; simp at this
          · simp at h1; omega
        · rcases a6 _ hj with h1 | h1
          · exact hA _ h1
          · simp at h1; omega
      case measure => simp [intOf]; omega
    · have hkn : k = n := by omega
      subst hkn
      have hlk := rdRdgs_len k s5
      have h1 := ver_one a b m t (.slice A k c) rfl
      have hE := st.d.row #[I64 a, I64 b, .bool m, I64 t, .slice A k c]
      have hx := st.x
      have hd := st.d
      go_wp2_with (first | (refine wpList_load_row rfl 38 _ rfl (w.heap.size + 1) rfl 38 _ (0, 0) _ hx Try.underlying38 rfl ver_size ?_) | (refine wpList_store_row rfl 38 _ _ rfl w.heap.size _ rfl rfl 38 _ hd ver_size rfl h1 ?_))
      refine bodyPost_ret (v := .agg #[I64 a, I64 b, .bool m, I64 t, .slice A k c]) ?_ rfl ?_
      · exact results_cell_row rfl _ _ w.heap.size 38 _ (0, 0) _ rfl hE Try.underlying38 rfl ver_size
      have hcap := ho.cap_le
      have q : Fr (· = w.heap.size) wr (wr.setRow w.heap.size #[I64 a, I64 b, .bool m, I64 t, .slice A k c]) := (Fr.refl (· = w.heap.size) wr).setRow (.inl rfl) _
      refine ⟨A, c, ?_, by rw [hlk]; exact hcap.1, hcap.2, (ho.sl.fr q (fun j hj e => ?_)).mono (fun j hj _ => ?_), st.rd.fr q (by omega) (fun j hj e => ?_), st.fr.trans q fun j hj => .inr (by omega)⟩
      · show Ending.returned (.agg #[I64 a, I64 b, .bool m, I64 t, .slice A k c]) = Ending.returned (.agg #[I64 a, I64 b, .bool m, I64 t, .slice A (rdRdgs k s5).1.length c])
        rw [hlk]
      · have := hA j hj; omega
      · have := hA j hj; omega
      · have := hF j hj; omega
end Go.Proofs.Ytgmcjfjdjnoljaa
