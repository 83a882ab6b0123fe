/- Letters read, by the program: what throws, what failed; a reader at work beside a variable. (Printed by gengd.py.) -/
import Derived.Test.YtippdjaakcgeoaaGcA
import Derived.Recover
import Derived.Defers
import Derived.Test.YtippdjaakcgeoaaRgB
import Derived.Test.YtippdjaakcgeoaaRgD
import Derived.Test.YtippdjaakcgeoaaRec
import Derived.Test.YtippdjaakcgeoaaQld
import Derived.Test.YtippdjaakcgeoaaRgM
import Derived.Test.YtippdjaakcgeoaaLeP
namespace Go.Proofs.Ytippdjaakcgeoaa
open Go Go.RowKit
set_option linter.unusedVariables false
set_option linter.unusedSimpArgs false
/-- What is thrown where bytes are none. -/
abbrev shapeP : PanicEntry := { v := .iface 54 (.int .i64 4), recovered := false }
set_option maxRecDepth 100000 in
theorem lmust_yes (w : World) : Calls Try.prog 62 #[.bool true] w fun e w' => e = .returned (.tuple #[]) ∧ w = w' := by
  go_enter Try.func62, Try.ntmps62
  go_wp2_with fail
  go_end0
  exact ⟨rfl, rfl⟩
set_option maxRecDepth 100000 in
theorem lmust_no (w : World) : Calls Try.prog 62 #[.bool false] w fun e w' => e = .panicked [shapeP] ∧ w = w' := by
  go_enter Try.func62, Try.ntmps62
  go_wp2_with fail
  exact ⟨rfl, rfl, rfl⟩
set_option maxRecDepth 100000 in
theorem jfailed_any (w : World) (F : Nat → Prop) (g : Nat) (s : Rd) (h : IsRd w F g s) : Calls Try.prog 100 #[.pointer (some ⟨g, 0, none⟩)] w fun e w' => e = .returned (.bool (!s.isSome)) ∧ w = w' := by
  have hl := rdleft_any w F g s h
  have he := rdend_any w F g s h
  match s, h, hl, he with
  | none, h, hl, he =>
    have e1 : rdLeft (none : Rd) = 0 := rfl
    have e2 : rdEnd (none : Rd) = 4 := rfl
    rw [e1] at hl
    rw [e2] at he
    go_enter Try.func100, Try.ntmps100
    go_wp2_with fail
    refine hl.mono ?_
    rintro e w1 ⟨rfl, rfl⟩
    go_wp2_with fail
    refine he.mono ?_
    rintro e w1 ⟨rfl, rfl⟩
    go_wp2_with fail
    go_ret
    exact ⟨rfl, rfl⟩
  | some [], h, hl, he =>
    have e1 : rdLeft (some [] : Rd) = 0 := rfl
    have e2 : rdEnd (some [] : Rd) = 0 := rfl
    rw [e1] at hl
    rw [e2] at he
    go_enter Try.func100, Try.ntmps100
    go_wp2_with fail
    refine hl.mono ?_
    rintro e w1 ⟨rfl, rfl⟩
    go_wp2_with fail
    refine he.mono ?_
    rintro e w1 ⟨rfl, rfl⟩
    go_wp2_with fail
    go_ret
    exact ⟨rfl, rfl⟩
  | some (b :: r), h, hl, he =>
    have e1 : rdLeft (some (b :: r) : Rd) = r.length + 1 := rfl
    rw [e1] at hl
    have hn : ((((r.length + 1 : Nat) : Int)) == 0) = false := by
      rw [beq_eq_false_iff_ne]
      omega
    obtain ⟨m, hm⟩ : ∃ m : Int, m = ((r.length + 1 : Nat) : Int) := ⟨_, rfl⟩
    rw [← hm] at hl hn
    clear hm e1
    go_enter Try.func100, Try.ntmps100
    go_wp2_with fail
    refine hl.mono ?_
    rintro e w1 ⟨rfl, rfl⟩
    go_wp2_with fail
    go_ret
    exact ⟨rfl, rfl⟩
/-- Cells set, one behind the other. -/
def setNs (cs : Array Value) : List Nat → List Int → Array Value
  | o :: os, n :: ns => setNs (cs.setIfInBounds o (I64 n)) os ns
  | _, _ => cs
theorem setNs_snoc (os : List Nat) (ns : List Int) (h : os.length = ns.length) (o : Nat) (n : Int) (cs : Array Value) : setNs cs (os ++ [o]) (ns ++ [n]) = (setNs cs os ns).setIfInBounds o (I64 n) := by
  induction os generalizing ns cs with
  | nil => cases ns with
    | nil => rfl
    | cons _ _ => cases h
  | cons a os ih => cases ns with
    | nil => cases h
    | cons b ns =>
      show setNs _ (os ++ [o]) (ns ++ [n]) = _
      rw [ih _ (by simpa using h)]
      rfl
theorem setNs_size (os : List Nat) (ns : List Int) (cs : Array Value) : (setNs cs os ns).size = cs.size := by
  induction os generalizing ns cs with
  | nil => cases ns <;> rfl
  | cons a os ih => cases ns with
    | nil => rfl
    | cons b ns =>
      show (setNs _ os ns).size = _
      rw [ih]
      simp
abbrev ptrV (X o : Nat) : Value := .pointer (some ⟨X, o, none⟩)
/-- The reader (whatever the mark says: the texts of orders mark two kinds). -/
def IsQ (b : Bool) (w : World) (F : Nat → Prop) (g : Nat) (s : Rd) : Prop := IsRd w F g s
def QTo (b : Bool) (w : World) (F : Nat → Prop) (g : Nat) (s : Rd) (w' : World) : Prop := IsQ b w' F g s ∧ Fr (· = g) w w'
theorem IsQ.fr {b : Bool} {w w' : World} {F S : Nat → Prop} {g : Nat} {s : Rd} (h : IsQ b w F g s) (hf : Fr S w w') (hg : ¬ S g) (hd : ∀ k, F k → ¬ S k) : IsQ b w' F g s := IsRd.fr h hf hg hd
/-- What stands: the reader, the variable, and whatever else is to stay. -/
structure RSt (b : Bool) (w0 wr : World) (F : Nat → Prop) (g X : Nat) (t : TypeId) (K : World → Prop) (s : Rd) (cs : Array Value) : Prop where
  rd : IsQ b wr F g s
  x : Blk wr X t cs
  k : K wr
  fr : Fr (· = g) w0 wr
  gX : g ≠ X
  FX : ¬ F X
  new : w0.heap.size ≤ X
  st : ∀ a c, Fr (fun k => k = g ∨ k = X) a c → K a → K c
section
variable {b : Bool} {w0 wr w' : World} {F : Nat → Prop} {g X : Nat} {t : TypeId} {K K' : World → Prop} {s s' : Rd} {cs : Array Value}
theorem RSt.call (h : RSt b w0 wr F g X t K s cs) (q : QTo b wr F g s' w') : RSt b w0 w' F g X t K s' cs :=
  ⟨q.1, h.x.fr q.2 (fun e => h.gX e.symm), h.st _ _ (q.2.mono fun k hk => .inl (.inl hk)) h.k, h.fr.tr q.2, h.gX, h.FX, h.new, h.st⟩
theorem RSt.callP (h : RSt true w0 wr F g X t K s cs) (q : RdTo wr F g s' w') : RSt true w0 w' F g X t K s' cs := h.call q
theorem RSt.set_ (h : RSt b w0 wr F g X t K s cs) (j : Nat) (u : Value) : RSt b w0 (wr.setCell ⟨X, j, none⟩ u) F g X t K s (cs.setIfInBounds j u) :=
  have q : Fr (· = X) wr (wr.setCell ⟨X, j, none⟩ u) := (Fr.refl (· = X) wr).setCell (p := ⟨X, j, none⟩) (.inl rfl) u
  ⟨h.rd.fr q h.gX (fun k hk e => h.FX (e ▸ hk)), h.x.set_ j u, h.st _ _ (q.mono fun k hk => .inl (.inr hk)) h.k, h.fr.trans q (fun k hk => .inr (hk ▸ h.new)), h.gX, h.FX, h.new, h.st⟩
theorem RSt.nw (h : RSt b w0 wr F g X t K s cs) (q : Nw wr w') : RSt b w0 w' F g X t K s cs :=
  ⟨h.rd.fr q (fun h => h) (fun _ _ h => h), h.x.fr q (fun h => h), h.st _ _ (Nw.on q) h.k, h.fr.tr (Nw.on q), h.gX, h.FX, h.new, h.st⟩
/-- The variable turned otherwise, the reader with it. -/
theorem RSt.both {cs' : Array Value} (h : RSt b w0 wr F g X t K s cs) (q : Fr (fun k => k = g ∨ k = X) wr w') (hr : IsQ b w' F g s') (hx : Blk w' X t cs') : RSt b w0 w' F g X t K s' cs' :=
  ⟨hr, hx, h.st _ _ q h.k, h.fr.trans q (fun k hk => hk.elim .inl fun e => .inr (e ▸ h.new)), h.gX, h.FX, h.new, h.st⟩
/-- More is to stay. -/
theorem RSt.more (h : RSt b w0 wr F g X t K s cs) (hk : K' wr) (hst : ∀ a c, Fr (fun k => k = g ∨ k = X) a c → K' a → K' c) : RSt b w0 wr F g X t (fun w => K w ∧ K' w) s cs :=
  ⟨h.rd, h.x, ⟨h.k, hk⟩, h.fr, h.gX, h.FX, h.new, fun a c f hh => ⟨h.st a c f hh.1, hst a c f hh.2⟩⟩
/-- Something else turned. -/
theorem RSt.other {S : Nat → Prop} (h : RSt b w0 wr F g X t K s cs) (q : Fr S wr w') (hg : ¬ S g) (hX : ¬ S X) (hF : ∀ k, F k → ¬ S k) (hn : ∀ k, S k → w0.heap.size ≤ k) (hk : K' w') (hst : ∀ a c, Fr (fun k => k = g ∨ k = X) a c → K' a → K' c) : RSt b w0 w' F g X t K' s cs :=
  ⟨h.rd.fr q hg hF, h.x.fr q hX, hk, h.fr.trans q (fun k hk => .inr (hn k hk)), h.gX, h.FX, h.new, hst⟩
/-- Another base. -/
theorem RSt.base {w1 : World} (h : RSt b w0 wr F g X t K s cs) (q : Fr (· = g) w1 w0) : RSt b w1 wr F g X t K s cs :=
  ⟨h.rd, h.x, h.k, q.tr h.fr, h.gX, h.FX, Nat.le_trans q.size h.new, h.st⟩
theorem stay_blk {D : Nat} {u : TypeId} {ds : Array Value} (h1 : D ≠ g) (h2 : D ≠ X) : ∀ a c, Fr (fun k => k = g ∨ k = X) a c → Blk a D u ds → Blk c D u ds := fun a c f h => h.fr f (by rintro (e | e); exact h1 e; exact h2 e)
theorem stay_own {E : TypeId} {z n c : Nat} {A : Option Addr} {vs : List Value} (h : ∀ k, inA A k → k ≠ g ∧ k ≠ X) : ∀ a c', Fr (fun k => k = g ∨ k = X) a c' → Own a E z A n c vs → Own c' E z A n c vs := fun a c' f h' => h'.fr f (fun k hk e => e.elim (h k hk).1 (h k hk).2)
end
theorem rdRow_len (m : Int) (hm : 0 ≤ m) (s : Rd) : ((rdRow m s).1.length : Int) ≤ m := by
  rcases rdNum_cases m s with h | ⟨bs, n, r, _, h, _, h2, _⟩
  · rw [rdRow_none h]; simpa using hm
  · rw [rdRow_some h]
    split
    · simpa using hm
    · simp; omega
/-- So many numbers are read, into these cells. -/
def NsRel (w : World) (F : Nat → Prop) (g X sb : Nat) (t : TypeId) (cs : Array Value) (os : List Nat) (s : Rd) (i : Value) (wr : World) : Prop :=
  ∃ k : Nat, k ≤ os.length ∧ i = .int .i64 k ∧ IsRd wr F g (rdNs 1073741824 k s).2 ∧ Blk wr X t (setNs cs (os.take k) (rdNs 1073741824 k s).1) ∧ Fr (fun b => b = g ∨ b = X) w wr ∧ Blk wr sb 101 #[.pointer (some ⟨g, 0, none⟩)]
set_option maxRecDepth 100000 in
set_option maxHeartbeats 4000000 in
theorem lnumbersR_any (w : World) (F : Nat → Prop) (g : Nat) (s : Rd) (h : IsRd w F g s) (X : Nat) (t : TypeId) (cs : Array Value) (hx : Blk w X t cs) (hgX : g ≠ X) (hF : ¬ F X) (os : List Nat) (hos : ∀ o ∈ os, o < cs.size) (F2 : Nat → Prop) (A : Option Addr) (c : Nat)
    (hs : Sl w F2 A (os.map (ptrV X))) (hF2 : ∀ k, F2 k → ¬ (k = g ∨ k = X)) (hol : os.length ≤ 1000) :
    Calls Try.prog 88 #[.agg #[.pointer (some ⟨g, 0, none⟩)], .slice A os.length c] w fun e w' => e = .returned (.tuple #[]) ∧ IsRd w' F g (rdNs 1073741824 os.length s).2 ∧ Blk w' X t (setNs cs os (rdNs 1073741824 os.length s).1) ∧ Fr (fun b => b = g ∨ b = X) w w' := by
  have hgl := h.lt
  have hXl := hx.lt
  obtain ⟨n, hn⟩ : ∃ n, os.length = n := ⟨_, rfl⟩
  have q0 : Nw w (w.alloc (.cells #[.pointer (some ⟨g, 0, none⟩)] 101)) := (Fr.refl _ w).alloc _
  have hsb := Blk.new w 101 #[.pointer (some ⟨g, 0, none⟩)]
  have h0 := h.fr q0 (fun h => h) (fun _ _ h => h)
  have x0 := hx.fr q0 (fun h => h)
  rw [hn] at hol ⊢
  have HN := Lib.hid hn
  clear hn
  go_enter Try.func88, Try.ntmps88
  go_wp2_with fail
  go_loopw [8] (fun i wx => NsRel w F g X w.heap.size t cs os s i wx) (fun i _ => n - (intOf i).toNat)
  case atStart => exact ⟨0, Nat.zero_le _, rfl, h0, by simpa [rdNs, setNs] using x0, Nw.on q0, hsb⟩
  case round =>
    clear hsb h0 x0 q0
    obtain ⟨k, hk, rfl, hr, hb, hf, hsb⟩ := hrel
    have hn := HN.out
    by_cases hlt : k < n
    · have hlo : k < os.length := by omega
      obtain ⟨B, of, rfl, hFB, hcell⟩ := (hs.fr hf hF2).get hlo
      have hnk := fun w1 h1 => rdnumber_any w1 F g (rdNs 1073741824 k s).2 h1 1073741824
      have hsucc : rdNs 1073741824 (k + 1) s = ((rdNs 1073741824 k s).1 ++ [(rdNum 1073741824 (rdNs 1073741824 k s).2).1], (rdNum 1073741824 (rdNs 1073741824 k s).2).2) := rfl
      have hset := setNs_snoc (os.take k) (rdNs 1073741824 k s).1 (by rw [rdNs_len, List.length_take]; omega) os[k] (rdNum 1073741824 (rdNs 1073741824 k s).2).1 cs
      rw [← List.take_succ_eq_append_getElem hlo] at hset
      have hcs : os[k] < (setNs cs (os.take k) (rdNs 1073741824 k s).1).size := by rw [setNs_size]; exact hos _ (List.getElem_mem hlo)
      generalize setNs cs (os.take k) (rdNs 1073741824 k s).1 = C at hb hset hcs
      generalize rdNum 1073741824 (rdNs 1073741824 k s).2 = q at hnk hsucc hset
      generalize (rdNs 1073741824 k s).2 = sk at hr hnk
      obtain ⟨z, s2⟩ := q
      simp only at hnk hsucc hset
      have HS := Lib.hid hsucc
      have HT := Lib.hid hset
      generalize os[k] = o at hcell hcs hset HT
      clear hsucc hset
      have hsc := hsb.cell 0
      simp at hsc
      go_wp2_with fail
      refine (hnk _ hr).mono ?_
      rintro e w1 ⟨rfl, h1⟩
      have hb1 := hb.fr h1.2 (fun e => hgX e.symm)
      have c1 : w1.cell? ⟨X, o, none⟩ = some C[o] := by rw [hb1.cell]; simp [hcs]
      have f1 := hb1.frozen o
      have hsb1 := hsb.fr h1.2 (by omega)
      generalize C[o] = old at c1
      go_wp2_with fail
      go_roundw
      case rel =>
        have hb2 := hb1.set_ o (I64 z)
        rw [← HT.out] at hb2
        have hs2 := HS.out
        refine ⟨k + 1, by omega, by go_num, ?_, ?_, ?_, ?_⟩
        · rw [hs2]
          exact h1.1.fr (S := (· = X)) ((Fr.refl (· = X) w1).setCell (p := ⟨X, o, none⟩) (.inl rfl) _) (fun e => hgX e) (fun j hj e => hF (e ▸ hj))
        · rw [hs2]
          exact hb2
        · exact (hf.trans h1.2 (fun j hj => .inl (.inl hj))).setCell (p := ⟨X, o, none⟩) (.inl (.inr rfl)) _
        · exact hsb1.far (show w.heap.size ≠ X by omega) _
      case measure => simp [intOf]; omega
    · have hkn : k = n := by omega
      subst hkn
      go_wp2_with fail
      go_end0
      refine ⟨rfl, hr, ?_, hf⟩
      rw [List.take_of_length_le (by omega)] at hb
      exact hb
end Go.Proofs.Ytippdjaakcgeoaa
namespace Go.Proofs.Ytippdjaakcgeoaa
open Go Go.RowKit
set_option linter.unusedVariables false
set_option linter.unusedSimpArgs false
theorem rdNodes_len5 (s : Rd) : (rdNodes s).1.length ≤ 5 := by
  have h := rdNum_most 5 s (by omega)
  show (rdNs 5 (rdNum 5 s).1.toNat (rdNum 5 s).2).1.length ≤ 5
  rw [rdNs_len]
  omega
theorem rdCfg_sz {y : CfgM} {s : Rd} (h : y.x = (rdCfg s).1) : CfgSz y := by
  have a1 : y.v.l = (rdCfg s).1.v := congrArg Cfg.v h
  have a2 : y.o.l = (rdCfg s).1.o := congrArg Cfg.o h
  have a3 : y.l.l = (rdCfg s).1.l := congrArg Cfg.l h
  have a4 : y.w.l = (rdCfg s).1.w := congrArg Cfg.w h
  have b1 : (rdCfg s).1.v.length ≤ 5 := rdNodes_len5 _
  have b2 : (rdCfg s).1.o.length ≤ 5 := rdNodes_len5 _
  have b3 : (rdCfg s).1.l.length ≤ 5 := rdNodes_len5 _
  have b4 : (rdCfg s).1.w.length ≤ 5 := rdNodes_len5 _
  exact ⟨by rw [a1]; omega, by rw [a2]; omega, by rw [a3]; omega, by rw [a4]; omega⟩
theorem EntOwn.zero (w0 w : World) : EntOwn w0 w entMZ := by
  have h : ∀ k, ¬ inA (none : Option Addr) k := inA_none
  exact ⟨⟨by decide, by decide⟩, ⟨Own.nil _ _ _, fun k hk => (h k hk).elim⟩, ⟨⟨Own.nil _ _ _, fun k hk => (h k hk).elim⟩, ⟨Own.nil _ _ _, fun k hk => (h k hk).elim⟩, ⟨Own.nil _ _ _, fun k hk => (h k hk).elim⟩, ⟨Own.nil _ _ _, fun k hk => (h k hk).elim⟩, fun k _ hk => (h k hk).elim, fun k _ hk => (h k hk).elim, fun k _ hk => (h k hk).elim, fun k _ hk => (h k hk).elim, fun k _ hk => (h k hk).elim, fun k _ hk => (h k hk).elim⟩⟩
set_option maxRecDepth 100000 in
set_option maxHeartbeats 8000000 in
theorem jread_any (w : World) (F : Nat → Prop) (g : Nat) (s : Rd) (h : IsRd w F g s) (hsz : rdLeft s ≤ 1000000000000) :
    Calls Try.prog 90 #[.pointer (some ⟨g, 0, none⟩)] w fun e w' => ∃ y : EntM, e = .returned (.tuple #[.agg (entA y), .bool (rdEnt s).2]) ∧ y.x = (rdEnt s).1 ∧ EntOwn w w' y ∧ RdTo w F g (rdEnt0 s).2 w' := by
  have hE : rdEnt0 s = (⟨(rdNum 1073741824 s).1, (rdNum 255 (rdNum 1073741824 s).2).1, (rdRow 131072 (rdNum 255 (rdNum 1073741824 s).2).2).1, (rdCfg (rdRow 131072 (rdNum 255 (rdNum 1073741824 s).2).2).2).1⟩, (rdCfg (rdRow 131072 (rdNum 255 (rdNum 1073741824 s).2).2).2).2) := rfl
  have hT : rdEnt s = if ((rdEnt0 s).2.isSome && entOk (rdEnt0 s).1) = true then ((rdEnt0 s).1, true) else (entZ, false) := rfl
  have hD : ∀ a : Ent × Bool, rdEnt s = a → (rdEnt s).1 = a.1 ∧ (rdEnt s).2 = a.2 := fun a h => by rw [h]; exact ⟨rfl, rfl⟩
  obtain ⟨⟨qe, qd⟩, hqq⟩ : ∃ q, rdEnt s = q := ⟨_, rfl⟩
  rw [hqq, hE]
  rw [hqq, hE] at hT
  clear hD hqq hE
  have n1 := fun w1 h1 => rdnumber_any w1 F g s h1 1073741824
  have l1 := Nat.le_trans (rdNum_left 1073741824 s) hsz
  obtain ⟨⟨t, s1⟩, hq1⟩ : ∃ q, rdNum 1073741824 s = q := ⟨_, rfl⟩
  rw [hq1] at n1 l1
  simp only [hq1] at n1 l1 hT ⊢
  have n2 := fun w1 h1 => rdnumber_any w1 F g s1 h1 255
  have m2 := rdNum_most 255 s1 (by omega)
  have l2 := Nat.le_trans (rdNum_left 255 s1) l1
  obtain ⟨⟨k, s2⟩, hq2⟩ : ∃ q, rdNum 255 s1 = q := ⟨_, rfl⟩
  simp only [hq2] at n2 m2 l2 hT ⊢
  have n3 := fun w1 h1 => rdrow_any w1 F g s2 h1 131072 l2
  have m3 := rdRow_len 131072 (by omega) s2
  obtain ⟨⟨bl, s3⟩, hq3⟩ : ∃ q, rdRow 131072 s2 = q := ⟨_, rfl⟩
  simp only [hq3] at n3 m3 hT ⊢
  have n4 := fun w1 h1 => jreadConfig_any w1 F g s3 h1
  have hkw : k % 256 = k := by omega
  have hbl : bl.length ≤ 131072 := by omega
  have N1 := Lib.hid n1
  have N2 := Lib.hid n2
  have N3 := Lib.hid n3
  have N4 := Lib.hid n4
  have HT0 := Lib.hid hT
  clear hT n1 n2 n3 n4 hq1 hq2 hq3 l1 l2 m3
  obtain ⟨R, hR⟩ : ∃ X, X = w.heap.size := ⟨_, rfl⟩
  obtain ⟨X, hX⟩ : ∃ Y, Y = w.heap.size + 1 := ⟨_, rfl⟩
  obtain ⟨Wa, hWa⟩ : ∃ W, W = w.alloc (.cells #[I64 0, U8V 0, .slice none 0 0, .slice none 0 0, .slice none 0 0, .slice none 0 0, .slice none 0 0] 60) := ⟨_, rfl⟩
  have pa : Nw w Wa := by rw [hWa]; exact (Fr.refl (fun _ => False) _).alloc _
  have ra : Blk Wa R 60 #[I64 0, U8V 0, .slice none 0 0, .slice none 0 0, .slice none 0 0, .slice none 0 0, .slice none 0 0] := by rw [hWa, hR]; exact Blk.new _ _ _
  have hza : Wa.heap.size = X := by rw [hWa, hX]; simp
  obtain ⟨W0, hW0⟩ : ∃ W, W = Wa.alloc (.cells #[I64 0, U8V 0, .slice none 0 0, .slice none 0 0, .slice none 0 0, .slice none 0 0, .slice none 0 0] 60) := ⟨_, rfl⟩
  have p0 : Nw Wa W0 := by rw [hW0]; exact (Fr.refl (fun _ => False) _).alloc _
  have x0 : Blk W0 X 60 #[I64 0, U8V 0, .slice none 0 0, .slice none 0 0, .slice none 0 0, .slice none 0 0, .slice none 0 0] := by rw [hW0, ← hza]; exact Blk.new _ _ _
  have r0 := ra.fr p0 (fun h => h)
  have Q0 : Nw w W0 := pa.tr p0
  have hgl := h.lt
  have hFl := h.out.2
  have hRX : R ≠ X := by omega
  have hgX : g ≠ X := by omega
  have hwR : w.heap.size ≤ R := by omega
  have hwX : w.heap.size ≤ X := by omega
  have hXl : X < W0.heap.size := x0.lt
  obtain ⟨KK, hKK⟩ : ∃ K : World → Prop, K = fun wz => Blk wz R 60 #[I64 0, U8V 0, .slice none 0 0, .slice none 0 0, .slice none 0 0, .slice none 0 0, .slice none 0 0] := ⟨_, rfl⟩
  have hKe : ∀ wz, KK wz → Blk wz R 60 #[I64 0, U8V 0, .slice none 0 0, .slice none 0 0, .slice none 0 0, .slice none 0 0, .slice none 0 0] := fun wz hk => by rw [hKK] at hk; exact hk
  have hKi : ∀ wz, Blk wz R 60 #[I64 0, U8V 0, .slice none 0 0, .slice none 0 0, .slice none 0 0, .slice none 0 0, .slice none 0 0] → KK wz := fun wz hk => by rw [hKK]; exact hk
  have st0 : RSt true w W0 F g X 60 KK s #[I64 0, U8V 0, .slice none 0 0, .slice none 0 0, .slice none 0 0, .slice none 0 0, .slice none 0 0] := ⟨h.fr Q0 (fun h => h) (fun _ _ h => h), x0, hKi _ r0, Nw.on Q0, hgX, fun hF => by have := hFl _ hF; omega, hwX, fun a c f hk => hKi _ ((hKe _ hk).fr f (by omega))⟩
  have HR := Lib.hid hR
  have HX := Lib.hid hX
  have HWa := Lib.hid hWa
  have HW0 := Lib.hid hW0
  clear hR hX hWa hW0 hza ra x0 r0 pa p0 hKK
  go_enter Try.func90, Try.ntmps90
  go_upto_region 2 with (fail)
  rw [← HX.out, ← HR.out, ← HWa.out, ← HW0.out]
  go_upto_region 3 with (go_at_call 61; refine (N1.out _ st0.rd).mono ?_; rintro e w1 ⟨rfl, h1⟩; have su1 := st0.callP h1; have c1 : w1.cell? ⟨X, 0, none⟩ = some (I64 0) := (by simpa using su1.x.cell 0); have f1 := su1.x.frozen 0)
  obtain ⟨W1, hW1⟩ : ∃ W, W = w1.setCell ⟨X, 0, none⟩ (I64 t) := ⟨_, rfl⟩
  have st1 : RSt true w W1 F g X 60 KK s1 #[I64 t, U8V 0, .slice none 0 0, .slice none 0 0, .slice none 0 0, .slice none 0 0, .slice none 0 0] := by rw [hW1]; exact su1.set_ 0 (I64 t)
  have HW1 := Lib.hid hW1
  rw [← HW1.out]
  clear hW1 su1 c1 f1 st0
  go_upto_region 4 with (go_at_call 61; refine (N2.out _ st1.rd).mono ?_; rintro e w2 ⟨rfl, h2⟩; have su2 := st1.callP h2; have c2 : w2.cell? ⟨X, 1, none⟩ = some (U8V 0) := (by simpa using su2.x.cell 1); have f2 := su2.x.frozen 1)
  obtain ⟨W2, hW2⟩ : ∃ W, W = w2.setCell ⟨X, 1, none⟩ (U8V k) := ⟨_, rfl⟩
  have st2 : RSt true w W2 F g X 60 KK s2 #[I64 t, U8V k, .slice none 0 0, .slice none 0 0, .slice none 0 0, .slice none 0 0, .slice none 0 0] := by rw [hW2]; exact su2.set_ 1 (U8V k)
  have HW2 := Lib.hid hW2
  rw [← HW2.out]
  clear hW2 su2 c2 f2 st1
  go_upto_region 5 with (go_at_call 92; refine (N3.out _ st2.rd).mono ?_; rintro e w3 ⟨A3, cp3, rfl, o3, h3, n3⟩; have su3 := st2.callP h3; have c3 : w3.cell? ⟨X, 2, none⟩ = some (.slice none 0 0) := (by simpa using su3.x.cell 2); have f3 := su3.x.frozen 2)
  obtain ⟨W3, hW3⟩ : ∃ W, W = w3.setCell ⟨X, 2, none⟩ (.slice A3 bl.length cp3) := ⟨_, rfl⟩
  have st3 : RSt true w W3 F g X 60 KK s3 #[I64 t, U8V k, .slice A3 bl.length cp3, .slice none 0 0, .slice none 0 0, .slice none 0 0, .slice none 0 0] := by rw [hW3]; exact su3.set_ 2 (.slice A3 bl.length cp3)
  have o3 : LsOwn w W3 5 1 bytesC ⟨A3, cp3, bl⟩ := ⟨o3.fr (S := (· = X)) (by rw [hW3]; exact (Fr.refl (· = X) _).set1 _ _) (fun j hj e => by have := n3 j hj; have := st2.x.lt; omega), fun j hj => Nat.le_trans st2.fr.size (n3 j hj)⟩
  have HW3 := Lib.hid hW3
  rw [← HW3.out]
  clear hW3 su3 c3 f3 st2
  have bu3 := st3.x.lt
  have bR3 := (hKe _ st3.k).lt
  go_wp2_with fail
  refine (N4.out _ st3.rd).mono ?_
  rintro e w4 ⟨y4, rfl, ey4, oy4, h4⟩
  have su4 := st3.callP h4
  have th4 := Blk.there (l := [I64 t, U8V k, .slice A3 bl.length cp3, .slice none 0 0, .slice none 0 0, .slice none 0 0, .slice none 0 0]) su4.x 3 4 (by show 3 + 4 ≤ 7; omega)
  have one4 := cfgA_one y4
  obtain ⟨W4, hW4⟩ : ∃ W, W = w4.setCells X 3 [.slice y4.v.a y4.v.l.length y4.v.c, .slice y4.o.a y4.o.l.length y4.o.c, .slice y4.l.a y4.l.l.length y4.l.c, .slice y4.w.a y4.w.l.length y4.w.c] := ⟨_, rfl⟩
  have m4 : Fr (· = X) w4 W4 := by rw [hW4]; exact (Fr.refl (· = X) _).setCells _ _
  have x4 : Blk W4 X 60 #[I64 t, U8V k, .slice A3 bl.length cp3, .slice y4.v.a y4.v.l.length y4.v.c, .slice y4.o.a y4.o.l.length y4.o.c, .slice y4.l.a y4.l.l.length y4.l.c, .slice y4.w.a y4.w.l.length y4.w.c] := by rw [hW4]; exact Blk.setCells (l := [I64 t, U8V k, .slice A3 bl.length cp3, .slice none 0 0, .slice none 0 0, .slice none 0 0, .slice none 0 0]) su4.x 3 [.slice y4.v.a y4.v.l.length y4.v.c, .slice y4.o.a y4.o.l.length y4.o.c, .slice y4.l.a y4.l.l.length y4.l.c, .slice y4.w.a y4.w.l.length y4.w.c]
  have r4 : Blk W4 R 60 #[I64 0, U8V 0, .slice none 0 0, .slice none 0 0, .slice none 0 0, .slice none 0 0, .slice none 0 0] := (hKe _ su4.k).fr m4 hRX
  have rd4 : IsRd W4 F g (rdCfg s3).2 := IsRd.fr su4.rd m4 hgX (fun j hj e => by have := hFl j hj; omega)
  have f4 : Fr (· = g) w W4 := su4.fr.trans m4 (fun j hj => .inr (by omega))
  have oc4 : CfgOwn W3 W4 y4 := oy4.fr m4 (fun j hj e => by omega)
  have sz3 := st3.fr.size
  have own4 : EntOwn w W4 ⟨t, k, ⟨A3, cp3, bl⟩, y4⟩ := by
    refine ⟨by show 0 ≤ k ∧ k ≤ 255; omega, (o3.fr h4.2 (fun j hj e => by have := o3.base j hj; omega)).fr m4 (fun j hj e => ?_), (oy4.fr m4 (fun j hj e => by omega)).from_ st3.fr.size⟩
    exact o3.own.ne_ (st3.x) (by decide) (e ▸ hj)
  have HW4 := Lib.hid hW4
  have cf := jfailed_any W4 F g (rdCfg s3).2 rd4
  have hsze : EntSz ⟨t, k, ⟨A3, cp3, bl⟩, y4⟩ := ⟨by show bl.length ≤ _; omega, rdCfg_sz ey4⟩
  have cj := jent W4 _ ⟨t, k, ⟨A3, cp3, bl⟩, y4⟩ own4.in_ hsze
  have hyx : (⟨t, k, ⟨A3, cp3, bl⟩, y4⟩ : EntM).x = ⟨t, k, bl, (rdCfg s3).1⟩ := by show (⟨t, k, bl, y4.x⟩ : Ent) = _; rw [ey4]
  rw [hyx] at cj
  obtain ⟨⟨cg, s4⟩, hq4⟩ : ∃ q, rdCfg s3 = q := ⟨_, rfl⟩
  have hT := HT0.out
  simp only [hq4] at cj cf rd4 hyx hT
  have HQ4 := Lib.hid hq4
  obtain ⟨ok, hok⟩ : ∃ ok, ok = entOk ⟨t, k, bl, cg⟩ := ⟨_, rfl⟩
  rw [← hok] at cj
  rw [← hok] at hT
  have lx4 := Blk.cells_at (l := [I64 t, U8V k, .slice A3 bl.length cp3, .slice y4.v.a y4.v.l.length y4.v.c, .slice y4.o.a y4.o.l.length y4.o.c, .slice y4.l.a y4.l.l.length y4.l.c, .slice y4.w.a y4.w.l.length y4.w.c]) x4 0
  clear hW4 su4 h4 oy4 ey4 st3 hq4 hok
  have HT := Lib.hid hT
  have HYX := Lib.hid hyx
  clear hT hyx
  cases s4 with
  | none =>
    have ct : Calls Try.prog 100 #[.pointer (some ⟨g, 0, none⟩)] W4 fun e w' => e = .returned (.bool true) ∧ W4 = w' := cf
    have thz := Blk.there (l := [I64 0, U8V 0, .slice none 0 0, .slice none 0 0, .slice none 0 0, .slice none 0 0, .slice none 0 0]) r4 0 7 (by show 0 + 7 ≤ 7; omega)
    have onez := entA_one entMZ
    obtain ⟨W5, hw5⟩ : ∃ W, W = W4.setCells R 0 [I64 0, U8V 0, .slice none 0 0, .slice none 0 0, .slice none 0 0, .slice none 0 0, .slice none 0 0] := ⟨_, rfl⟩
    have m5 : Fr (· = R) W4 W5 := by rw [hw5]; exact (Fr.refl (· = R) _).setCells _ _
    have r5 : Blk W5 R 60 #[I64 0, U8V 0, .slice none 0 0, .slice none 0 0, .slice none 0 0, .slice none 0 0, .slice none 0 0] := by rw [hw5]; exact Blk.setCells (l := [I64 0, U8V 0, .slice none 0 0, .slice none 0 0, .slice none 0 0, .slice none 0 0, .slice none 0 0]) r4 0 [I64 0, U8V 0, .slice none 0 0, .slice none 0 0, .slice none 0 0, .slice none 0 0, .slice none 0 0]
    have own5 := EntOwn.zero w W5
    have res : EntOwn w W5 entMZ ∧ RdTo w F g none W5 := ⟨own5, rd4.fr m5 (fun e => by omega) (fun j hj e => by have := hFl j hj; omega), f4.trans m5 (fun j hj => .inr (by omega))⟩
    have HW5 := Lib.hid hw5
    have HRES := Lib.hid res
    clear own5 res hw5
    go_wp2_with (first | (refine wpList_store_mid rfl 35 _ _ rfl X 3 #[.slice y4.v.a y4.v.l.length y4.v.c, .slice y4.o.a y4.o.l.length y4.o.c, .slice y4.l.a y4.l.l.length y4.l.c, .slice y4.w.a y4.w.l.length y4.w.c] rfl rfl th4 (by kernel_rfl) one4 ?_; rw [← HW4.out]))
    refine ct.mono ?_
    rintro e w5 ⟨rfl, rfl⟩
    go_wp2_with (refine wpList_store_mid rfl 60 _ _ rfl R 0 #[I64 0, U8V 0, .slice none 0 0, .slice none 0 0, .slice none 0 0, .slice none 0 0, .slice none 0 0] rfl rfl thz (by kernel_rfl) onez ?_; rw [← HW5.out])
    refine bodyPost_ret (v := .tuple #[.agg #[I64 0, U8V 0, .slice none 0 0, .slice none 0 0, .slice none 0 0, .slice none 0 0, .slice none 0 0], .bool false]) ?_ rfl ?_
    · exact results_cell_tmp_row rfl _ _ R 60 _ (0, 0) _ _ rfl rfl r5 Try.underlying60 rfl (by kernel_rfl)
    obtain ⟨h1, h2⟩ := HRES.out
    have hT : (qe, qd) = (entZ, false) := HT.out
    obtain ⟨rfl, rfl⟩ := Prod.mk.inj hT
    exact ⟨entMZ, rfl, rfl, h1, by rw [HQ4.out]; exact h2⟩
  | some r =>
    have ct : Calls Try.prog 100 #[.pointer (some ⟨g, 0, none⟩)] W4 fun e w' => e = .returned (.bool false) ∧ W4 = w' := cf
    go_wp2_with (first | (refine wpList_store_mid rfl 35 _ _ rfl X 3 #[.slice y4.v.a y4.v.l.length y4.v.c, .slice y4.o.a y4.o.l.length y4.o.c, .slice y4.l.a y4.l.l.length y4.l.c, .slice y4.w.a y4.w.l.length y4.w.c] rfl rfl th4 (by kernel_rfl) one4 ?_; rw [← HW4.out]))
    refine ct.mono ?_
    rintro e w5 ⟨rfl, rfl⟩
    go_wp2_with (refine wl_cells_want (by kernel_rfl) 60 _ rfl X 0 rfl [I64 t, U8V k, .slice A3 bl.length cp3, .slice y4.v.a y4.v.l.length y4.v.c, .slice y4.o.a y4.o.l.length y4.o.c, .slice y4.l.a y4.l.l.length y4.l.c, .slice y4.w.a y4.w.l.length y4.w.c] _ lx4 Try.underlying60 rfl (by kernel_rfl) ?_)
    refine cj.mono ?_
    rintro e v5 ⟨rfl, p5⟩
    have r4' := r4.fr p5 (fun h => h)
    have rd4' : IsRd v5 F g (some r) := IsRd.fr rd4 p5 (fun h => h) (fun _ _ h => h)
    have f4' : Fr (· = g) w v5 := f4.trans p5 (fun j hj => hj.elim)
    cases ok with
    | false =>
      have thz := Blk.there (l := [I64 0, U8V 0, .slice none 0 0, .slice none 0 0, .slice none 0 0, .slice none 0 0, .slice none 0 0]) r4' 0 7 (by show 0 + 7 ≤ 7; omega)
      have onez := entA_one entMZ
      obtain ⟨W5, hw5⟩ : ∃ W, W = v5.setCells R 0 [I64 0, U8V 0, .slice none 0 0, .slice none 0 0, .slice none 0 0, .slice none 0 0, .slice none 0 0] := ⟨_, rfl⟩
      have m5 : Fr (· = R) v5 W5 := by rw [hw5]; exact (Fr.refl (· = R) _).setCells _ _
      have r5 : Blk W5 R 60 #[I64 0, U8V 0, .slice none 0 0, .slice none 0 0, .slice none 0 0, .slice none 0 0, .slice none 0 0] := by rw [hw5]; exact Blk.setCells (l := [I64 0, U8V 0, .slice none 0 0, .slice none 0 0, .slice none 0 0, .slice none 0 0, .slice none 0 0]) r4' 0 [I64 0, U8V 0, .slice none 0 0, .slice none 0 0, .slice none 0 0, .slice none 0 0, .slice none 0 0]
      have own5 := EntOwn.zero w W5
      have res : EntOwn w W5 entMZ ∧ RdTo w F g (some r) W5 := ⟨own5, rd4'.fr m5 (fun e => by omega) (fun j hj e => by have := hFl j hj; omega), f4'.trans m5 (fun j hj => .inr (by omega))⟩
      have HW5 := Lib.hid hw5
      have HRES := Lib.hid res
      clear own5 res hw5
      go_wp2_with (refine wpList_store_mid rfl 60 _ _ rfl R 0 #[I64 0, U8V 0, .slice none 0 0, .slice none 0 0, .slice none 0 0, .slice none 0 0, .slice none 0 0] rfl rfl thz (by kernel_rfl) onez ?_; rw [← HW5.out])
      refine bodyPost_ret (v := .tuple #[.agg #[I64 0, U8V 0, .slice none 0 0, .slice none 0 0, .slice none 0 0, .slice none 0 0, .slice none 0 0], .bool false]) ?_ rfl ?_
      · exact results_cell_tmp_row rfl _ _ R 60 _ (0, 0) _ _ rfl rfl r5 Try.underlying60 rfl (by kernel_rfl)
      obtain ⟨h1, h2⟩ := HRES.out
      have hT : (qe, qd) = (entZ, false) := HT.out
      obtain ⟨rfl, rfl⟩ := Prod.mk.inj hT
      exact ⟨entMZ, rfl, rfl, h1, by rw [HQ4.out]; exact h2⟩
    | true =>
      have x5 := x4.fr p5 (fun h => h)
      have lx5 := Blk.cells_at (l := [I64 t, U8V k, .slice A3 bl.length cp3, .slice y4.v.a y4.v.l.length y4.v.c, .slice y4.o.a y4.o.l.length y4.o.c, .slice y4.l.a y4.l.l.length y4.l.c, .slice y4.w.a y4.w.l.length y4.w.c]) x5 0
      have own4' := own4.fr p5 (fun _ _ h => h)
      have thz := Blk.there (l := [I64 0, U8V 0, .slice none 0 0, .slice none 0 0, .slice none 0 0, .slice none 0 0, .slice none 0 0]) r4' 0 7 (by show 0 + 7 ≤ 7; omega)
      have onez := entA_one ⟨t, k, ⟨A3, cp3, bl⟩, y4⟩
      obtain ⟨W5, hw5⟩ : ∃ W, W = v5.setCells R 0 [I64 t, U8V k, .slice A3 bl.length cp3, .slice y4.v.a y4.v.l.length y4.v.c, .slice y4.o.a y4.o.l.length y4.o.c, .slice y4.l.a y4.l.l.length y4.l.c, .slice y4.w.a y4.w.l.length y4.w.c] := ⟨_, rfl⟩
      have m5 : Fr (· = R) v5 W5 := by rw [hw5]; exact (Fr.refl (· = R) _).setCells _ _
      have r5 : Blk W5 R 60 #[I64 t, U8V k, .slice A3 bl.length cp3, .slice y4.v.a y4.v.l.length y4.v.c, .slice y4.o.a y4.o.l.length y4.o.c, .slice y4.l.a y4.l.l.length y4.l.c, .slice y4.w.a y4.w.l.length y4.w.c] := by rw [hw5]; exact Blk.setCells (l := [I64 0, U8V 0, .slice none 0 0, .slice none 0 0, .slice none 0 0, .slice none 0 0, .slice none 0 0]) r4' 0 [I64 t, U8V k, .slice A3 bl.length cp3, .slice y4.v.a y4.v.l.length y4.v.c, .slice y4.o.a y4.o.l.length y4.o.c, .slice y4.l.a y4.l.l.length y4.l.c, .slice y4.w.a y4.w.l.length y4.w.c]
      have own5 : EntOwn w W5 ⟨t, k, ⟨A3, cp3, bl⟩, y4⟩ := by
        refine ⟨own4'.kind, own4'.cmd.fr m5 (fun j hj e => own4'.cmd.own.ne_ r4' (by decide) (e ▸ hj)), ((oc4.fr p5 (fun _ _ h => h)).fr m5 (fun j hj e => by omega)).from_ sz3⟩
      have res : EntOwn w W5 ⟨t, k, ⟨A3, cp3, bl⟩, y4⟩ ∧ RdTo w F g (some r) W5 := ⟨own5, rd4'.fr m5 (fun e => by omega) (fun j hj e => by have := hFl j hj; omega), f4'.trans m5 (fun j hj => .inr (by omega))⟩
      have HW5 := Lib.hid hw5
      have HRES := Lib.hid res
      clear own5 res hw5 own4'
      go_wp2_with (first | (refine wl_load_cells rfl 60 _ rfl X 0 rfl [I64 t, U8V k, .slice A3 bl.length cp3, .slice y4.v.a y4.v.l.length y4.v.c, .slice y4.o.a y4.o.l.length y4.o.c, .slice y4.l.a y4.l.l.length y4.l.c, .slice y4.w.a y4.w.l.length y4.w.c] _ lx5 Try.underlying60 rfl (by kernel_rfl) ?_) | (refine wpList_store_mid rfl 60 _ _ rfl R 0 #[I64 t, U8V k, .slice A3 bl.length cp3, .slice y4.v.a y4.v.l.length y4.v.c, .slice y4.o.a y4.o.l.length y4.o.c, .slice y4.l.a y4.l.l.length y4.l.c, .slice y4.w.a y4.w.l.length y4.w.c] rfl rfl thz (by kernel_rfl) onez ?_; rw [← HW5.out]))
      refine bodyPost_ret (v := .tuple #[.agg #[I64 t, U8V k, .slice A3 bl.length cp3, .slice y4.v.a y4.v.l.length y4.v.c, .slice y4.o.a y4.o.l.length y4.o.c, .slice y4.l.a y4.l.l.length y4.l.c, .slice y4.w.a y4.w.l.length y4.w.c], .bool true]) ?_ rfl ?_
      · exact results_cell_tmp_row rfl _ _ R 60 _ (0, 0) _ _ rfl rfl r5 Try.underlying60 rfl (by kernel_rfl)
      obtain ⟨h1, h2⟩ := HRES.out
      have hT : (qe, qd) = ((⟨t, k, bl, cg⟩ : Ent), true) := HT.out
      obtain ⟨rfl, rfl⟩ := Prod.mk.inj hT
      exact ⟨⟨t, k, ⟨A3, cp3, bl⟩, y4⟩, rfl, by rw [HYX.out], h1, by rw [HQ4.out]; exact h2⟩
end Go.Proofs.Ytippdjaakcgeoaa
namespace Go.Proofs.Ytippdjaakcgeoaa
open Go Go.RowKit
set_option linter.unusedVariables false
set_option linter.unusedSimpArgs false
theorem bas_part3 (x : BasM) : basOk x.x = (decide (0 ≤ x.index ∧ x.index ≤ 1073741824) && (decide (0 ≤ x.term ∧ x.term ≤ 1073741824) && cfgOk x.cfg.x)) := by
  rw [bas_parts, Bool.decide_and, Bool.decide_and]
  simp only [Bool.and_assoc]
set_option maxRecDepth 100000 in
theorem jbas (w : World) (F : Nat → Prop) (x : BasM) (hx : CfgIn w F x.cfg) (hz : CfgSz x.cfg) :
    Calls Try.prog 101 #[.agg (basA x)] w fun e w' => e = .returned (.bool (basOk x.x)) ∧ Nw w w' := by
  obtain ⟨W0, hW0⟩ : ∃ W, W = w.alloc (.cells (basA x) 37) := ⟨_, rfl⟩
  have p0 : Nw w W0 := by rw [hW0]; exact (Fr.refl (fun _ => False) _).alloc _
  have b0 : Blk W0 w.heap.size 37 (basA x) := by rw [hW0]; exact Blk.new _ _ _
  have k0 : W0.cell? ⟨w.heap.size, 0, none⟩ = some (I64 x.index) := by simpa using b0.cell 0
  have k1 : W0.cell? ⟨w.heap.size, 1, none⟩ = some (I64 x.term) := by simpa using b0.cell 1
  have kc : ∀ p u, ([.slice x.cfg.v.a x.cfg.v.l.length x.cfg.v.c, .slice x.cfg.o.a x.cfg.o.l.length x.cfg.o.c, .slice x.cfg.l.a x.cfg.l.l.length x.cfg.l.c, .slice x.cfg.w.a x.cfg.w.l.length x.cfg.w.c] : List Value)[p]? = some u → W0.cell? ⟨w.heap.size, 2 + p, none⟩ = some u := Blk.cells_in (l := [I64 x.index, I64 x.term, .slice x.cfg.v.a x.cfg.v.l.length x.cfg.v.c, .slice x.cfg.o.a x.cfg.o.l.length x.cfg.o.c, .slice x.cfg.l.a x.cfg.l.l.length x.cfg.l.c, .slice x.cfg.w.a x.cfg.w.l.length x.cfg.w.c]) b0 2 4
  have hcon := jcfg W0 F x.cfg (hx.nw p0) hz
  have c1 := jwithin_any W0 x.index 1073741824
  have c2 := jwithin_any W0 x.term 1073741824
  rw [bas_part3]
  obtain ⟨a, ha⟩ : ∃ d, decide (0 ≤ x.index ∧ x.index ≤ 1073741824) = d := ⟨_, rfl⟩
  obtain ⟨b, hb⟩ : ∃ d, decide (0 ≤ x.term ∧ x.term ≤ 1073741824) = d := ⟨_, rfl⟩
  obtain ⟨d, hd⟩ : ∃ d, cfgOk x.cfg.x = d := ⟨_, rfl⟩
  rw [ha] at c1
  rw [hb] at c2
  rw [hd] at hcon
  rw [ha, hb, hd]
  have HW0 := Lib.hid hW0
  clear hW0 ha hb hd b0
  cases a with
  | false =>
    go_enter Try.func101, Try.ntmps101
    go_upto_region 1 with (fail)
    rw [← HW0.out]
    go_wp2_with fail
    refine c1.mono ?_
    rintro e w1 ⟨rfl, rfl⟩
    go_wp2_with fail
    go_ret
    exact ⟨rfl, p0⟩
  | true =>
    cases b with
    | false =>
      go_enter Try.func101, Try.ntmps101
      go_upto_region 1 with (fail)
      rw [← HW0.out]
      go_wp2_with fail
      refine c1.mono ?_
      rintro e w1 ⟨rfl, rfl⟩
      go_wp2_with fail
      refine c2.mono ?_
      rintro e w1 ⟨rfl, rfl⟩
      go_wp2_with fail
      go_ret
      exact ⟨rfl, p0⟩
    | true =>
      go_enter Try.func101, Try.ntmps101
      go_upto_region 1 with (fail)
      rw [← HW0.out]
      go_wp2_with fail
      refine c1.mono ?_
      rintro e w1 ⟨rfl, rfl⟩
      go_wp2_with fail
      refine c2.mono ?_
      rintro e w1 ⟨rfl, rfl⟩
      go_wp2_with (refine wl_cells_want (by kernel_rfl) 35 _ rfl w.heap.size 2 rfl [.slice x.cfg.v.a x.cfg.v.l.length x.cfg.v.c, .slice x.cfg.o.a x.cfg.o.l.length x.cfg.o.c, .slice x.cfg.l.a x.cfg.l.l.length x.cfg.l.c, .slice x.cfg.w.a x.cfg.w.l.length x.cfg.w.c] _ kc Try.underlying35 rfl (by kernel_rfl) ?_)
      refine hcon.mono ?_
      rintro e w1 ⟨rfl, q1⟩
      go_wp2_with fail
      go_ret
      exact ⟨ret_eq (congrArg Value.bool (by simp)), p0.tr q1⟩
theorem CfgOwn.zero (w0 w : World) : CfgOwn w0 w cfgMZ := (EntOwn.zero w0 w).cfg
set_option maxRecDepth 100000 in
set_option maxHeartbeats 8000000 in
theorem jreadBase_any (w : World) (F : Nat → Prop) (g : Nat) (s : Rd) (h : IsRd w F g s) :
    Calls Try.prog 91 #[.pointer (some ⟨g, 0, none⟩)] w fun e w' => ∃ y : BasM, e = .returned (.tuple #[.agg (basA y), .bool (rdBas s).2]) ∧ y.x = (rdBas s).1 ∧ CfgOwn w w' y.cfg ∧ RdTo w F g (rdBas0 s).2 w' := by
  have hE : rdBas0 s = (⟨(rdNum 1073741824 s).1, (rdNum 1073741824 (rdNum 1073741824 s).2).1, (rdCfg (rdNum 1073741824 (rdNum 1073741824 s).2).2).1⟩, (rdCfg (rdNum 1073741824 (rdNum 1073741824 s).2).2).2) := rfl
  have hT : rdBas s = if ((rdBas0 s).2.isSome && basOk (rdBas0 s).1) = true then ((rdBas0 s).1, true) else (basZ, false) := rfl
  obtain ⟨⟨qe, qd⟩, hqq⟩ : ∃ q, rdBas s = q := ⟨_, rfl⟩
  rw [hqq, hE]
  rw [hqq, hE] at hT
  clear hqq hE
  have n1 := fun w1 h1 => rdnumber_any w1 F g s h1 1073741824
  obtain ⟨⟨t, s1⟩, hq1⟩ : ∃ q, rdNum 1073741824 s = q := ⟨_, rfl⟩
  simp only [hq1] at n1 hT ⊢
  have n2 := fun w1 h1 => rdnumber_any w1 F g s1 h1 1073741824
  obtain ⟨⟨u, s2⟩, hq2⟩ : ∃ q, rdNum 1073741824 s1 = q := ⟨_, rfl⟩
  simp only [hq2] at n2 hT ⊢
  have n3 := fun w1 h1 => jreadConfig_any w1 F g s2 h1
  have N1 := Lib.hid n1
  have N2 := Lib.hid n2
  have N3 := Lib.hid n3
  have HT0 := Lib.hid hT
  clear hT n1 n2 n3 hq1 hq2
  obtain ⟨R, hR⟩ : ∃ X, X = w.heap.size := ⟨_, rfl⟩
  obtain ⟨X, hX⟩ : ∃ Y, Y = w.heap.size + 1 := ⟨_, rfl⟩
  obtain ⟨Wa, hWa⟩ : ∃ W, W = w.alloc (.cells #[I64 0, I64 0, .slice none 0 0, .slice none 0 0, .slice none 0 0, .slice none 0 0] 37) := ⟨_, rfl⟩
  have pa : Nw w Wa := by rw [hWa]; exact (Fr.refl (fun _ => False) _).alloc _
  have ra : Blk Wa R 37 #[I64 0, I64 0, .slice none 0 0, .slice none 0 0, .slice none 0 0, .slice none 0 0] := by rw [hWa, hR]; exact Blk.new _ _ _
  have hza : Wa.heap.size = X := by rw [hWa, hX]; simp
  obtain ⟨W0, hW0⟩ : ∃ W, W = Wa.alloc (.cells #[I64 0, I64 0, .slice none 0 0, .slice none 0 0, .slice none 0 0, .slice none 0 0] 37) := ⟨_, rfl⟩
  have p0 : Nw Wa W0 := by rw [hW0]; exact (Fr.refl (fun _ => False) _).alloc _
  have x0 : Blk W0 X 37 #[I64 0, I64 0, .slice none 0 0, .slice none 0 0, .slice none 0 0, .slice none 0 0] := by rw [hW0, ← hza]; exact Blk.new _ _ _
  have r0 := ra.fr p0 (fun h => h)
  have Q0 : Nw w W0 := pa.tr p0
  have hgl := h.lt
  have hFl := h.out.2
  have hRX : R ≠ X := by omega
  have hgX : g ≠ X := by omega
  have hwR : w.heap.size ≤ R := by omega
  have hwX : w.heap.size ≤ X := by omega
  have hXl : X < W0.heap.size := x0.lt
  obtain ⟨KK, hKK⟩ : ∃ K : World → Prop, K = fun wz => Blk wz R 37 #[I64 0, I64 0, .slice none 0 0, .slice none 0 0, .slice none 0 0, .slice none 0 0] := ⟨_, rfl⟩
  have hKe : ∀ wz, KK wz → Blk wz R 37 #[I64 0, I64 0, .slice none 0 0, .slice none 0 0, .slice none 0 0, .slice none 0 0] := fun wz hk => by rw [hKK] at hk; exact hk
  have hKi : ∀ wz, Blk wz R 37 #[I64 0, I64 0, .slice none 0 0, .slice none 0 0, .slice none 0 0, .slice none 0 0] → KK wz := fun wz hk => by rw [hKK]; exact hk
  have st0 : RSt true w W0 F g X 37 KK s #[I64 0, I64 0, .slice none 0 0, .slice none 0 0, .slice none 0 0, .slice none 0 0] := ⟨h.fr Q0 (fun h => h) (fun _ _ h => h), x0, hKi _ r0, Nw.on Q0, hgX, fun hF => by have := hFl _ hF; omega, hwX, fun a c f hk => hKi _ ((hKe _ hk).fr f (by omega))⟩
  have HR := Lib.hid hR
  have HX := Lib.hid hX
  have HWa := Lib.hid hWa
  have HW0 := Lib.hid hW0
  clear hR hX hWa hW0 hza ra x0 r0 pa p0 hKK
  go_enter Try.func91, Try.ntmps91
  go_upto_region 2 with (fail)
  rw [← HX.out, ← HR.out, ← HWa.out, ← HW0.out]
  go_upto_region 3 with (go_at_call 61; refine (N1.out _ st0.rd).mono ?_; rintro e w1 ⟨rfl, h1⟩; have su1 := st0.callP h1; have c1 : w1.cell? ⟨X, 0, none⟩ = some (I64 0) := (by simpa using su1.x.cell 0); have f1 := su1.x.frozen 0)
  obtain ⟨W1, hW1⟩ : ∃ W, W = w1.setCell ⟨X, 0, none⟩ (I64 t) := ⟨_, rfl⟩
  have st1 : RSt true w W1 F g X 37 KK s1 #[I64 t, I64 0, .slice none 0 0, .slice none 0 0, .slice none 0 0, .slice none 0 0] := by rw [hW1]; exact su1.set_ 0 (I64 t)
  have HW1 := Lib.hid hW1
  rw [← HW1.out]
  clear hW1 su1 c1 f1 st0
  go_upto_region 4 with (go_at_call 61; refine (N2.out _ st1.rd).mono ?_; rintro e w2 ⟨rfl, h2⟩; have su2 := st1.callP h2; have c2 : w2.cell? ⟨X, 1, none⟩ = some (I64 0) := (by simpa using su2.x.cell 1); have f2 := su2.x.frozen 1)
  obtain ⟨W2, hW2⟩ : ∃ W, W = w2.setCell ⟨X, 1, none⟩ (I64 u) := ⟨_, rfl⟩
  have st2 : RSt true w W2 F g X 37 KK s2 #[I64 t, I64 u, .slice none 0 0, .slice none 0 0, .slice none 0 0, .slice none 0 0] := by rw [hW2]; exact su2.set_ 1 (I64 u)
  have HW2 := Lib.hid hW2
  rw [← HW2.out]
  clear hW2 su2 c2 f2 st1
  have bu3 := st2.x.lt
  have bR3 := (hKe _ st2.k).lt
  go_wp2_with fail
  refine (N3.out _ st2.rd).mono ?_
  rintro e w4 ⟨y4, rfl, ey4, oy4, h4⟩
  have su4 := st2.callP h4
  have th4 := Blk.there (l := [I64 t, I64 u, .slice none 0 0, .slice none 0 0, .slice none 0 0, .slice none 0 0]) su4.x 2 4 (by show 2 + 4 ≤ 6; omega)
  have one4 := cfgA_one y4
  obtain ⟨W4, hW4⟩ : ∃ W, W = w4.setCells X 2 [.slice y4.v.a y4.v.l.length y4.v.c, .slice y4.o.a y4.o.l.length y4.o.c, .slice y4.l.a y4.l.l.length y4.l.c, .slice y4.w.a y4.w.l.length y4.w.c] := ⟨_, rfl⟩
  have m4 : Fr (· = X) w4 W4 := by rw [hW4]; exact (Fr.refl (· = X) _).setCells _ _
  have x4 : Blk W4 X 37 #[I64 t, I64 u, .slice y4.v.a y4.v.l.length y4.v.c, .slice y4.o.a y4.o.l.length y4.o.c, .slice y4.l.a y4.l.l.length y4.l.c, .slice y4.w.a y4.w.l.length y4.w.c] := by rw [hW4]; exact Blk.setCells (l := [I64 t, I64 u, .slice none 0 0, .slice none 0 0, .slice none 0 0, .slice none 0 0]) su4.x 2 [.slice y4.v.a y4.v.l.length y4.v.c, .slice y4.o.a y4.o.l.length y4.o.c, .slice y4.l.a y4.l.l.length y4.l.c, .slice y4.w.a y4.w.l.length y4.w.c]
  have r4 : Blk W4 R 37 #[I64 0, I64 0, .slice none 0 0, .slice none 0 0, .slice none 0 0, .slice none 0 0] := (hKe _ su4.k).fr m4 hRX
  have rd4 : IsRd W4 F g (rdCfg s2).2 := IsRd.fr su4.rd m4 hgX (fun j hj e => by have := hFl j hj; omega)
  have f4 : Fr (· = g) w W4 := su4.fr.trans m4 (fun j hj => .inr (by omega))
  have oc4 : CfgOwn W2 W4 y4 := oy4.fr m4 (fun j hj e => by omega)
  have sz3 := st2.fr.size
  have own4 : CfgOwn w W4 y4 := oc4.from_ sz3
  have HW4 := Lib.hid hW4
  have cf := jfailed_any W4 F g (rdCfg s2).2 rd4
  have cj := jbas W4 _ ⟨t, u, y4⟩ own4.in_ (rdCfg_sz ey4)
  have hyx : (⟨t, u, y4⟩ : BasM).x = ⟨t, u, (rdCfg s2).1⟩ := by show (⟨t, u, y4.x⟩ : Bas) = _; rw [ey4]
  rw [hyx] at cj
  obtain ⟨⟨cg, s4⟩, hq4⟩ : ∃ q, rdCfg s2 = q := ⟨_, rfl⟩
  have hT := HT0.out
  simp only [hq4] at cj cf rd4 hyx hT
  have HQ4 := Lib.hid hq4
  obtain ⟨ok, hok⟩ : ∃ ok, ok = basOk ⟨t, u, cg⟩ := ⟨_, rfl⟩
  rw [← hok] at cj
  rw [← hok] at hT
  have lx4 := Blk.cells_at (l := [I64 t, I64 u, .slice y4.v.a y4.v.l.length y4.v.c, .slice y4.o.a y4.o.l.length y4.o.c, .slice y4.l.a y4.l.l.length y4.l.c, .slice y4.w.a y4.w.l.length y4.w.c]) x4 0
  clear hW4 su4 h4 oy4 ey4 st2 hq4 hok
  have HT := Lib.hid hT
  have HYX := Lib.hid hyx
  clear hT hyx
  cases s4 with
  | none =>
    have ct : Calls Try.prog 100 #[.pointer (some ⟨g, 0, none⟩)] W4 fun e w' => e = .returned (.bool true) ∧ W4 = w' := cf
    have thz := Blk.there (l := [I64 0, I64 0, .slice none 0 0, .slice none 0 0, .slice none 0 0, .slice none 0 0]) r4 0 6 (by show 0 + 6 ≤ 6; omega)
    have onez := basA_one basMZ
    obtain ⟨W5, hw5⟩ : ∃ W, W = W4.setCells R 0 [I64 0, I64 0, .slice none 0 0, .slice none 0 0, .slice none 0 0, .slice none 0 0] := ⟨_, rfl⟩
    have m5 : Fr (· = R) W4 W5 := by rw [hw5]; exact (Fr.refl (· = R) _).setCells _ _
    have r5 : Blk W5 R 37 #[I64 0, I64 0, .slice none 0 0, .slice none 0 0, .slice none 0 0, .slice none 0 0] := by rw [hw5]; exact Blk.setCells (l := [I64 0, I64 0, .slice none 0 0, .slice none 0 0, .slice none 0 0, .slice none 0 0]) r4 0 [I64 0, I64 0, .slice none 0 0, .slice none 0 0, .slice none 0 0, .slice none 0 0]
    have own5 := CfgOwn.zero w W5
    have res : CfgOwn w W5 cfgMZ ∧ RdTo w F g none W5 := ⟨own5, rd4.fr m5 (fun e => by omega) (fun j hj e => by have := hFl j hj; omega), f4.trans m5 (fun j hj => .inr (by omega))⟩
    have HW5 := Lib.hid hw5
    have HRES := Lib.hid res
    clear own5 res hw5
    go_wp2_with (first | (refine wpList_store_mid rfl 35 _ _ rfl X 2 #[.slice y4.v.a y4.v.l.length y4.v.c, .slice y4.o.a y4.o.l.length y4.o.c, .slice y4.l.a y4.l.l.length y4.l.c, .slice y4.w.a y4.w.l.length y4.w.c] rfl rfl th4 (by kernel_rfl) one4 ?_; rw [← HW4.out]))
    refine ct.mono ?_
    rintro e w5 ⟨rfl, rfl⟩
    go_wp2_with (refine wpList_store_mid rfl 37 _ _ rfl R 0 #[I64 0, I64 0, .slice none 0 0, .slice none 0 0, .slice none 0 0, .slice none 0 0] rfl rfl thz (by kernel_rfl) onez ?_; rw [← HW5.out])
    refine bodyPost_ret (v := .tuple #[.agg #[I64 0, I64 0, .slice none 0 0, .slice none 0 0, .slice none 0 0, .slice none 0 0], .bool false]) ?_ rfl ?_
    · exact results_cell_tmp_row rfl _ _ R 37 _ (0, 0) _ _ rfl rfl r5 Try.underlying37 rfl (by kernel_rfl)
    obtain ⟨h1, h2⟩ := HRES.out
    have hT : (qe, qd) = (basZ, false) := HT.out
    obtain ⟨rfl, rfl⟩ := Prod.mk.inj hT
    exact ⟨basMZ, rfl, rfl, h1, by rw [HQ4.out]; exact h2⟩
  | some r =>
    have ct : Calls Try.prog 100 #[.pointer (some ⟨g, 0, none⟩)] W4 fun e w' => e = .returned (.bool false) ∧ W4 = w' := cf
    go_wp2_with (first | (refine wpList_store_mid rfl 35 _ _ rfl X 2 #[.slice y4.v.a y4.v.l.length y4.v.c, .slice y4.o.a y4.o.l.length y4.o.c, .slice y4.l.a y4.l.l.length y4.l.c, .slice y4.w.a y4.w.l.length y4.w.c] rfl rfl th4 (by kernel_rfl) one4 ?_; rw [← HW4.out]))
    refine ct.mono ?_
    rintro e w5 ⟨rfl, rfl⟩
    go_wp2_with (refine wl_cells_want (by kernel_rfl) 37 _ rfl X 0 rfl [I64 t, I64 u, .slice y4.v.a y4.v.l.length y4.v.c, .slice y4.o.a y4.o.l.length y4.o.c, .slice y4.l.a y4.l.l.length y4.l.c, .slice y4.w.a y4.w.l.length y4.w.c] _ lx4 Try.underlying37 rfl (by kernel_rfl) ?_)
    refine cj.mono ?_
    rintro e v5 ⟨rfl, p5⟩
    have r4' := r4.fr p5 (fun h => h)
    have rd4' : IsRd v5 F g (some r) := IsRd.fr rd4 p5 (fun h => h) (fun _ _ h => h)
    have f4' : Fr (· = g) w v5 := f4.trans p5 (fun j hj => hj.elim)
    cases ok with
    | false =>
      have thz := Blk.there (l := [I64 0, I64 0, .slice none 0 0, .slice none 0 0, .slice none 0 0, .slice none 0 0]) r4' 0 6 (by show 0 + 6 ≤ 6; omega)
      have onez := basA_one basMZ
      obtain ⟨W5, hw5⟩ : ∃ W, W = v5.setCells R 0 [I64 0, I64 0, .slice none 0 0, .slice none 0 0, .slice none 0 0, .slice none 0 0] := ⟨_, rfl⟩
      have m5 : Fr (· = R) v5 W5 := by rw [hw5]; exact (Fr.refl (· = R) _).setCells _ _
      have r5 : Blk W5 R 37 #[I64 0, I64 0, .slice none 0 0, .slice none 0 0, .slice none 0 0, .slice none 0 0] := by rw [hw5]; exact Blk.setCells (l := [I64 0, I64 0, .slice none 0 0, .slice none 0 0, .slice none 0 0, .slice none 0 0]) r4' 0 [I64 0, I64 0, .slice none 0 0, .slice none 0 0, .slice none 0 0, .slice none 0 0]
      have own5 := CfgOwn.zero w W5
      have res : CfgOwn w W5 cfgMZ ∧ RdTo w F g (some r) W5 := ⟨own5, rd4'.fr m5 (fun e => by omega) (fun j hj e => by have := hFl j hj; omega), f4'.trans m5 (fun j hj => .inr (by omega))⟩
      have HW5 := Lib.hid hw5
      have HRES := Lib.hid res
      clear own5 res hw5
      go_wp2_with (refine wpList_store_mid rfl 37 _ _ rfl R 0 #[I64 0, I64 0, .slice none 0 0, .slice none 0 0, .slice none 0 0, .slice none 0 0] rfl rfl thz (by kernel_rfl) onez ?_; rw [← HW5.out])
      refine bodyPost_ret (v := .tuple #[.agg #[I64 0, I64 0, .slice none 0 0, .slice none 0 0, .slice none 0 0, .slice none 0 0], .bool false]) ?_ rfl ?_
      · exact results_cell_tmp_row rfl _ _ R 37 _ (0, 0) _ _ rfl rfl r5 Try.underlying37 rfl (by kernel_rfl)
      obtain ⟨h1, h2⟩ := HRES.out
      have hT : (qe, qd) = (basZ, false) := HT.out
      obtain ⟨rfl, rfl⟩ := Prod.mk.inj hT
      exact ⟨basMZ, rfl, rfl, h1, by rw [HQ4.out]; exact h2⟩
    | true =>
      have x5 := x4.fr p5 (fun h => h)
      have lx5 := Blk.cells_at (l := [I64 t, I64 u, .slice y4.v.a y4.v.l.length y4.v.c, .slice y4.o.a y4.o.l.length y4.o.c, .slice y4.l.a y4.l.l.length y4.l.c, .slice y4.w.a y4.w.l.length y4.w.c]) x5 0
      have own4' := own4.fr p5 (fun _ _ h => h)
      have thz := Blk.there (l := [I64 0, I64 0, .slice none 0 0, .slice none 0 0, .slice none 0 0, .slice none 0 0]) r4' 0 6 (by show 0 + 6 ≤ 6; omega)
      have onez := basA_one ⟨t, u, y4⟩
      obtain ⟨W5, hw5⟩ : ∃ W, W = v5.setCells R 0 [I64 t, I64 u, .slice y4.v.a y4.v.l.length y4.v.c, .slice y4.o.a y4.o.l.length y4.o.c, .slice y4.l.a y4.l.l.length y4.l.c, .slice y4.w.a y4.w.l.length y4.w.c] := ⟨_, rfl⟩
      have m5 : Fr (· = R) v5 W5 := by rw [hw5]; exact (Fr.refl (· = R) _).setCells _ _
      have r5 : Blk W5 R 37 #[I64 t, I64 u, .slice y4.v.a y4.v.l.length y4.v.c, .slice y4.o.a y4.o.l.length y4.o.c, .slice y4.l.a y4.l.l.length y4.l.c, .slice y4.w.a y4.w.l.length y4.w.c] := by rw [hw5]; exact Blk.setCells (l := [I64 0, I64 0, .slice none 0 0, .slice none 0 0, .slice none 0 0, .slice none 0 0]) r4' 0 [I64 t, I64 u, .slice y4.v.a y4.v.l.length y4.v.c, .slice y4.o.a y4.o.l.length y4.o.c, .slice y4.l.a y4.l.l.length y4.l.c, .slice y4.w.a y4.w.l.length y4.w.c]
      have own5 : CfgOwn w W5 y4 := ((oc4.fr p5 (fun _ _ h => h)).fr m5 (fun j hj e => by omega)).from_ sz3
      have res : CfgOwn w W5 y4 ∧ RdTo w F g (some r) W5 := ⟨own5, rd4'.fr m5 (fun e => by omega) (fun j hj e => by have := hFl j hj; omega), f4'.trans m5 (fun j hj => .inr (by omega))⟩
      have HW5 := Lib.hid hw5
      have HRES := Lib.hid res
      clear own5 res hw5 own4'
      go_wp2_with (first | (refine wl_load_cells rfl 37 _ rfl X 0 rfl [I64 t, I64 u, .slice y4.v.a y4.v.l.length y4.v.c, .slice y4.o.a y4.o.l.length y4.o.c, .slice y4.l.a y4.l.l.length y4.l.c, .slice y4.w.a y4.w.l.length y4.w.c] _ lx5 Try.underlying37 rfl (by kernel_rfl) ?_) | (refine wpList_store_mid rfl 37 _ _ rfl R 0 #[I64 t, I64 u, .slice y4.v.a y4.v.l.length y4.v.c, .slice y4.o.a y4.o.l.length y4.o.c, .slice y4.l.a y4.l.l.length y4.l.c, .slice y4.w.a y4.w.l.length y4.w.c] rfl rfl thz (by kernel_rfl) onez ?_; rw [← HW5.out]))
      refine bodyPost_ret (v := .tuple #[.agg #[I64 t, I64 u, .slice y4.v.a y4.v.l.length y4.v.c, .slice y4.o.a y4.o.l.length y4.o.c, .slice y4.l.a y4.l.l.length y4.l.c, .slice y4.w.a y4.w.l.length y4.w.c], .bool true]) ?_ rfl ?_
      · exact results_cell_tmp_row rfl _ _ R 37 _ (0, 0) _ _ rfl rfl r5 Try.underlying37 rfl (by kernel_rfl)
      obtain ⟨h1, h2⟩ := HRES.out
      have hT : (qe, qd) = ((⟨t, u, cg⟩ : Bas), true) := HT.out
      obtain ⟨rfl, rfl⟩ := Prod.mk.inj hT
      exact ⟨⟨t, u, y4⟩, rfl, by rw [HYX.out], h1, by rw [HQ4.out]; exact h2⟩
end Go.Proofs.Ytippdjaakcgeoaa
namespace Go.Proofs.Ytippdjaakcgeoaa
open Go Go.RowKit
set_option linter.unusedVariables false
set_option linter.unusedSimpArgs false
/-- So many numbers are read; what is known of the cells they are put into. -/
def NsRelG (w : World) (F D : Nat → Prop) (g sb n : Nat) (P : List Int → World → Prop) (s : Rd) (i : Value) (wr : World) : Prop :=
  ∃ k : Nat, k ≤ n ∧ i = .int .i64 k ∧ IsRd wr F g (rdNs 1073741824 k s).2 ∧ P (rdNs 1073741824 k s).1 wr ∧ Fr (fun b => b = g ∨ D b) w wr ∧ Blk wr sb 101 #[.pointer (some ⟨g, 0, none⟩)]
set_option maxRecDepth 100000 in
set_option maxHeartbeats 4000000 in
theorem lnumbersG_any (w : World) (F D : Nat → Prop) (g : Nat) (s : Rd) (h : IsRd w F g s) (ps : List (Nat × Nat)) (P : List Int → World → Prop) (hP : P [] w) (hst : ∀ l a c, Fr (· = g) a c → P l a → P l c)
    (hc : ∀ k (h : k < ps.length) l wr, l.length = k → P l wr → (∃ v, wr.cell? ⟨ps[k].1, ps[k].2, none⟩ = some v) ∧ wr.frozen? ⟨ps[k].1, ps[k].2, none⟩ = false ∧ ∀ z, P (l ++ [z]) (wr.setCell ⟨ps[k].1, ps[k].2, none⟩ (I64 z)))
    (hD : ∀ p ∈ ps, D p.1) (hlt : ∀ k, D k → k < w.heap.size) (hgD : ¬ D g) (hF : ∀ k, F k → ¬ D k) (F2 : Nat → Prop) (A : Option Addr) (c : Nat)
    (hs : Sl w F2 A (ps.map fun p => ptrV p.1 p.2)) (hF2 : ∀ k, F2 k → ¬ (k = g ∨ D k)) (hol : ps.length ≤ 1000) :
    Calls Try.prog 88 #[.agg #[.pointer (some ⟨g, 0, none⟩)], .slice A ps.length c] w fun e w' => e = .returned (.tuple #[]) ∧ IsRd w' F g (rdNs 1073741824 ps.length s).2 ∧ P (rdNs 1073741824 ps.length s).1 w' ∧ Fr (fun b => b = g ∨ D b) w w' := by
  have hgl := h.lt
  obtain ⟨n, hn⟩ : ∃ n, ps.length = n := ⟨_, rfl⟩
  have q0 : Nw w (w.alloc (.cells #[.pointer (some ⟨g, 0, none⟩)] 101)) := (Fr.refl _ w).alloc _
  have hsb := Blk.new w 101 #[.pointer (some ⟨g, 0, none⟩)]
  have h0 := h.fr q0 (fun h => h) (fun _ _ h => h)
  have x0 := hst _ _ _ (Nw.on q0) hP
  rw [hn] at hol ⊢
  have HN := Lib.hid hn
  have HC := Lib.hid hc
  have HST := Lib.hid hst
  have HD := Lib.hid hD
  have HLT := Lib.hid hlt
  clear hn hc hst hD hlt hP
  go_enter Try.func88, Try.ntmps88
  go_wp2_with fail
  go_loopw [8] (fun i wx => NsRelG w F D g w.heap.size n P s i wx) (fun i _ => n - (intOf i).toNat)
  case atStart => exact ⟨0, Nat.zero_le _, rfl, h0, x0, Nw.on q0, hsb⟩
  case round =>
    clear hsb h0 x0 q0
    obtain ⟨k, hk, rfl, hr, hb, hf, hsb⟩ := hrel
    have hn := HN.out
    by_cases hlt : k < n
    · have hlo : k < ps.length := by omega
      obtain ⟨B, of, rfl, hFB, hcell⟩ := (hs.fr hf hF2).get hlo
      have hnk := fun w1 h1 => rdnumber_any w1 F g (rdNs 1073741824 k s).2 h1 1073741824
      have hsucc : rdNs 1073741824 (k + 1) s = ((rdNs 1073741824 k s).1 ++ [(rdNum 1073741824 (rdNs 1073741824 k s).2).1], (rdNum 1073741824 (rdNs 1073741824 k s).2).2) := rfl
      have hlen := rdNs_len 1073741824 k s
      have hck := fun wr h => HC.out k hlo (rdNs 1073741824 k s).1 wr hlen h
      have hDk : D ps[k].1 := HD.out _ (List.getElem_mem hlo)
      have hXl := HLT.out _ hDk
      generalize (rdNs 1073741824 k s).1 = C at hb hsucc hck
      generalize rdNum 1073741824 (rdNs 1073741824 k s).2 = q at hnk hsucc
      generalize (rdNs 1073741824 k s).2 = sk at hr hnk
      obtain ⟨z, s2⟩ := q
      simp only at hnk hsucc
      have HS := Lib.hid hsucc
      generalize ps[k] = po at hcell hck hDk hXl
      obtain ⟨X, o⟩ := po
      simp only at hcell hck hDk hXl
      have HCK := Lib.hid hck
      have HDK := Lib.hid hDk
      clear hsucc hlen hck hDk
      have hsc := hsb.cell 0
      simp at hsc
      go_wp2_with fail
      refine (hnk _ hr).mono ?_
      rintro e w1 ⟨rfl, h1⟩
      have hb1 := HST.out _ _ _ h1.2 hb
      obtain ⟨⟨old, c1⟩, f1, hset⟩ := HCK.out _ hb1
      have hb2 := Lib.hid (hset z)
      have hsb1 := hsb.fr h1.2 (by omega)
      clear hset hb1 hb
      go_wp2_with fail
      go_roundw
      case rel =>
        have hs2 := HS.out
        have hDk := HDK.out
        refine ⟨k + 1, by omega, by go_num, ?_, ?_, ?_, ?_⟩
        · rw [hs2]
          exact h1.1.fr (S := (· = X)) ((Fr.refl (· = X) w1).setCell (p := ⟨X, o, none⟩) (.inl rfl) _) (fun e => hgD (e ▸ hDk)) (fun j hj e => hF j hj (e ▸ hDk))
        · rw [hs2]
          exact hb2.out
        · exact (hf.trans h1.2 (fun j hj => .inl (.inl hj))).setCell (p := ⟨X, o, none⟩) (.inl (.inr hDk)) _
        · exact hsb1.far (show w.heap.size ≠ X by omega) _
      case measure => simp [intOf]; omega
    · have hkn : k = n := by omega
      subst hkn
      go_wp2_with fail
      go_end0
      exact ⟨rfl, hr, hb, hf⟩
/-- The head of a letter: the first number into a cell of its own, the others into the letter's. -/
def HeadAt (kb X : Nat) (t : TypeId) (cs : Array Value) (os : List Nat) (l : List Int) (w : World) : Prop :=
  Blk w kb 3 #[I64 (l.getD 0 0)] ∧ Blk w X t (setNs cs (os.take (l.length - 1)) l.tail)
theorem HeadAt.step {kb X : Nat} {t : TypeId} {cs : Array Value} {os : List Nat} (hne : kb ≠ X) (ho : ∀ o ∈ os, o < cs.size) : ∀ k (h : k < ((kb, 0) :: os.map (fun o => (X, o))).length) l wr, l.length = k → HeadAt kb X t cs os l wr →
    (∃ v, wr.cell? ⟨((kb, 0) :: os.map (fun o => (X, o)))[k].1, ((kb, 0) :: os.map (fun o => (X, o)))[k].2, none⟩ = some v) ∧ wr.frozen? ⟨((kb, 0) :: os.map (fun o => (X, o)))[k].1, ((kb, 0) :: os.map (fun o => (X, o)))[k].2, none⟩ = false ∧
      ∀ z, HeadAt kb X t cs os (l ++ [z]) (wr.setCell ⟨((kb, 0) :: os.map (fun o => (X, o)))[k].1, ((kb, 0) :: os.map (fun o => (X, o)))[k].2, none⟩ (I64 z)) := by
  intro k h l wr hl hh
  cases k with
  | zero =>
    obtain rfl := List.length_eq_zero_iff.1 hl
    refine ⟨⟨_, hh.1.cell 0⟩, hh.1.frozen 0, fun z => ⟨hh.1.set_ 0 (I64 z), hh.2.far hne.symm _⟩⟩
  | succ k =>
    obtain ⟨a, l, rfl⟩ : ∃ a l', l = a :: l' := by
      cases l with
      | nil => cases hl
      | cons a l => exact ⟨a, l, rfl⟩
    have hk : k < os.length := by simpa using h
    have hl' : l.length = k := by simpa using hl
    have hok := ho _ (List.getElem_mem hk)
    have e : ((kb, 0) :: os.map (fun o => (X, o)))[k + 1] = (X, os[k]) := by simp
    rw [e]
    have h2 : Blk wr X t (setNs cs (os.take k) l) := by rw [← hl']; exact hh.2
    refine ⟨⟨_, by rw [h2.cell]; rw [Array.getElem?_eq_getElem (by rw [setNs_size]; exact hok)]⟩, h2.frozen _, fun z => ⟨hh.1.far hne _, ?_⟩⟩
    have h3 := h2.set_ os[k] (I64 z)
    rw [← setNs_snoc _ _ (by rw [List.length_take]; omega), ← List.take_succ_eq_append_getElem hk] at h3
    show Blk _ X t (setNs cs (os.take ((a :: l ++ [z]).length - 1)) (l ++ [z]))
    rw [show (a :: l ++ [z]).length - 1 = k + 1 by simp; omega]
    exact h3
end Go.Proofs.Ytippdjaakcgeoaa
namespace Go.Proofs.Ytippdjaakcgeoaa
open Go
theorem rdNs_left (m : Int) (k : Nat) (s : Rd) : rdLeft (rdNs m k s).2 ≤ rdLeft s := by
  induction k with
  | zero => exact Nat.le_refl _
  | succ k ih => exact Nat.le_trans (rdNum_left _ _) ih
theorem rdNodes_left (s : Rd) : rdLeft (rdNodes s).2 ≤ rdLeft s := Nat.le_trans (rdNs_left _ _ _) (rdNum_left _ _)
theorem rdCfg_left (s : Rd) : rdLeft (rdCfg s).2 ≤ rdLeft s := Nat.le_trans (rdNodes_left _) (Nat.le_trans (rdNodes_left _) (Nat.le_trans (rdNodes_left _) (rdNodes_left _)))
theorem rdEnt0_left (s : Rd) : rdLeft (rdEnt0 s).2 ≤ rdLeft s := Nat.le_trans (rdCfg_left _) (Nat.le_trans (rdRow_left _ _) (Nat.le_trans (rdNum_left _ _) (rdNum_left _ _)))
theorem rdBas0_left (s : Rd) : rdLeft (rdBas0 s).2 ≤ rdLeft s := Nat.le_trans (rdCfg_left _) (Nat.le_trans (rdNum_left _ _) (rdNum_left _ _))
theorem rdEnts_left (k : Nat) (s : Rd) : rdLeft (rdEnts k s).2 ≤ rdLeft s := by
  induction k with
  | zero => exact Nat.le_refl _
  | succ k ih => exact Nat.le_trans (rdEnt0_left _) ih
theorem rdEnts_badP {k n : Nat} {s : Rd} (h : (rdEnts k s).1.2 = false) (hk : k ≤ n) : (rdEnts n s).1.2 = false := by
  induction n with
  | zero => obtain rfl : k = 0 := by omega
            exact h
  | succ n ih =>
    by_cases e : k = n + 1
    · rw [← e]; exact h
    · show ((rdEnts n s).1.2 && _) = false
      rw [ih (by omega)]
      rfl
theorem rdNs_cons (m : Int) (k : Nat) (s : Rd) : rdNs m (k + 1) s = ((rdNum m s).1 :: (rdNs m k (rdNum m s).2).1, (rdNs m k (rdNum m s).2).2) := by
  induction k generalizing s with
  | zero => rfl
  | succ k ih =>
    show ((rdNs m (k + 1) s).1 ++ [(rdNum m (rdNs m (k + 1) s).2).1], (rdNum m (rdNs m (k + 1) s).2).2) = _
    rw [ih]
    rfl
theorem rdBy_rep (m : Int) (k : Nat) (s : Rd) : rdBy (List.replicate k m) s = rdNs m k s := by
  induction k generalizing s with
  | zero => rfl
  | succ k ih =>
    rw [rdNs_cons, ← ih]
    rfl
theorem rdBy_headP (s : Rd) : rdBy headP s = rdNs 1073741824 8 s := rdBy_rep 1073741824 8 s
theorem rdNs_len2 (m : Int) (k : Nat) (s : Rd) : (rdNs m k s).1.length = k := by
  induction k with
  | zero => rfl
  | succ k ih =>
    show ((rdNs m k s).1 ++ [_]).length = k + 1
    simp [ih]
/-- A letter as the program reads it: it is told at once that one is none, except that what failed is not looked at. -/
def rdLetP (s : Rd) : Option (LetF × Rd) :=
  let h := rdNs 1073741824 8 s
  let f := rdFlag h.2
  let n := rdNum 30 f.2
  let e := rdEnts n.1.toNat n.2
  let b := rdBas0 e.2
  let q := rdNs 1073741824 2 b.2
  let t := rdNum 4611686018427387903 q.2
  let r := rdRow 131072 t.2
  let x : LetF := ⟨h.1.getD 0 0, h.1.getD 1 0, h.1.getD 2 0, h.1.getD 3 0, h.1.getD 4 0, h.1.getD 5 0, h.1.getD 6 0, h.1.getD 7 0, f.1, e.1.1, (rdBas e.2).1, q.1.getD 0 0, q.1.getD 1 0, t.1, r.1⟩
  if h.1.getD 0 0 < 256 ∧ e.1.2 = true ∧ (rdBas e.2).2 = true ∧ letOk x = true then some (x, r.2) else none
theorem rdLetP_of (s : Rd) : rdLetP s = if (rdLet headP s).1.1.kind < 256 ∧ ((rdEnts (rdNum 30 (rdFlag (rdBy headP s).2).2).1.toNat (rdNum 30 (rdFlag (rdBy headP s).2).2).2).1.2 = true ∧ (rdBas (rdEnts (rdNum 30 (rdFlag (rdBy headP s).2).2).1.toNat (rdNum 30 (rdFlag (rdBy headP s).2).2).2).2).2 = true ∧ letOk (rdLet headP s).1.1 = true) then some ((rdLet headP s).1.1, (rdLet headP s).2) else none := by
  have hq : ∀ s : Rd, rdNs 1073741824 2 s = ([(rdNum 1073741824 s).1, (rdNum 1073741824 (rdNum 1073741824 s).2).1], (rdNum 1073741824 (rdNum 1073741824 s).2).2) := fun s => rfl
  unfold rdLetP rdLet
  rw [← rdBy_headP]
  generalize rdBy headP s = h
  simp only
  generalize rdFlag h.2 = f
  generalize rdNum 30 f.2 = n
  generalize rdEnts n.1.toNat n.2 = e
  rw [hq]
  generalize rdBas e.2 = b
  generalize (rdBas0 e.2).2 = s5
  generalize rdNum 1073741824 s5 = c
  generalize rdNum 1073741824 c.2 = d
  generalize rdNum 4611686018427387903 d.2 = t
  generalize rdRow 131072 t.2 = r
  rfl
theorem rdLet_ok (s : Rd) : (rdLet headP s).1.2 = ((rdEnts (rdNum 30 (rdFlag (rdBy headP s).2).2).1.toNat (rdNum 30 (rdFlag (rdBy headP s).2).2).2).1.2 && ((rdBas (rdEnts (rdNum 30 (rdFlag (rdBy headP s).2).2).1.toNat (rdNum 30 (rdFlag (rdBy headP s).2).2).2).2).2 && ((rdLet headP s).2.isSome && letOk (rdLet headP s).1.1))) := by
  unfold rdLet
  generalize rdBy headP s = h
  simp only
theorem letOk_kind {x : LetF} (h : letOk x = true) : x.kind ≤ 8 := ((letOk_iff _).1 h).head.1.1.2
/-- Where nothing failed the program tells what is told. -/
theorem rdLetP_eq (s : Rd) : (∃ x r, rdLet headP s = ((x, true), some r) ∧ rdLetP s = some (x, some r)) ∨ ((rdLet headP s).1.2 = false ∧ (rdLetP s = none ∨ ∃ x, rdLetP s = some (x, none))) := by
  rw [rdLetP_of]
  have h2 := rdLet_ok s
  generalize (rdEnts (rdNum 30 (rdFlag (rdBy headP s).2).2).1.toNat (rdNum 30 (rdFlag (rdBy headP s).2).2).2).1.2 = a at h2 ⊢
  generalize (rdBas (rdEnts (rdNum 30 (rdFlag (rdBy headP s).2).2).1.toNat (rdNum 30 (rdFlag (rdBy headP s).2).2).2).2).2 = b at h2 ⊢
  generalize rdLet headP s = q at h2 ⊢
  obtain ⟨⟨x, ok⟩, r⟩ := q
  simp only at h2 ⊢
  cases ok with
  | true =>
    replace h2 := h2.symm
    simp only [Bool.and_eq_true] at h2
    obtain ⟨rfl, rfl, h3, h4⟩ := h2
    cases r with
    | none => cases h3
    | some r =>
      have := letOk_kind h4
      exact .inl ⟨x, r, rfl, if_pos ⟨by omega, rfl, rfl, h4⟩⟩
  | false =>
    refine .inr ⟨rfl, ?_⟩
    split
    · rename_i h
      obtain ⟨h1, rfl, rfl, h4⟩ := h
      rw [h4] at h2
      cases r with
      | none => exact .inr ⟨x, rfl⟩
      | some r => cases h2
    · exact .inl rfl
theorem letB_ne (x : LetF) : letB x ≠ [] := by
  intro h
  have := congrArg List.length h
  unfold letB flagB at this
  simp at this
theorem rdLet_empty : (rdLet headP (some [])).1.2 = false := by
  cases h : (rdLet headP (some [])).1.2 with
  | false => rfl
  | true =>
    obtain ⟨_, r, _, h3⟩ := rdLet_inv headP_ok.1 h
    injection h3 with h3
    have := letB_ne _ (List.append_eq_nil_iff.1 h3.symm).1
    exact this.elim
/-- So many letters as the program reads them. -/
def rdLetsP : Nat → Rd → Option (List LetF × Rd)
  | 0, s => some ([], s)
  | k + 1, s => match rdLetsP k s with
    | none => none
    | some (l, r) => if rdLeft r = 0 then none else match rdLetP r with
      | none => none
      | some (x, r') => some (l ++ [x], r')
def getP (b : List UInt8) : Option (List LetF) := match rdLetsP (rdNum 1073741824 (some b)).1.toNat (rdNum 1073741824 (some b)).2 with
  | none => none
  | some (l, r) => if rdEnd r = 0 then some l else none
theorem rdLetsP_eq (k : Nat) (r : List UInt8) : (∃ l r', rdLets headP k r = some (l, r') ∧ rdLetsP k (some r) = some (l, some r')) ∨ (rdLets headP k r = none ∧ (rdLetsP k (some r) = none ∨ ∃ l, rdLetsP k (some r) = some (l, none))) := by
  induction k with
  | zero => exact .inl ⟨[], r, rfl, rfl⟩
  | succ k ih =>
    rcases ih with ⟨l, r', h1, h2⟩ | ⟨h1, h2⟩
    · cases hr : r' with
      | nil =>
        subst hr
        refine .inr ⟨?_, .inl ?_⟩
        · rw [rdLets, h1]
          simp only
          split
          · rename_i h3
            have := rdLet_empty
            rw [h3] at this
            cases this
          · rfl
        · rw [rdLetsP, h2]
          rfl
      | cons c r2 =>
        have hne : ¬ rdLeft (some r') = 0 := by rw [hr]; exact Nat.succ_ne_zero _
        rcases rdLetP_eq (some r') with ⟨x, r3, h3, h4⟩ | ⟨h3, h4⟩
        · refine .inl ⟨l ++ [x], r3, ?_, ?_⟩
          · rw [rdLets, h1]
            simp only
            rw [h3]
          · rw [rdLetsP, h2]
            simp only
            rw [if_neg hne, h4]
        · refine .inr ⟨?_, ?_⟩
          · rw [rdLets, h1]
            simp only
            split
            · rename_i h5
              rw [h5] at h3
              cases h3
            · rfl
          · rw [rdLetsP, h2]
            simp only
            rw [if_neg hne]
            rcases h4 with h4 | ⟨x, h4⟩
            · rw [h4]; exact .inl rfl
            · rw [h4]; exact .inr ⟨l ++ [x], rfl⟩
    · refine .inr ⟨?_, .inl ?_⟩
      · rw [rdLets, h1]
      · rcases h2 with h2 | ⟨l, h2⟩
        · rw [rdLetsP, h2]
        · rw [rdLetsP, h2]
          rfl
theorem getP_eq (b : List UInt8) : getP b = letsGet headP b := by
  unfold getP letsGet
  rcases rdNum_cases 1073741824 (some b) with h | ⟨bs, m, r, _, h, _, _, _⟩
  · rw [h]
    rfl
  · rw [h]
    simp only [Int.toNat_natCast]
    rcases rdLetsP_eq m r with ⟨l, r', h1, h2⟩ | ⟨h1, h2⟩
    · rw [h1, h2]
      cases r' with
      | nil => rfl
      | cons c r => rfl
    · rw [h1]
      rcases h2 with h2 | ⟨l, h2⟩
      · rw [h2]
      · rw [h2]
        rfl
theorem rdLetsP_left (k : Nat) (s r : Rd) (l : List LetF) (h : rdLetsP k s = some (l, r)) : rdLeft r ≤ rdLeft s := by
  induction k generalizing l r with
  | zero =>
    injection h with h
    injection h with h1 h2
    subst h2
    exact Nat.le_refl _
  | succ k ih =>
    rw [rdLetsP] at h
    cases hk : rdLetsP k s with
    | none => rw [hk] at h; cases h
    | some q =>
      obtain ⟨l', r'⟩ := q
      rw [hk] at h
      simp only at h
      split at h
      · cases h
      · cases hp : rdLetP r' with
        | none => rw [hp] at h; cases h
        | some q2 =>
          obtain ⟨x, r2⟩ := q2
          rw [hp] at h
          simp only at h
          injection h with h
          injection h with h1 h2
          subst h2
          refine Nat.le_trans ?_ (ih _ _ hk)
          unfold rdLetP at hp
          simp only at hp
          split at hp
          · injection hp with hp
            injection hp with h1 h2
            subst h2
            exact Nat.le_trans (rdRow_left _ _) (Nat.le_trans (rdNum_left _ _) (Nat.le_trans (rdNs_left _ _ _) (Nat.le_trans (rdBas0_left _) (Nat.le_trans (rdEnts_left _ _) (Nat.le_trans (rdNum_left _ _) (Nat.le_trans (rdFlag_left _) (rdNs_left _ _ _)))))))
          · cases hp
end Go.Proofs.Ytippdjaakcgeoaa
