/- Orders: told right, by the program. -/
import Derived.Test.YtkjnlhidnkbelaaGreatDoorOdR
import Derived.Test.YtkjnlhidnkbelaaGreatDoorOdSS
namespace Go.Proofs.YtkjnlhidnkbelaaGreatDoor
open Go Go.RowKit

def fnOf : Part → Nat
  | .name => 139
  | .epoch => 140
  | .acts => 141
  | .commit => 142
  | .reads => 146
  | .scheme => 143
  | .stage => 148
  | .group => 147
  | .stretch => 144
  | .load => 145
theorem partV_fn (r : Part) : partV r = .func (.func (fnOf r)) #[] #[] := by cases r <;> rfl
theorem op_any (r : Part) (w : World) (g : Nat) (k : Int) (x y : OrdF) (p q : Pl) (hb : Blk w g 31 (ofA (U8V k) y q)) (F : Nat → Prop) (hi : OrdIn w F x p) (hFg : ∀ j, F j → ¬ j = g) (hz : OrdSz x) :
    Calls Tryz.prog (fnOf r) #[.agg (ofA (U8V k) x p), .pointer (some ⟨g, 0, none⟩)] w fun e w' => PartTo w g k (partOk x r) (partTo x y r) (plTo p q r) e w' := by
  cases r
  · exact op_name w g k x y p q hb
  · exact op_epoch w g k x y p q hb
  · exact op_acts w g k x y p q hb F hi hFg hz
  · exact op_commit w g k x y p q hb
  · exact op_reads w g k x y p q hb F hi hFg hz
  · exact op_scheme w g k x y p q hb
  · exact op_stage w g k x y p q hb
  · exact op_group w g k x y p q hb
  · exact op_stretch w g k x y p q hb hz
  · exact op_load w g k x y p q hb
theorem enter_fn (r : Part) (args : Array Value) (w : World) : (callFunc (fnOf r) args).run Tryz.prog w = .ok (.enter (fnOf r) args) w := by
  cases r <;> kernel_rfl
def plF (p : Pl) (l : List Part) : Pl := l.foldl (plTo p) plZ
def onlyTo (x : OrdF) (l : List Part) : OrdF := onlyF x l
theorem onlyF_snoc (x : OrdF) (l : List Part) (k : Nat) (h : k < l.length) : onlyF x (l.take (k + 1)) = partTo x (onlyF x (l.take k)) l[k] := by
  unfold onlyF
  rw [List.take_succ_eq_append_getElem h, List.foldl_append]
  rfl
theorem plF_snoc (p : Pl) (l : List Part) (k : Nat) (h : k < l.length) : plF p (l.take (k + 1)) = plTo p (plF p (l.take k)) l[k] := by
  unfold plF
  rw [List.take_succ_eq_append_getElem h, List.foldl_append]
  rfl
theorem partTo_kind (x y : OrdF) (r : Part) : (partTo x y r).kind = y.kind := by cases r <;> rfl
theorem fold_kind (x : OrdF) (l : List Part) (y : OrdF) : (l.foldl (partTo x) y).kind = y.kind := by
  induction l generalizing y with
  | nil => rfl
  | cons r l ih => rw [List.foldl_cons, ih, partTo_kind]
theorem OrdIn.part {w : World} {F : Nat → Prop} {x y : OrdF} {p q : Pl} (hx : OrdIn w F x p) (hy : OrdIn w F y q) (r : Part) : OrdIn w F (partTo x y r) (plTo p q r) := by
  obtain ⟨a1, a2, a3, a4, a5, a6⟩ := hx
  obtain ⟨b1, b2, b3, b4, b5, b6⟩ := hy
  cases r <;> constructor <;> assumption
theorem OrdIn.zero (w : World) (F : Nat → Prop) (k : Int) : OrdIn w F (ordZ k) plZ :=
  ⟨.inl rfl, .inl rfl, .inl rfl, ⟨Nat.le_refl _, Nat.zero_le _⟩, ⟨Nat.le_refl _, Nat.zero_le _⟩, ⟨Nat.le_refl _, Nat.zero_le _⟩⟩
theorem fold_in {w : World} {F : Nat → Prop} {x : OrdF} {p : Pl} (hx : OrdIn w F x p) (l : List Part) (y : OrdF) (q : Pl) (hy : OrdIn w F y q) : OrdIn w F (l.foldl (partTo x) y) (l.foldl (plTo p) q) := by
  induction l generalizing y q with
  | nil => exact hy
  | cons r l ih => exact ih _ _ (hx.part hy r)
theorem parts_len (k : Int) : (partsOf k).length ≤ 3 := by
  by_cases h : 1 ≤ k ∧ k ≤ 13
  · have : k = 1 ∨ k = 2 ∨ k = 3 ∨ k = 4 ∨ k = 5 ∨ k = 6 ∨ k = 7 ∨ k = 8 ∨ k = 9 ∨ k = 10 ∨ k = 11 ∨ k = 12 ∨ k = 13 := by omega
    rcases this with rfl | rfl | rfl | rfl | rfl | rfl | rfl | rfl | rfl | rfl | rfl | rfl | rfl <;> decide
  · have e : partsOf k = [] := by
      unfold partsOf
      rw [if_neg (by omega), if_neg (by omega), if_neg (by omega), if_neg (by omega), if_neg (by omega), if_neg (by omega), if_neg (by omega), if_neg (by omega), if_neg (by omega), if_neg (by omega), if_neg (by omega), if_neg (by omega)]
    rw [e]
    exact Nat.zero_le _
theorem onlyF_kind (x : OrdF) (l : List Part) : (onlyF x l).kind = x.kind := fold_kind x l (ordZ x.kind)
theorem only_in {w : World} {F : Nat → Prop} {x : OrdF} {p : Pl} (hx : OrdIn w F x p) (l : List Part) : OrdIn w F (onlyF x l) (plF p l) := fold_in hx l (ordZ x.kind) plZ (OrdIn.zero w F _)
/-- The parts before the j-th are taken over. -/
def RtTo (w : World) (g : Nat) (x : OrdF) (p : Pl) (n : Nat) (is i : Value) (wx : World) : Prop :=
  ∃ j : Nat, j ≤ n ∧ i = .int .i64 j ∧ is = .bool (kindOk x.kind && ((partsOf x.kind).take j).all (partOk x)) ∧ Blk wx g 31 (ofA (U8V x.kind) (onlyF x ((partsOf x.kind).take j)) (plF p ((partsOf x.kind).take j))) ∧ Fr (· = g) w wx
theorem all_snoc (x : OrdF) (l : List Part) (k : Nat) (h : k < l.length) : (l.take (k + 1)).all (partOk x) = ((l.take k).all (partOk x) && partOk x l[k]) := by
  rw [List.take_succ_eq_append_getElem h, List.all_append]
  simp
set_option maxRecDepth 100000 in
set_option maxHeartbeats 2000000 in
theorem oright1_any (w : World) (F : Nat → Prop) (x : OrdF) (p : Pl) (hi : OrdIn w F x p) (hz : OrdSz x) :
    Calls Tryz.prog 47 #[.agg (ofA (U8V x.kind) x p)] w fun e w' => e = .returned (.bool (ordOk x)) ∧ Nw w w' := by
  obtain ⟨W0, hW0⟩ : ∃ W0, W0 = w.alloc (.cells (ofA (U8V x.kind) x p) 31) := ⟨_, rfl⟩
  have q0 : Nw w W0 := by rw [hW0]; exact (Fr.refl (fun _ => False) w).alloc _
  have x0 : Blk W0 w.heap.size 31 (ofA (U8V x.kind) x p) := by rw [hW0]; exact Blk.new w _ _
  have hz0 : W0.heap.size = w.heap.size + 1 := by rw [hW0]; simp
  have cx0 : W0.drew.cell? ⟨w.heap.size, 0, none⟩ = some (U8V x.kind) := by simpa using x0.cell 0
  have hpa := parts_any W0.drew x.kind hz.kind
  obtain ⟨r, hr⟩ : ∃ r, ordOk x = r := ⟨_, rfl⟩
  rw [hr]
  have HR := Lib.hid hr
  clear hr
  obtain ⟨n, hn⟩ : ∃ n, (partsOf x.kind).length = n := ⟨_, rfl⟩
  have hnl : n ≤ 3 := hn ▸ parts_len x.kind
  have hK : ∀ w1, Nw W0.drew w1 → w1.cell? ⟨w.heap.size, 0, none⟩ = some (U8V x.kind) := fun w1 f => by simpa using (x0.fr ((Fr.refl (fun _ => False) W0).drew.tr f) (fun h => h)).cell 0
  have HW0 := Lib.hid hW0
  clear hW0
  go_enter Tryz.func47, Tryz.ntmps47
  go_upto_region 1 with (fail)
  rw [← HW0.out]
  go_region_held3 (fun w' => w'.cell? ⟨w.heap.size, 0, none⟩ = some (U8V x.kind)) (first | (exact cx0) | (exact kk) | fail)
    ((first | (go_at_call 99; refine hpa.mono ?_; rintro e w1 ⟨b, A, rfl, hlk, hs, q1⟩; have kk := hK w1 q1)))
  case _ =>
    rw [hn] at hlk
    obtain ⟨W2, hW2⟩ : ∃ W2, W2 = w1.alloc (.cells (zO (U8V x.kind)) 31) := ⟨_, rfl⟩
    have q2 : Nw w1 W2 := by rw [hW2]; exact (Fr.refl (fun _ => False) w1).alloc _
    have o2 : Blk W2 w1.heap.size 31 (ofA (U8V x.kind) (ordZ x.kind) plZ) := by rw [hW2]; exact Blk.new w1 _ _
    have Q0 : Nw w W2 := (q0.drew.tr q1).tr q2
    have x2 : Blk W2 w.heap.size 31 (ofA (U8V x.kind) x p) := (x0.fr ((Fr.refl (fun _ => False) W0).drew.tr q1) (fun h => h)).fr q2 (fun h => h)
    have hg : w.heap.size < w1.heap.size := by have := q1.size; have e : W0.drew.heap.size = W0.heap.size := rfl; omega
    have hs2 : Sl W2 (fun j => j < w1.heap.size) A (List.map partV (partsOf x.kind)) := (hs.mono (fun j _ h => h)).fr q2 (fun _ _ h => h)
    have hi2 : OrdIn W2 (fun j => j < w.heap.size ∧ F j) x p := (hi.mono fun j h1 h2 => ⟨h2, h1⟩).fr Q0 (fun _ _ h => h)
    have HW2 := Lib.hid hW2
    obtain ⟨w0, hw0⟩ : ∃ w0, w0 = w.heap.size := ⟨_, rfl⟩
    clear hW2 hs hK cx0 kk
    have HN := Lib.hid hn
    clear hn
    go_upto_region 3 with (fail)
    rw [← HW2.out]
    go_wp2_with fail
    go_loopw [4, 20] (fun is i wx => RtTo W2 w1.heap.size x p n is i wx) (fun _ i _ => n - (intOf i).toNat)
    case atStart => exact ⟨0, Nat.zero_le _, rfl, by simp, o2, Fr.refl _ _⟩
    case round =>
      obtain ⟨j, hj, rfl, rfl, hb, hf⟩ := hrel
      have xb := x2.fr hf (fun h => by omega)
      have hsj := hs2.fr hf (fun _ h e => by omega)
      have hij := hi2.fr hf (fun _ h e => by omega)
      by_cases hlt : j < n
      · have hlt2 : j < (partsOf x.kind).length := by rw [HN.out]; exact hlt
        obtain ⟨b1, o1, rfl, _, hc⟩ := hsj.get hlt2
        rw [partV_fn] at hc
        have hop := fun wz (f : Nw wr wz) => op_any (partsOf x.kind)[j] wz w1.heap.size x.kind x _ p _ (hb.fr f (fun h => h)) _ (hij.fr f (fun _ _ h => h)) (fun _ h => by omega) hz
        have hsn := onlyF_snoc x _ j hlt2
        have hpn := plF_snoc p _ j hlt2
        have han := all_snoc x _ j hlt2
        have hen := enter_fn (partsOf x.kind)[j]
        obtain ⟨f, hfn⟩ : ∃ f, fnOf (partsOf x.kind)[j] = f := ⟨_, rfl⟩
        obtain ⟨ok, hok⟩ : ∃ ok, partOk x (partsOf x.kind)[j] = ok := ⟨_, rfl⟩
        obtain ⟨is, his⟩ : ∃ is, (kindOk x.kind && ((partsOf x.kind).take j).all (partOk x)) = is := ⟨_, rfl⟩
        rw [hfn] at hop hc hen
        rw [hok] at hop han
        rw [his]
        have HS := Lib.hid (And.intro hsn (And.intro hpn (And.intro han his)))
        clear hsn hpn han his hfn hok hb
        cases ok
        all_goals
          go_wp2_with (first | (refine wpList_load_row rfl 31 _ rfl w.heap.size rfl 31 _ (0, 0) _ xb Tryz.underlying31 rfl ord_size ?_))
          refine (hop _ (Fr.refl _ _)).mono ?_
          rintro e w3 ⟨rfl, hb3, hf3⟩
          go_wp2_with fail
          go_roundw
          case rel => exact ⟨j + 1, by omega, rfl, by rw [HS.out.2.2.1, ← Bool.and_assoc, HS.out.2.2.2]; simp, by rw [HS.out.1, HS.out.2.1]; exact hb3, hf.tr hf3⟩
          case measure => simp [intOf]; omega
      · have hjn : j = (partsOf x.kind).length := by have := HN.out; omega
        rw [hjn, List.take_length] at hb ⊢
        have hsa := fun wz (f : Nw wr wz) => osame_any wz _ _ x (onlyF x (partsOf x.kind)) p (plF p (partsOf x.kind)) (onlyF_kind x _).symm (hij.fr f (fun _ _ h => h)) ((only_in hij _).fr f (fun _ _ h => h)) hz
        rw [onlyF_kind] at hsa
        have hok : ordOk x = ((kindOk x.kind && (partsOf x.kind).all (partOk x)) && decide (x = onlyF x (partsOf x.kind))) := rfl
        rw [HR.out] at hok
        obtain ⟨is, his⟩ : ∃ is, (kindOk x.kind && (partsOf x.kind).all (partOk x)) = is := ⟨_, rfl⟩
        rw [his] at hok ⊢
        obtain ⟨d, hd⟩ : ∃ d, decide (x = onlyF x (partsOf x.kind)) = d := ⟨_, rfl⟩
        simp only [hd] at hok hsa
        have HO := Lib.hid hok
        have HB := Lib.hid (Q0.trans hf (fun k hk => .inr (by omega)))
        clear his hok hd
        cases is
        · go_wp2_with fail
          go_ret
          exact ⟨retB (by rw [HO.out]; simp), HB.out⟩
        · generalize onlyF x (partsOf x.kind) = y at hb hsa
          generalize plF p (partsOf x.kind) = q at hb hsa
          have ca0 : wr.cell? ⟨w.heap.size, 0, none⟩ = some (U8V x.kind) := by simpa using xb.cell 0
          have ca1 : wr.cell? ⟨w.heap.size, 1, none⟩ = some (I64 x.nm.1) := by simpa using xb.cell 1
          have ca2 : wr.cell? ⟨w.heap.size, 2, none⟩ = some (I64 x.nm.2) := by simpa using xb.cell 2
          have ca3 : wr.cell? ⟨w.heap.size, 3, none⟩ = some (I64 x.epoch) := by simpa using xb.cell 3
          have ca4 : wr.cell? ⟨w.heap.size, 4, none⟩ = some (.slice p.a x.acts.length p.ca) := by simpa using xb.cell 4
          have ca5 : wr.cell? ⟨w.heap.size, 5, none⟩ = some (.bool x.commit) := by simpa using xb.cell 5
          have ca6 : wr.cell? ⟨w.heap.size, 6, none⟩ = some (.slice p.r x.reads.length p.cr) := by simpa using xb.cell 6
          have ca7 : wr.cell? ⟨w.heap.size, 7, none⟩ = some (I64 x.scheme) := by simpa using xb.cell 7
          have ca8 : wr.cell? ⟨w.heap.size, 8, none⟩ = some (I64 x.stage) := by simpa using xb.cell 8
          have ca9 : wr.cell? ⟨w.heap.size, 9, none⟩ = some (I64 x.to) := by simpa using xb.cell 9
          have ca10 : wr.cell? ⟨w.heap.size, 10, none⟩ = some (StrV x.lo) := by simpa using xb.cell 10
          have ca11 : wr.cell? ⟨w.heap.size, 11, none⟩ = some (StrV x.hi) := by simpa using xb.cell 11
          have ca12 : wr.cell? ⟨w.heap.size, 12, none⟩ = some (.slice p.b x.bytes.length p.cb) := by simpa using xb.cell 12
          have cb0 : wr.cell? ⟨w1.heap.size, 0, none⟩ = some (U8V x.kind) := by simpa using hb.cell 0
          have cb1 : wr.cell? ⟨w1.heap.size, 1, none⟩ = some (I64 y.nm.1) := by simpa using hb.cell 1
          have cb2 : wr.cell? ⟨w1.heap.size, 2, none⟩ = some (I64 y.nm.2) := by simpa using hb.cell 2
          have cb3 : wr.cell? ⟨w1.heap.size, 3, none⟩ = some (I64 y.epoch) := by simpa using hb.cell 3
          have cb4 : wr.cell? ⟨w1.heap.size, 4, none⟩ = some (.slice q.a y.acts.length q.ca) := by simpa using hb.cell 4
          have cb5 : wr.cell? ⟨w1.heap.size, 5, none⟩ = some (.bool y.commit) := by simpa using hb.cell 5
          have cb6 : wr.cell? ⟨w1.heap.size, 6, none⟩ = some (.slice q.r y.reads.length q.cr) := by simpa using hb.cell 6
          have cb7 : wr.cell? ⟨w1.heap.size, 7, none⟩ = some (I64 y.scheme) := by simpa using hb.cell 7
          have cb8 : wr.cell? ⟨w1.heap.size, 8, none⟩ = some (I64 y.stage) := by simpa using hb.cell 8
          have cb9 : wr.cell? ⟨w1.heap.size, 9, none⟩ = some (I64 y.to) := by simpa using hb.cell 9
          have cb10 : wr.cell? ⟨w1.heap.size, 10, none⟩ = some (StrV y.lo) := by simpa using hb.cell 10
          have cb11 : wr.cell? ⟨w1.heap.size, 11, none⟩ = some (StrV y.hi) := by simpa using hb.cell 11
          have cb12 : wr.cell? ⟨w1.heap.size, 12, none⟩ = some (.slice q.b y.bytes.length q.cb) := by simpa using hb.cell 12
          go_wp2_with (first | (go_at_call 100; refine (hsa _ (Fr.refl _ _)).mono ?_; rintro e w3 ⟨rfl, q3⟩))
          go_ret
          exact ⟨retB (by rw [HO.out]; simp), HB.out.tr q3⟩
end Go.Proofs.YtkjnlhidnkbelaaGreatDoor
