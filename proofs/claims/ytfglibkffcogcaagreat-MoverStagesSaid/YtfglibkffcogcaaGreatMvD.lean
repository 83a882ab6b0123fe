/- Movers: deeds in memory; the law's look at how much comes in. -/
import Derived.Test.YtfglibkffcogcaaGreatMvC
import Derived.Test.YtfglibkffcogcaaGreatFrmB
import Derived.Deep.QuietTactic
namespace Go.Proofs.YtfglibkffcogcaaGreat
open Go Go.RowKit

/-- A deed, and where its answer's bytes lie. -/
structure Deed where
  kind : Int
  x : Sch
  on : Bool
  less : Int
  an : AnT
  A : Option Addr
  c : Nat
instance : Inhabited Deed := ⟨⟨0, ⟨0, [], [], 0, 0, 0, 0, 0⟩, false, 0, ⟨0, 0, 0, false, false, none, 0, 0, 0, 0, []⟩, none, 0⟩⟩
abbrev deedL (d : Deed) : List Value :=
  [I64 d.kind, I64 d.x.num, StrV d.x.lo, StrV d.x.hi, I64 d.x.src, I64 d.x.dst, I64 d.x.epoch, I64 d.x.under, U8V d.x.stage, .bool d.on, I64 d.less,
    I64 d.an.err, I64 d.an.n1, I64 d.an.n2, .bool d.an.is, .bool d.an.cm, .slice d.an.Ar d.an.nr d.an.cr, I64 d.an.sc, I64 d.an.st, .slice d.A d.an.bytes.length d.c]
def deedF (d : Deed) : List Value := deedL d
/-- What a deed that came in is like. -/
structure DeedIn (w : World) (F : Nat → Prop) (d : Deed) : Prop where
  bytes : Sl w F d.A (d.an.bytes.map B8)
  blen : d.an.bytes.length ≤ maxLen
  rlen : d.an.nr ≤ maxLen
  llen : d.x.lo.length ≤ maxLen
  hlen : d.x.hi.length ≤ maxLen
  stage : 0 ≤ d.x.stage ∧ d.x.stage ≤ 255
  kind : -9223372036854775808 ≤ d.kind ∧ d.kind ≤ 9223372036854775807
  less : -9223372036854775808 ≤ d.less ∧ d.less ≤ 9223372036854775807
def deedsC (l : List Deed) : List Value := (l.map deedF).flatten
theorem Sl.deed {w : World} {F : Nat → Prop} {A : Option Addr} {l : List Deed} (h : Sl w F A (deedsC l)) {k : Nat} (hk : k < l.length) :
    ∃ b o, A = some ⟨b, o, none⟩ ∧ F b ∧ ∀ j u, (deedL l[k])[j]? = some u → w.cell? ⟨b, o + k * 20 + j, none⟩ = some u := by
  have hf := flat_at deedF 20 l (fun _ _ => rfl) k
  have h0 := hf 0 hk (by omega)
  obtain ⟨b, o, hA, hF, _, hc⟩ := h.at_ (by
    intro e
    have h1 : ((l.map deedF).flatten)[k * 20 + 0]? = none := by rw [show (l.map deedF).flatten = [] from e]; rfl
    rw [h1] at h0
    cases h0)
  refine ⟨b, o, hA, hF, fun j u hu => ?_⟩
  have hj : j < 20 := by
    rcases Nat.lt_or_ge j 20 with h | h
    · exact h
    · rw [List.getElem?_eq_none (by exact h)] at hu; cases hu
  rw [Nat.add_assoc]
  exact hc _ u (by rw [show deedsC l = (l.map deedF).flatten from rfl, hf j hk hj]; exact hu)
def DeedSmall (d : Deed) : Prop := d.an.bytes.length ≤ 30099 ∧ d.x.lo.length ≤ 12039 ∧ d.x.hi.length ≤ 12039
def LiRel (w : World) (l : List Deed) (n i : Value) (wr : World) : Prop :=
  ∃ j N : Nat, j ≤ l.length ∧ i = .int .i64 j ∧ n = .int .i64 N ∧ l.length ≤ N ∧ N ≤ 4000000000000000000 ∧ (N ≤ 300 → ∀ x (h : x < l.length), x < j → DeedSmall l[x]) ∧ Nw w wr
theorem m_div (a d k : Nat) (ha : a ≤ 9223372036854775807) (hd : a / k = d) : wrap64 ((a : Int) / (k : Int)) = (d : Int) := by
  subst hd
  have h := Nat.div_le_self a k
  rw [← Int.natCast_ediv]
  generalize a / k = q at *
  unfold wrap64; omega
theorem m_add (a b m : Nat) (h : a + b = m) (hm : m ≤ 9000000000000000000) : wrap64 ((a : Int) + (b : Int)) = (m : Int) := by
  subst h; unfold wrap64; omega
theorem d100_le (a d : Nat) (ha : a ≤ 9223372036854775807) (hd : a / 100 = d) : d ≤ 92233720368547758 := by omega
theorem e40_le (a d : Nat) (ha : a ≤ 9223372036854775807) (hd : a / 40 = d) : d ≤ 230584300921369396 := by omega
theorem e8_le (a d : Nat) (ha : a ≤ 9223372036854775807) (hd : a / 8 = d) : d ≤ 1152921504606846976 := by omega
theorem small100 (a d : Nat) (hd : a / 100 = d) (h : d ≤ 300) : a ≤ 30099 := by omega
theorem small40 (a d : Nat) (hd : a / 40 = d) (h : d ≤ 300) : a ≤ 12039 := by omega
theorem li_sum (n a r p q : Nat) (hn : n ≤ 300) (ha : a ≤ 92233720368547758) (hr : r ≤ 1152921504606846976) (hp : p ≤ 230584300921369396) (hq : q ≤ 230584300921369396) :
    wrap64 (wrap64 (wrap64 (wrap64 ((n : Int) + (a : Int)) + (r : Int)) + (p : Int)) + (q : Int)) = ((n + a + r + p + q : Nat) : Int) ∧ n + a + r + p + q ≤ 4000000000000000000 ∧ (n + a + r + p + q ≤ 300 → a ≤ 300 ∧ p ≤ 300 ∧ q ≤ 300) := by
  obtain ⟨m1, h1⟩ : ∃ m, n + a = m := ⟨_, rfl⟩
  obtain ⟨m2, h2⟩ : ∃ m, m1 + r = m := ⟨_, rfl⟩
  obtain ⟨m3, h3⟩ : ∃ m, m2 + p = m := ⟨_, rfl⟩
  obtain ⟨m4, h4⟩ : ∃ m, m3 + q = m := ⟨_, rfl⟩
  rw [m_add n a m1 h1 (by omega), m_add m1 r m2 h2 (by omega), m_add m2 p m3 h3 (by omega), m_add m3 q m4 h4 (by omega), h1, h2, h3, h4]
  exact ⟨rfl, by omega, by omega⟩
theorem li_step (n a r p q : Nat) (hn : n ≤ 300) (ha : a ≤ 9223372036854775807) (hr : r ≤ 9223372036854775807) (hp : p ≤ 9223372036854775807) (hq : q ≤ 9223372036854775807) :
    wrap64 (wrap64 (wrap64 (wrap64 ((n : Int) + wrap64 ((a : Int) / 100)) + wrap64 ((r : Int) / 8)) + wrap64 ((p : Int) / 40)) + wrap64 ((q : Int) / 40)) = ((n + a / 100 + r / 8 + p / 40 + q / 40 : Nat) : Int) ∧
      n + a / 100 + r / 8 + p / 40 + q / 40 ≤ 4000000000000000000 ∧ (n + a / 100 + r / 8 + p / 40 + q / 40 ≤ 300 → a ≤ 30099 ∧ p ≤ 12039 ∧ q ≤ 12039) := by
  obtain ⟨d1, h1⟩ : ∃ d, a / 100 = d := ⟨_, rfl⟩
  obtain ⟨d2, h2⟩ : ∃ d, r / 8 = d := ⟨_, rfl⟩
  obtain ⟨d3, h3⟩ : ∃ d, p / 40 = d := ⟨_, rfl⟩
  obtain ⟨d4, h4⟩ : ∃ d, q / 40 = d := ⟨_, rfl⟩
  have e1 : wrap64 ((a : Int) / 100) = (d1 : Int) := m_div a d1 100 ha h1
  have e2 : wrap64 ((r : Int) / 8) = (d2 : Int) := m_div r d2 8 hr h2
  have e3 : wrap64 ((p : Int) / 40) = (d3 : Int) := m_div p d3 40 hp h3
  have e4 : wrap64 ((q : Int) / 40) = (d4 : Int) := m_div q d4 40 hq h4
  obtain ⟨s1, s2, s3⟩ := li_sum n d1 d2 d3 d4 hn (d100_le a d1 ha h1) (e8_le r d2 hr h2) (e40_le p d3 hp h3) (e40_le q d4 hq h4)
  rw [e1, e2, e3, e4, h1, h2, h3, h4]
  exact ⟨s1, s2, fun h => ⟨small100 a d1 h1 (s3 h).1, small40 p d3 h3 (s3 h).2.1, small40 q d4 h4 (s3 h).2.2⟩⟩
def LightTo (w : World) (l : List Deed) (e : Ending) (w' : World) : Prop := ∃ b, e = .returned (.bool b) ∧ (b = true → l.length ≤ 300 ∧ ∀ d ∈ l, DeedSmall d) ∧ Nw w w'
set_option maxRecDepth 100000 in
set_option maxHeartbeats 4000000 in
theorem light_any (w : World) (F F2 : Nat → Prop) (A : Option Addr) (c : Nat) (l : List Deed) (hs : Sl w F A (deedsC l)) (hl : l.length ≤ 3000000000000) (hz : ∀ d ∈ l, DeedIn w F2 d) :
    Calls Tryz.prog 5 #[.slice A l.length c] w fun e w' => LightTo w l e w' := by
  go_enter Tryz.func5, Tryz.ntmps5
  go_wp2_with fail
  go_loopw [3, 4] (fun n i wx => LiRel w l n i wx) (fun n i _ => l.length - (intOf i).toNat)
  case atStart => exact ⟨0, l.length, Nat.zero_le _, rfl, rfl, Nat.le_refl _, by omega, fun _ _ _ h => by omega, Fr.refl _ _⟩
  case round =>
    obtain ⟨j, N, hj, rfl, rfl, hlN, hN, hsm, hq⟩ := hrel
    have HSM := Lib.hid hsm
    clear hsm
    by_cases hlt : j < l.length
    · by_cases h300 : N ≤ 300
      · obtain ⟨bA, oA, rfl, _, hcell⟩ := (hs.fr hq (fun _ _ h => h)).deed hlt
        have hzk := hz _ (List.getElem_mem hlt)
        have hi0 : (j : Int) < (l.length : Int) := by omega
        have hi1 : (N : Int) ≤ 300 := by omega
        obtain ⟨d, hd⟩ : ∃ d, l[j] = d := ⟨_, rfl⟩
        rw [hd] at hcell hzk
        have x2 : wr.cell? ⟨bA, oA + j * 20 + 2, none⟩ = some (.string ⟨d.x.lo.toArray⟩) := hcell 2 _ rfl
        have x3 : wr.cell? ⟨bA, oA + j * 20 + 3, none⟩ = some (.string ⟨d.x.hi.toArray⟩) := hcell 3 _ rfl
        have x16 : wr.cell? ⟨bA, oA + j * 20 + 16, none⟩ = some (.slice d.an.Ar d.an.nr d.an.cr) := hcell 16 _ rfl
        have x19 : wr.cell? ⟨bA, oA + j * 20 + 19, none⟩ = some (.slice d.A d.an.bytes.length d.c) := hcell 19 _ rfl
        have HG := Lib.hid (li_step N d.an.bytes.length d.an.nr d.x.lo.length d.x.hi.length h300 hzk.blen hzk.rlen hzk.llen hzk.hlen)
        have HD := Lib.hid hd
        clear hcell hzk hd
        go_wp2_with fail
        go_quiet (fail)
        go_wp2_with fail
        go_roundw
        case rel =>
          obtain ⟨g1, g2, g3⟩ := HG.out
          refine ⟨j + 1, _, hlt, by go_num, congrArg (Value.int .i64) g1, ?_, g2, fun h x hx hxj => ?_, hq.drewN _⟩
          · exact Nat.le_trans hlN (Nat.le_trans (Nat.le_trans (Nat.le_add_right _ _) (Nat.le_add_right _ _)) (Nat.le_trans (Nat.le_add_right _ _) (Nat.le_add_right _ _)))
          · rcases Nat.lt_or_ge x j with h4 | h4
            · exact HSM.out h300 x hx h4
            · obtain rfl : x = j := Nat.le_antisymm (Nat.le_of_lt_succ hxj) h4
              rw [HD.out]
              exact g3 h
        case measure => simp [intOf]; omega
      · have hi1 : ¬ (N : Int) ≤ 300 := by omega
        have hi0 : (j : Int) < (l.length : Int) := by omega
        go_wp2_with fail
        go_ret
        exact ⟨_, rfl, fun h => by simp at h, hq⟩
    · have hi0 : ¬ (j : Int) < (l.length : Int) := by omega
      go_wp2_with fail
      go_ret
      refine ⟨_, rfl, fun h => ?_, hq⟩
      have hN300 : N ≤ 300 := by
        have h1 := of_decide_eq_true h
        omega
      refine ⟨by omega, fun v hv2 => ?_⟩
      obtain ⟨x, hx, rfl⟩ := List.mem_iff_getElem.1 hv2
      exact HSM.out hN300 x hx (by omega)
end Go.Proofs.YtfglibkffcogcaaGreat
