/- WireBack: the walk. -/
import Derived.Test.YtoapobgnfgfobaaRdE
import Derived.Test.YtoapobgnfgfobaaBack
import Derived.Test.YtoapobgnfgfobaaKitB
import Derived.Deep.CutBlock
namespace Go.Proofs.Ytoapobgnfgfobaa
open Go Go.RowKit

def SumAt (w1 : World) (N : Nat → Nat) (len : Nat) (n i : Value) (wx : World) : Prop := ∃ k m : Nat, k ≤ len ∧ i = .int .i64 k ∧ n = .int .i64 m ∧ m = N k ∧ m ≤ 900000000000000 ∧ wx = w1
def SumEnd (w1 : World) (tot : Nat) (n : Value) (wx : World) : Prop := ∃ N : Nat, n = .int .i64 N ∧ N ≤ 900000000000000 ∧ (N = tot ∨ 20000 < N) ∧ wx = w1

/-- The writer, all of it new. -/
def BackW (w : World) (g : Nat) (s : Wr) (wx : World) : Prop := ∃ F, IsWr wx F g s ∧ Nw w wx ∧ ∀ k, F k → w.heap.size ≤ k
theorem BackW.to {w wr w' : World} {g : Nat} {s' : Wr} {F : Nat → Prop} (hq : Nw w wr) (hF : ∀ k, F k → w.heap.size ≤ k) (h : WrTo wr F g s' w') : BackW w g s' w' := by
  obtain ⟨F', i, f, n⟩ := h
  exact ⟨F', i, hq.new f hF, fun k hk => (n k hk).elim (hF k) (fun h => Nat.le_trans hq.size h)⟩

section
variable {w wr : World} {g : Nat} {s : Wr} (hb : BackW w g s wr)
include hb
theorem flag_one (x : Bool) (hsz : s.bs.length ≤ 800000000000) :
    Calls Try.prog 39 #[.pointer (some ⟨g, 0, none⟩), .slice (some ⟨wr.heap.size, 0, none⟩) 1 1] (wr.alloc (.cells #[.bool x] 4)) fun e w' => e = .returned (.pointer (some ⟨g, 0, none⟩)) ∧ BackW w g (wrFlag x s) w' := by
  obtain ⟨F, i, q, hF⟩ := hb
  exact (flags_any _ F (· = wr.heap.size) g s (i.alloc _) _ 1 [x] ((Blk.new _ _ _).sl 0 1) (i.apartNew _) (by simp) hsz).mono fun e w' ⟨he, h⟩ => ⟨he, BackW.to q hF h.alloc⟩
theorem number_one (x : Int) (hsz : s.bs.length ≤ 800000000000) :
    Calls Try.prog 35 #[.pointer (some ⟨g, 0, none⟩), .slice (some ⟨wr.heap.size, 0, none⟩) 1 1] (wr.alloc (.cells #[.int .i64 x] 3)) fun e w' => e = .returned (.pointer (some ⟨g, 0, none⟩)) ∧ BackW w g (wrNum x s) w' := by
  obtain ⟨F, i, q, hF⟩ := hb
  exact (numbers_any _ F (· = wr.heap.size) g s (i.alloc _) _ 1 [x] ((Blk.new _ _ _).sl 0 1) (i.apartNew _) (by simp) hsz).mono fun e w' ⟨he, h⟩ => ⟨he, BackW.to q hF h.alloc⟩
theorem text_one (x : ByteArray) (hsz : s.bs.length + 9 + x.size ≤ 800000000000) :
    Calls Try.prog 40 #[.pointer (some ⟨g, 0, none⟩), .slice (some ⟨wr.heap.size, 0, none⟩) 1 1] (wr.alloc (.cells #[.string x] 9)) fun e w' => e = .returned (.pointer (some ⟨g, 0, none⟩)) ∧ BackW w g (wrRow x.data.toList s) w' := by
  obtain ⟨F, i, q, hF⟩ := hb
  refine (texts_any _ F (· = wr.heap.size) g s (i.alloc _) _ 1 [x] ((Blk.new _ _ _).sl 0 1) (i.apartNew _) ?_).mono fun e w' ⟨he, h⟩ => ⟨he, BackW.to q hF h.alloc⟩
  have : rowsLen (List.map (fun x : ByteArray => x.data.toList) [x]) = x.size := by simp [rowsLen]
  rw [this]
  simpa using hsz
theorem row_one (v : Value) (b : List UInt8) (hv : BytesV wr (· < w.heap.size) v b) (hsz : s.bs.length + 9 + b.length ≤ 800000000000) :
    Calls Try.prog 41 #[.pointer (some ⟨g, 0, none⟩), .slice (some ⟨wr.heap.size, 0, none⟩) 1 1] (wr.alloc (.cells #[v] 43)) fun e w' => e = .returned (.pointer (some ⟨g, 0, none⟩)) ∧ BackW w g (wrRow b s) w' := by
  obtain ⟨F, i, q, hF⟩ := hb
  have hlt : ∀ k, F k → k < wr.heap.size := i.bound
  refine (rows_any _ F (fun k => k < w.heap.size ∨ k = wr.heap.size) g s (i.alloc _) _ 1 [v] [b] (((Blk.new wr 43 #[v]).sl 0 1).mono fun k hk _ => .inr hk) ⟨rfl, fun k hk => ?_⟩ (fun k hk => ⟨?_, fun h => ?_⟩) ?_).mono fun e w' ⟨he, h⟩ => ⟨he, BackW.to q hF h.alloc⟩
  · have : k = 0 := by simpa using hk
    subst this
    exact ⟨v, rfl, (hv.fr (S := fun _ => False) ((Fr.refl _ wr).alloc _) (fun _ _ h => h)).mono fun k hk _ => .inl hk⟩
  · have := q.size
    simp only [World.size_alloc]
    omega
  · have h1 := hF k h
    have h2 := hlt k h
    omega
  · have : rowsLen [b] = b.length := by simp [rowsLen]
    rw [this]
    simpa using hsz
end

theorem opt_len {α : Type} (f : α → Item) (l : List α) (k : Nat) (s : Wr) (h : ∀ a ∈ l, (f a).size ≤ 20000) : (foldW (optI f l[k]?) s).bs.length ≤ s.bs.length + 20010 := by
  have h1 := foldW_len (optI f l[k]?) s 20000 fun i hi => by
    obtain ⟨a, ha, rfl⟩ := mem_optI hi
    exact h a ha
  have h2 := optI_len f l[k]?
  have h3 : (optI f l[k]?).length * (10 + 20000) ≤ 1 * (10 + 20000) := Nat.mul_le_mul_right _ h2
  omega
theorem optI_none {α : Type} (f : α → Item) (l : List α) (k : Nat) (s : Wr) (h : ¬ k < l.length) : foldW (optI f l[k]?) s = s := by rw [List.getElem?_eq_none (by omega)]; rfl
theorem optI_some {α : Type} (f : α → Item) (l : List α) (k : Nat) (s : Wr) (h : k < l.length) : foldW (optI f l[k]?) s = (f l[k]).w s := by rw [List.getElem?_eq_getElem h]; rfl

def LoopW (w : World) (g : Nat) (f : Nat → Wr) (n : Nat) (i : Value) (wx : World) : Prop := ∃ k : Nat, k ≤ n ∧ i = .int .i64 k ∧ BackW w g (f k) wx

/-- Where the look for a wrong number stands. -/
def LookAt (w1 : World) (nums : List Int) (i : Value) (wx : World) : Prop := ∃ k : Nat, k ≤ nums.length ∧ i = .int .i64 k ∧ (∀ j (h : j < nums.length), j < k → Right nums[j]) ∧ wx = w1

set_option maxRecDepth 100000 in
set_option maxHeartbeats 4000000 in
theorem back_walk (w : World) (A2 A3 A4 A5 : Option Addr) (c2 c3 c4 c5 : Nat) (nums : List Int) (flags : List Bool) (texts : List ByteArray) (rows : List (List UInt8)) (vs : List Value)
    (h2 : Sl w (· < w.heap.size) A2 (nums.map I64)) (h3 : Sl w (· < w.heap.size) A3 (flags.map Value.bool)) (h4 : Sl w (· < w.heap.size) A4 (texts.map Value.string)) (h5 : Sl w (· < w.heap.size) A5 vs) (hrs : RowsV w (· < w.heap.size) vs rows)
    (l2 : nums.length ≤ 140737488355328) (l3 : flags.length ≤ 140737488355328) (l4 : texts.length ≤ 140737488355328) (l5 : rows.length ≤ 140737488355328)
    (ht : ∀ t ∈ texts, t.size ≤ 140737488355328) (hr : ∀ t ∈ rows, t.length ≤ 140737488355328) :
    Calls Try.prog 9 #[.slice A2 nums.length c2, .slice A3 flags.length c3, .slice A4 texts.length c4, .slice A5 rows.length c5] w fun e w' => e = .returned (.bool true) ∧ Nw w w' := by
  go_enter Try.func9, Try.ntmps9
  go_wp2_with fail
  refine (awake02 _).mono ?_
  rintro e w1 ⟨rfl, q1⟩
  have H2 := h2.fr q1 (fun _ _ h => h)
  have H3 := h3.fr q1 (fun _ _ h => h)
  have H4 := h4.fr q1 (fun _ _ h => h)
  have H5 := h5.fr q1 (fun _ _ h => h)
  have HRS := hrs.fr q1 (fun _ _ h => h)
  go_upto_block 0 with fail
  go_cut [9] (fun n wx => SumEnd w1 (nums.length + flags.length + texts.length + rows.length + sumUpto ByteArray.size texts texts.length) n wx)
  case first =>
    go_wp2_with fail
    go_loopw [9, 10] (fun n i wx => SumAt w1 (fun k => nums.length + flags.length + texts.length + rows.length + sumUpto ByteArray.size texts k) texts.length n i wx) (fun _ i _ => texts.length - (intOf i).toNat)
    case atStart => exact ⟨0, _, Nat.zero_le _, rfl, rfl, by simp [sumUpto], by omega, rfl⟩
    case round =>
      obtain ⟨k, m, hk, rfl, rfl, hm, hle, rfl⟩ := hrel
      change m = nums.length + flags.length + texts.length + rows.length + sumUpto ByteArray.size texts k at hm
      have HM := Lib.hid hm
      clear hm
      by_cases hN : m ≤ 20000
      · by_cases hlt : k < texts.length
        · obtain ⟨b, o, rfl, hF0, hc⟩ := H4.get hlt
          have hsm := ht _ (List.getElem_mem hlt)
          have hrel2 : SumAt wr (fun k => nums.length + flags.length + texts.length + rows.length + sumUpto ByteArray.size texts k) texts.length (.int .i64 ((m : Int) + (texts[k].size : Int))) (.int .i64 ((k : Int) + 1)) wr := by
            have e : nums.length + flags.length + texts.length + rows.length + sumUpto ByteArray.size texts (k + 1) = m + texts[k].size := by
              rw [sumUpto_succ _ _ _ hlt]; have := HM.out; omega
            exact ⟨k + 1, m + texts[k].size, by omega, rfl, rfl, e.symm, by omega, rfl⟩
          have HR := Lib.hid hrel2
          clear hrel2
          go_wp2_with fail
          go_roundw
          case rel => exact HR.out
          case measure => simp [intOf]; omega
        · go_wp2_with fail
          go_meet
          refine ⟨m, rfl, hle, .inl ?_, rfl⟩
          have e : k = texts.length := by omega
          rw [HM.out, e]
      · by_cases hlt : k < texts.length
        · go_wp2_with fail
          go_meet
          exact ⟨m, rfl, hle, .inr (by omega), rfl⟩
        · go_wp2_with fail
          go_meet
          exact ⟨m, rfl, hle, .inr (by omega), rfl⟩
  case rest =>
    obtain ⟨m1, rfl, hle1, hm1, rfl⟩ := hcut
    go_upto_block 2 with fail
    go_cut [9] (fun n wx => SumEnd wc (m1 + sumUpto List.length rows rows.length) n wx)
    case first =>
      go_wp2_with fail
      go_loopw [9, 11] (fun n i wx => SumAt wc (fun k => m1 + sumUpto List.length rows k) rows.length n i wx) (fun _ i _ => rows.length - (intOf i).toNat)
      case atStart => exact ⟨0, _, Nat.zero_le _, rfl, rfl, by simp [sumUpto], by omega, rfl⟩
      case round =>
        obtain ⟨k, m, hk, rfl, rfl, hm, hle, rfl⟩ := hrel
        change m = m1 + sumUpto List.length rows k at hm
        have HM := Lib.hid hm
        clear hm
        by_cases hN : m ≤ 20000
        · by_cases hlt : k < rows.length
          · obtain ⟨v, hv, A6, c6, rfl, hcl1, hcl2, hs6⟩ := HRS.2 k hlt
            obtain ⟨b, o, rfl, hF0, _, hcs⟩ := H5.at_ (by rintro rfl; simp at hv)
            have hc := hcs k _ hv
            clear hcs hs6
            have HV := Lib.hid hv
            clear hv
            have hsm := hr _ (List.getElem_mem hlt)
            have hrel2 : SumAt wr (fun k => m1 + sumUpto List.length rows k) rows.length (.int .i64 ((m : Int) + (rows[k].length : Int))) (.int .i64 ((k : Int) + 1)) wr := by
              have e : m1 + sumUpto List.length rows (k + 1) = m + rows[k].length := by
                rw [sumUpto_succ _ _ _ hlt]; have := HM.out; omega
              exact ⟨k + 1, m + rows[k].length, by omega, rfl, rfl, e.symm, by omega, rfl⟩
            have HR := Lib.hid hrel2
            clear hrel2
            go_wp2_with fail
            go_roundw
            case rel => exact HR.out
            case measure => simp [intOf]; omega
          · go_wp2_with fail
            go_meet
            refine ⟨m, rfl, hle, .inl ?_, rfl⟩
            have e : k = rows.length := by omega
            rw [HM.out, e]
        · by_cases hlt : k < rows.length
          · go_wp2_with fail
            go_meet
            exact ⟨m, rfl, hle, .inr (by omega), rfl⟩
          · go_wp2_with fail
            go_meet
            exact ⟨m, rfl, hle, .inr (by omega), rfl⟩
    case rest =>
      obtain ⟨n, rfl, hle2, hm2, rfl⟩ := hcut
      by_cases hgt : 20000 < n
      · go_wp2_with fail
        go_ret
        exact ⟨rfl, q1⟩
      · have hn : n ≤ 20000 := by omega
        have hsum : n = nums.length + flags.length + texts.length + rows.length + (texts.map ByteArray.size).sum + (rows.map List.length).sum := by
          rw [← sumUpto_all, ← sumUpto_all]; omega
        have ht' : ∀ t ∈ texts, t.size ≤ 20000 := fun t h => by have := le_sum ByteArray.size texts t h; omega
        have hr' : ∀ t ∈ rows, t.length ≤ 20000 := fun t h => by have := le_sum List.length rows t h; omega
        have b2 : nums.length ≤ n := by omega
        have b3 : flags.length ≤ n := by omega
        have b4 : texts.length ≤ n := by omega
        have b5 : rows.length ≤ n := by omega
        clear hsum hm1 hm2 hle1 hle2 hgt ht hr l2 l3 l4 l5
        go_wp2_with fail
        refine (newWriter_any _).mono ?_
        rintro e w2 ⟨rfl, i2, f2⟩
        have hB : BackW w wc.heap.size ⟨true, []⟩ w2 := ⟨_, i2, q1.tr f2, fun k hk => by rw [hk]; exact q1.size⟩
        have hg0 : w.heap.size ≤ wc.heap.size := q1.size
        generalize wc.heap.size = g at hB hg0 ⊢
        go_upto_block 4 with fail
        go_cut [] (fun wx => BackW w g (foldW (allI rows flags nums texts n) ⟨true, []⟩) wx)
        case first =>
          clear H2 H3 H4 H5 HRS
          go_wp2_with fail
          go_loopw [13] (fun i wx => LoopW w g (fun k => foldW (allI rows flags nums texts k) ⟨true, []⟩) n i wx) (fun i _ => n - (intOf i).toNat)
          case atStart => exact ⟨0, Nat.zero_le _, rfl, hB⟩
          case round =>
            obtain ⟨k, hk, rfl, hat⟩ := hrel
            change BackW w g (foldW (allI rows flags nums texts k) ⟨true, []⟩) wr at hat
            by_cases hlt : k < n
            · have hlen := all_len (flags := flags) (nums := nums) ht' hr' (n := k) (by omega)
              generalize hs : foldW (allI rows flags nums texts k) ⟨true, []⟩ = s at hat hlen
              have HS := Lib.hid hs
              clear hs
              go_upto_if 76 with (fail)
              go_cut [] (fun wx => BackW w g (foldW (optI Item.row rows[k]?) s) wx)
              case first =>
                by_cases hl : k < rows.length
                · have HO := Lib.hid (optI_some Item.row rows k s hl)
                  obtain ⟨F, i, q, hF⟩ := id hat
                  obtain ⟨v, hv, A6, c6, rfl, hcl1, hcl2, hs6⟩ := (hrs.fr q (fun _ _ h => h)).2 k hl
                  obtain ⟨b, o, rfl, hF0, _, hcs⟩ := (h5.fr q (fun _ _ h => h)).at_ (by rintro rfl; simp at hv)
                  have hc := hcs k _ hv
                  clear hcs i hF
                  have HV := Lib.hid hv
                  clear hv
                  have hsm := hr' _ (List.getElem_mem hl)
                  have hcon := row_one hat _ rows[k] ⟨A6, c6, rfl, hcl1, hcl2, hs6⟩ (by omega)
                  go_wp2_with fail
                  refine hcon.mono ?_
                  rintro e w3 ⟨rfl, hb3⟩
                  go_wp2_with fail
                  go_meet
                  rw [HO.out]
                  exact hb3
                · go_wp2_with fail
                  go_meet
                  rw [optI_none _ _ _ _ hl]
                  exact hat
              case rest =>
                clear hat
                have hlen1 := opt_len Item.row rows k s (fun a h => hr' a h)
                generalize hs1 : foldW (optI Item.row rows[k]?) s = s1 at hcut hlen1
                have HS1 := Lib.hid hs1
                clear hs1
                have hb1 := hcut
                clear hcut
                go_upto_if 87 with (fail)
                go_cut [] (fun wx => BackW w g (foldW (optI Item.flag flags[k]?) s1) wx)
                case first =>
                  by_cases hl : k < flags.length
                  · have HO := Lib.hid (optI_some Item.flag flags k s1 hl)
                    obtain ⟨F, i, q, hF⟩ := id hb1
                    obtain ⟨b, o, rfl, hF0, hc⟩ := (h3.fr q (fun _ _ h => h)).get hl
                    clear i hF
                    have hcon := flag_one hb1 flags[k] (by omega)
                    go_wp2_with fail
                    refine hcon.mono ?_
                    rintro e w3 ⟨rfl, hb3⟩
                    go_wp2_with fail
                    go_meet
                    rw [HO.out]
                    exact hb3
                  · go_wp2_with fail
                    go_meet
                    rw [optI_none _ _ _ _ hl]
                    exact hb1
                case rest =>
                  clear hb1
                  have hlen2 := opt_len Item.flag flags k s1 (fun a h => Nat.zero_le _)
                  generalize hs2 : foldW (optI Item.flag flags[k]?) s1 = s2 at hcut hlen2
                  have HS2 := Lib.hid hs2
                  clear hs2
                  have hb2 := hcut
                  clear hcut
                  go_upto_if 98 with (fail)
                  go_cut [] (fun wx => BackW w g (foldW (optI Item.num nums[k]?) s2) wx)
                  case first =>
                    by_cases hl : k < nums.length
                    · have HO := Lib.hid (optI_some Item.num nums k s2 hl)
                      obtain ⟨F, i, q, hF⟩ := id hb2
                      obtain ⟨b, o, rfl, hF0, hc⟩ := (h2.fr q (fun _ _ h => h)).get hl
                      clear i hF
                      have hcon := number_one hb2 nums[k] (by omega)
                      go_wp2_with fail
                      refine hcon.mono ?_
                      rintro e w3 ⟨rfl, hb3⟩
                      go_wp2_with fail
                      go_meet
                      rw [HO.out]
                      exact hb3
                    · go_wp2_with fail
                      go_meet
                      rw [optI_none _ _ _ _ hl]
                      exact hb2
                  case rest =>
                    clear hb2
                    have hlen3 := opt_len Item.num nums k s2 (fun a h => Nat.zero_le _)
                    generalize hs3 : foldW (optI Item.num nums[k]?) s2 = s3 at hcut hlen3
                    have HS3 := Lib.hid hs3
                    clear hs3
                    have hend : ∀ wx : World, BackW w g (foldW (optI Item.text texts[k]?) s3) wx → LoopW w g (fun k => foldW (allI rows flags nums texts k) ⟨true, []⟩) n (.int .i64 ((k : Int) + 1)) wx := fun wx hx => by
                      refine ⟨k + 1, by omega, rfl, ?_⟩
                      have e : foldW (allI rows flags nums texts (k + 1)) ⟨true, []⟩ = foldW (optI Item.text texts[k]?) s3 := by
                        rw [allI, foldW_append, HS.out, roundI, foldW_append, foldW_append, foldW_append, HS1.out, HS2.out, HS3.out]
                      show BackW w g (foldW (allI rows flags nums texts (k + 1)) ⟨true, []⟩) wx
                      rw [e]
                      exact hx
                    have HE := Lib.hid hend
                    clear hend
                    by_cases hl : k < texts.length
                    · have HO := Lib.hid (optI_some Item.text texts k s3 hl)
                      obtain ⟨F, i, q, hF⟩ := id hcut
                      obtain ⟨b, o, rfl, hF0, hc⟩ := (h4.fr q (fun _ _ h => h)).get hl
                      clear i hF
                      have hsm := ht' _ (List.getElem_mem hl)
                      have hcon := text_one hcut texts[k] (by omega)
                      go_wp2_with fail
                      refine hcon.mono ?_
                      rintro e w3 ⟨rfl, hb3⟩
                      go_wp2_with fail
                      go_roundw
                      case rel => exact HE.out _ (by rw [HO.out]; exact hb3)
                      case measure => simp [intOf]; omega
                    · go_wp2_with fail
                      go_roundw
                      case rel => exact HE.out _ (by rw [optI_none _ _ _ _ hl]; exact hcut)
                      case measure => simp [intOf]; omega
            · have hkn : k = n := by omega
              subst hkn
              go_wp2_with fail
              go_meet
              exact hat
        case rest =>
          clear hB i2 f2 H2 H3 H4 H5 HRS
          obtain ⟨F5, i5, q5, hF5⟩ := hcut
          have hlen := all_len (flags := flags) (nums := nums) ht' hr' hn
          by_cases hg : ∀ x ∈ nums, Right x
          · obtain ⟨b, hb, r1, r2, r3⟩ := back_reads (flags := flags) ht' hr' hg n
            rw [hb] at i5 hlen
            clear hb
            have hlb : b.length ≤ 2000000000 := hlen
            clear hlen
            have HG := Lib.hid hg
            clear hg
            have R1 := Lib.hid r1
            clear r1
            have R2 := Lib.hid (r2 0)
            clear r2
            have R3 := Lib.hid r3
            clear r3
            have hdone : Calls Try.prog 25 #[.pointer (some ⟨g, 0, none⟩)] wc fun e w' => ∃ A' c', e = .returned (.tuple #[.slice A' b.length c', .int .i64 0]) ∧ Own w' 5 1 A' b.length c' (b.map B8) ∧ Fr (fun _ => False) wc w' ∧ ∀ k, inA A' k → wc.heap.size ≤ k :=
              done_ok _ _ _ _ i5 rfl (by show b.length ≤ _; omega)
            go_wp2_with fail
            refine hdone.mono ?_
            rintro e w6 ⟨A6, c6, rfl, o6, f6, n6⟩
            have q6 := q5.tr f6
            clear hdone i5 f6 n6 q5
            go_upto_block 6 with fail
            go_cut [] (fun wx => wx = w6)
            case first =>
              go_wp2_with fail
              go_loopw [16] (fun i wx => LookAt w6 nums i wx) (fun i _ => nums.length - (intOf i).toNat)
              case atStart => exact ⟨0, Nat.zero_le _, rfl, fun _ _ h => by omega, rfl⟩
              case round =>
                obtain ⟨k, hk, rfl, hgk, rfl⟩ := hrel
                have HK := Lib.hid hgk
                clear hgk
                by_cases hlt : k < nums.length
                · obtain ⟨b', o, rfl, hF0, hc⟩ := (h2.fr q6 (fun _ _ h => h)).get hlt
                  have hr1 := HG.out _ (List.getElem_mem hlt)
                  have hx1 : ¬ nums[k] < 0 := by have := hr1.1; omega
                  have hx2 : ¬ (4611686018427387903 : Int) < nums[k] := by have := hr1.2; unfold topN at this; omega
                  have hrel2 : LookAt wr nums (.int .i64 ((k : Int) + 1)) wr := ⟨k + 1, by omega, rfl, fun j hj _ => HG.out _ (List.getElem_mem hj), rfl⟩
                  clear hr1
                  go_wp2_with fail
                  go_roundw
                  case rel => exact hrel2
                  case measure => simp [intOf]; omega
                · go_wp2_with fail
                  go_meet
                  rfl
            case rest =>
              obtain rfl := hcut
              go_wp2_with fail
              refine (newReader_any _ _ _ _ _ o6.sl (by omega)).mono ?_
              rintro e w7 ⟨g7, F7, rfl, i7, f7, l7, n7⟩
              have q7 := q6.tr f7
              have hcon := reads_any w7 F7 (· < w.heap.size) g7 (some b) i7 (by show b.length ≤ _; omega) n (by omega) A2 A3 A4 A5 c2 c3 c4 c5 nums flags texts rows vs (h2.fr q7 (fun _ _ h => h)) (h3.fr q7 (fun _ _ h => h)) (h4.fr q7 (fun _ _ h => h)) (h5.fr q7 (fun _ _ h => h)) (hrs.fr q7 (fun _ _ h => h))
                (fun k hk => by have := q6.size; omega) (fun t h => Nat.le_trans (ht' t h) (by omega)) (fun t h => Nat.le_trans (hr' t h) (by omega))
              rw [R1.out, show readsEnd (true, some []) = true from rfl] at hcon
              go_wp2_with fail
              refine hcon.mono ?_
              rintro e w8 ⟨rfl, f8⟩
              clear hcon i7 n7
              have q8 : Nw w w8 := q7.new f8 (fun k e => by rw [e]; exact Nat.le_trans q6.size l7)
              have o8 := (o6.fr f7 (fun _ _ h => h)).fr f8 (fun k hk e => by have := o6.lt k hk; omega)
              clear f7 f8 q7
              go_wp2_with fail
              refine (copy_u8 _ _ _ _ _ o8.sl (by omega)).mono ?_
              rintro e w9 ⟨A9, c9, rfl, o9, f9, n9⟩
              go_wp2_with (at_builtin; refine wl_append rfl _ _ _ rfl 1 (.int .u8 0) Try.underlying43 info_u8 rfl (by decide) rfl (o9.alloc _) rfl ((Blk.new _ _ _).sl 0 1) rfl (B8_oneCell [0]) (by omega) (by unfold maxLen; omega) ?_; intro A10 c10 w10 o10 f10 in10)
              have s10 : Sl w10 (inA A10) A10 ((b ++ [0]).map B8) := by
                have := o10.sl
                rw [List.map_append]
                exact this
              have o12 := ((o8.fr f9 (fun _ _ h => h)).alloc (.cells #[.int .u8 0] 5)).fr f10 (fun k hk hk9 => by have h1 := o8.lt k hk; have h2 := n9 k hk9; omega)
              have q10 : Nw w w10 := ((q8.tr f9).alloc _).new f10 (fun k hk => Nat.le_trans q8.size (n9 k hk))
              have hl1 : (b ++ [(0 : UInt8)]).length = b.length + 1 := by simp
              have hcon := newReader_any w10 (inA A10) A10 c10 (b ++ [0]) s10 (by omega)
              rw [hl1] at hcon
              clear hl1 o9 f9 n9 o10 f10 in10 s10 o8 q8
              refine hcon.mono ?_
              rintro e w11 ⟨g11, F11, rfl, i11, f11, l11, n11⟩
              clear hcon
              have q11 := q10.tr f11
              have hcon : Calls Try.prog 57 #[.pointer (some ⟨g11, 0, none⟩), .int .i64 n, .slice A2 nums.length c2, .slice A3 flags.length c3, .slice A4 texts.length c4, .slice A5 rows.length c5] w11
                  fun e w' => e = .returned (.bool true) ∧ RdTo w11 F11 g11 (some [0]) w' := by
                have h := reads2_any w11 F11 (· < w.heap.size) g11 (some (b ++ [0])) i11 (by show (b ++ [(0 : UInt8)]).length ≤ _; simp; omega) n (by omega) A2 A3 A4 A5 c2 c3 c4 c5 nums flags texts rows vs (h2.fr q11 (fun _ _ h => h)) (h3.fr q11 (fun _ _ h => h)) (h4.fr q11 (fun _ _ h => h)) (h5.fr q11 (fun _ _ h => h)) (hrs.fr q11 (fun _ _ h => h))
                  (fun k hk => by have := q10.size; omega) (fun t h => Nat.le_trans (ht' t h) (by omega)) (fun t h => Nat.le_trans (hr' t h) (by omega))
                rw [R2.out] at h
                exact h
              go_wp2_with fail
              refine hcon.mono ?_
              rintro e w12 ⟨rfl, h12⟩
              clear hcon i11 n11
              have q12 : Nw w w12 := q11.new h12.2 (fun k e => by rw [e]; exact Nat.le_trans q10.size l11)
              have o12 := (o12.fr f11 (fun _ _ h => h)).fr h12.2 (fun k hk e => by have := o12.lt k hk; omega)
              have hL : Calls Try.prog 32 #[.pointer (some ⟨g11, 0, none⟩)] w12 fun e w' => e = .returned (.int .i64 1) ∧ w12 = w' := rdleft_any _ _ _ _ h12.1
              have hE : Calls Try.prog 34 #[.pointer (some ⟨g11, 0, none⟩)] w12 fun e w' => e = .returned (.int .i64 4) ∧ w12 = w' := rdend_any _ _ _ _ h12.1
              clear h12 f11 q11 q10 q6 o6
              go_wp2_with fail
              refine hL.mono ?_
              rintro e w13 ⟨rfl, rfl⟩
              go_wp2_with fail
              refine hE.mono ?_
              rintro e w14 ⟨rfl, rfl⟩
              clear hL hE
              by_cases hb0 : b = []
              · have hz : ((b.length : Int) == 0) = true := by rw [hb0]; rfl
                have hz2 : b.length = 0 := by rw [hb0]; rfl
                clear hb0
                go_wp2_with fail
                go_ret
                exact ⟨rfl, q12⟩
              · have hpos : 0 < b.length := List.length_pos_iff.2 hb0
                have r3 := R3.out hb0
                have e3 : readsEnd (roundsQ rows flags nums texts n (true, some b.dropLast)) = false := by
                  unfold readsEnd
                  rw [r3]
                  cases (roundsQ rows flags nums texts n (true, some b.dropLast)).1 <;> rfl
                have hdl : b.dropLast.length ≤ b.length := by rw [List.length_dropLast]; omega
                have hcap := o12.cap_le.1
                have hs : ∀ w, (Instr.slice 43 (.slice A6 b.length c6) none (some (.int .i64 ((b.length : Int) - 1))) none).run Try.prog w = .ok (.slice A6 b.dropLast.length c6) w := by
                  have e : ((b.dropLast.length : Nat) : Int) = (b.length : Int) - 1 := by rw [List.length_dropLast]; omega
                  have h := slice_h (P := Try.prog) 43 under_bytes 1 size_bytes A6 b.length c6 b.dropLast.length (by omega)
                  rw [e] at h
                  exact h
                have s12 : Sl w12 (inA A6) A6 (b.dropLast.map B8) := by
                  have := o12.sl.pre (k := b.length - 1)
                  rw [← List.map_take, ← List.dropLast_eq_take] at this
                  exact this
                generalize b.dropLast = d at e3 hs s12 hdl
                have E3 := Lib.hid e3
                have HB := Lib.hid hb0
                clear r3 e3 hb0
                go_wp2_with fail
                refine (newReader_any _ _ _ _ _ s12 (by omega)).mono ?_
                rintro e w15 ⟨g15, F15, rfl, i15, f15, l15, n15⟩
                have q15 := q12.tr f15
                have hcon := reads_any w15 F15 (· < w.heap.size) g15 (some d) i15 (by show d.length ≤ _; omega) n (by omega) A2 A3 A4 A5 c2 c3 c4 c5 nums flags texts rows vs (h2.fr q15 (fun _ _ h => h)) (h3.fr q15 (fun _ _ h => h)) (h4.fr q15 (fun _ _ h => h)) (h5.fr q15 (fun _ _ h => h)) (hrs.fr q15 (fun _ _ h => h))
                  (fun k hk => by have := q12.size; omega) (fun t h => Nat.le_trans (ht' t h) (by omega)) (fun t h => Nat.le_trans (hr' t h) (by omega))
                rw [E3.out] at hcon
                go_wp2_with fail
                refine hcon.mono ?_
                rintro e w16 ⟨rfl, f16⟩
                go_wp2_with fail
                go_ret
                exact ⟨rfl, q15.new f16 (fun k e => by rw [e]; exact Nat.le_trans q12.size l15)⟩
          · have hbad : (foldW (allI rows flags nums texts n) ⟨true, []⟩).ok = false := by
              obtain ⟨x, hx⟩ := Classical.not_forall.1 hg
              obtain ⟨hxm, hxr⟩ := Classical.not_imp.1 hx
              obtain ⟨j, hj, rfl⟩ := List.mem_iff_getElem.1 hxm
              exact foldW_bad _ _ _ (num_mem_allI hj (by omega)) hxr
            have HG := Lib.hid hg
            clear hg
            have HBD := done_bad _ _ _ _ i5 hbad
            clear hbad hlen
            go_wp2_with fail
            refine HBD.mono ?_
            rintro e w6 ⟨rfl, rfl⟩
            go_wp2_with fail
            go_loopw [16] (fun i wx => LookAt wc nums i wx) (fun i _ => nums.length - (intOf i).toNat)
            case atStart => exact ⟨0, Nat.zero_le _, rfl, fun _ _ h => by omega, rfl⟩
            case round =>
              obtain ⟨k, hk, rfl, hgk, rfl⟩ := hrel
              by_cases hlt : k < nums.length
              · obtain ⟨b', o, rfl, hF0, hc⟩ := (h2.fr q5 (fun _ _ h => h)).get hlt
                by_cases hx1 : nums[k] < 0
                · clear hgk
                  go_wp2_with fail
                  go_ret
                  exact ⟨rfl, q5⟩
                · by_cases hx2 : (4611686018427387903 : Int) < nums[k]
                  · clear hgk
                    go_wp2_with fail
                    go_ret
                    exact ⟨rfl, q5⟩
                  · have hrel2 : LookAt wr nums (.int .i64 ((k : Int) + 1)) wr := ⟨k + 1, by omega, rfl, fun j hj hjk => by
                      by_cases hjk2 : j < k
                      · exact hgk j hj hjk2
                      · obtain rfl : j = k := by omega
                        exact ⟨by omega, by unfold topN; omega⟩, rfl⟩
                    clear hgk
                    go_wp2_with fail
                    go_roundw
                    case rel => exact hrel2
                    case measure => simp [intOf]; omega
              · exfalso
                refine HG.out fun x hx => ?_
                obtain ⟨j, hj, rfl⟩ := List.mem_iff_getElem.1 hx
                exact hgk j hj (by omega)
end Go.Proofs.Ytoapobgnfgfobaa
