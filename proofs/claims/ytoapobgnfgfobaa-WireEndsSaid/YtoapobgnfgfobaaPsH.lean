/- Past: written and read. -/
import Derived.Test.YtoapobgnfgfobaaPsF
import Derived.Test.YtoapobgnfgfobaaRdD
import Derived.Deep.RegionHeld3
import Derived.Deep.DeepCutAuto
namespace Go.Proofs.Ytoapobgnfgfobaa
open Go Go.RowKit

theorem IsPast.sl {w : World} {g : Nat} {p : Pst} (h : IsPast w g p) : Sl w (· = g) (some ⟨g, 0, none⟩) (p.map I64) := by
  have := h.2.sl 0 8
  have h8 : (p.map I64).length = 8 := by rw [List.length_map, h.1]
  rw [List.drop_zero, List.take_left' h8] at this
  exact this

set_option maxHeartbeats 1000000 in
theorem pastWrite_any (w : World) (g : Nat) (p : Pst) (h : IsPast w g p) (F : Nat → Prop) (gw : Nat) (s : Wr) (hw : IsWr w F gw s) (hg : ¬ F g) (hsz : s.bs.length ≤ 800000000000) :
    Calls Try.prog 23 #[PtrV g, PtrV gw] w fun e w' => e = .returned (PtrV gw) ∧ WrTo w F gw (wrNums p s) w' := by
  have hk := known1_any w g p h
  have h1 := h.fr (S := fun _ => False) ((Fr.refl _ w).alloc (.cells #[PtrV g] 27)) (fun h => h)
  have hcon := numbers_any (w.alloc (.cells #[PtrV g] 27)) F (· = g) gw s (hw.alloc _) (some ⟨g, 0, none⟩) 8 p h1.sl (fun k hk => by subst hk; exact ⟨h1.2.lt, hg⟩) (by rw [h.1]; decide) hsz
  rw [h.1] at hcon
  have HC := Lib.hid hcon
  clear hcon
  go_enter Try.func23, Try.ntmps23
  go_wp2_with (first | (go_at_call 66; refine hk.mono ?_; rintro e w1 ⟨rfl, rfl⟩) | (go_at_call 35; refine HC.out.mono ?_; rintro e w2 ⟨rfl, h2⟩))
  go_ret
  exact ⟨rfl, h2.alloc⟩

def PastRd (w : World) (F : Nat → Prop) (gr : Nat) (q : List Int × Rd) (e : Ending) (w' : World) : Prop :=
  IsRd w' F gr q.2 ∧ Fr (· = gr) w w' ∧ ((q.2 = none ∧ e = .returned (.tuple #[.pointer none, .bool false])) ∨ (∃ bs, q.2 = some bs ∧ ∃ gp, w.heap.size ≤ gp ∧ ¬ F gp ∧ IsPast w' gp q.1 ∧ e = .returned (.tuple #[PtrV gp, .bool true])))

def ReadRel (w : World) (F : Nat → Prop) (gr gp : Nat) (s : Rd) (i : Value) (wx : World) : Prop :=
  ∃ k : Nat, k ≤ 8 ∧ i = .int .i64 k ∧ IsRd wx F gr (rdNums 1073741824 k s).2 ∧ IsPast wx gp ((rdNums 1073741824 k s).1 ++ List.replicate (8 - k) 0) ∧ Fr (· = gr) w wx

theorem rdNums_set (m : Int) (k : Nat) (hk : k < 8) (s : Rd) : ((rdNums m k s).1 ++ List.replicate (8 - k) 0).set k (rdNum m (rdNums m k s).2).1 = (rdNums m (k + 1) s).1 ++ List.replicate (8 - (k + 1)) 0 := by
  have hl := rdNums_len m k s
  rw [List.set_append_right _ _ (by omega), hl, Nat.sub_self, show 8 - k = (8 - (k + 1)) + 1 by omega, List.replicate_succ, List.set_cons_zero]
  simp [rdNums]

set_option maxRecDepth 100000 in
set_option maxHeartbeats 1000000 in
theorem pastRead_any (w : World) (F : Nat → Prop) (gr : Nat) (s : Rd) (h : IsRd w F gr s) : Calls Try.prog 36 #[PtrV gr] w (PastRd w F gr (rdNums 1073741824 8 s)) := by
  go_enter Try.func36, Try.ntmps36
  go_wp2_with (go_at_call 12; refine (pastNew_any _).mono ?_; rintro e w1 ⟨rfl, hp, q1⟩)
  have hgr := h.lt
  have hF0 := h.out
  obtain ⟨gp, hgp⟩ : ∃ gp, gp = w.heap.size := ⟨_, rfl⟩
  rw [← hgp] at hp ⊢
  have hgp2 : w.heap.size ≤ gp := Nat.le_of_eq hgp.symm
  clear hgp
  go_loopw [7] (fun i wx => ReadRel w F gr gp s i wx) (fun i _ => 8 - (intOf i).toNat)
  case atStart => exact ⟨0, Nat.zero_le _, rfl, h.fr q1 (fun h => h) (fun _ _ h => h), hp, q1.on⟩
  case round =>
    obtain ⟨k, hk, rfl, hr, hp, hf⟩ := hrel
    have hne : gp ≠ gr := by omega
    have hnF : ¬ F gp := fun hh => by have := hF0.2 gp hh; omega
    by_cases hlt : k < 8
    · have HS := Lib.hid (rdNums_set 1073741824 k hlt s)
      have hcon := fun (W : World) (hi : IsRd W F gr (rdNums 1073741824 k s).2) => rdnumber_any W F gr _ hi 1073741824
      have hstep : (rdNums 1073741824 (k + 1) s).2 = (rdNum 1073741824 (rdNums 1073741824 k s).2).2 := rfl
      generalize (rdNum 1073741824 (rdNums 1073741824 k s).2).1 = v at hcon HS
      rw [← hstep] at hcon
      have HC := Lib.hid hcon
      clear hcon hstep
      have hcell := hp.num hlt
      generalize ((rdNums 1073741824 k s).1 ++ List.replicate (8 - k) 0).getD k 0 = v0 at hcell
      have hfz := hp.2.frozen k
      have hpl := hp.2.lt
      have hm8 := hp.made
      have hk8 : (⟨gp, k, none⟩ : Addr) ≠ ⟨gp, 8, none⟩ := fun e => by injection e with _ e; omega
      go_wp2_with fail
      (go_region_held3 (fun w' => w'.cell? ⟨gp, 8, none⟩ = some (.bool true)) (first | go_keep | ((exact c8)) | ((rw [World.cell?_setCell_other _ _ _ _ hk8]; exact c8)))
        ((go_at_call 33; refine (HC.out _ (hr.fr (S := fun _ => False) (Fr.refl _ wr).drew (fun h => h) (fun _ _ h => h))).mono ?_; rintro e w2 ⟨rfl, h2⟩; have c1 : w2.cell? ⟨gp, k, none⟩ = some (I64 v0) := (h2.2.cell (p := ⟨gp, k, none⟩) hpl hne).trans hcell; have c8 : w2.cell? ⟨gp, 8, none⟩ = some (.bool true) := (h2.2.cell (p := ⟨gp, 8, none⟩) hpl hne).trans hm8; have fz1 : w2.frozen? ⟨gp, k, none⟩ = false := (h2.2.frozen (p := ⟨gp, k, none⟩) hpl hne).trans hfz)))
      go_wp2_with fail
      go_roundw
      case rel =>
        have hp2 : IsPast w2 gp ((rdNums 1073741824 k s).1 ++ List.replicate (8 - k) 0) := hp.fr (S := (· = gr)) (((Fr.refl (· = gr) wr).drew).tr h2.2) hne
        have hp3 := hp2.set_ hlt v
        rw [HS.out] at hp3
        exact ⟨k + 1, by omega, by go_num, h2.1.fr (S := (· = gp)) ((Fr.refl (· = gp) w2).setCell (p := ⟨gp, k, none⟩) (.inl rfl) _) (fun e => hne e.symm) (fun b hb e => hnF (e ▸ hb)), hp3,
          (hf.trans (S' := (· = gr)) (((Fr.refl (· = gr) wr).drew).tr h2.2) (fun b hb => .inl hb)).setCell (p := ⟨gp, k, none⟩) (.inr hgp2) _⟩
      case measure => simp [intOf]; omega
    · obtain rfl : k = 8 := by omega
      rw [Nat.sub_self, List.replicate_zero, List.append_nil] at hp
      obtain ⟨ns, hns⟩ : ∃ ns, (rdNums 1073741824 8 s).1 = ns := ⟨_, rfl⟩
      have hpost : ∀ (e : Ending) (w' : World) (st : Rd), (rdNums 1073741824 8 s).2 = st → IsRd w' F gr st → Fr (· = gr) w w' → ((st = none ∧ e = .returned (.tuple #[.pointer none, .bool false])) ∨ (∃ bs, st = some bs ∧ IsPast w' gp ns ∧ e = .returned (.tuple #[PtrV gp, .bool true]))) → PastRd w F gr (rdNums 1073741824 8 s) e w' := by
        intro e w' st hst h1 h2 h3
        refine ⟨by rw [hst]; exact h1, h2, ?_⟩
        rw [hst, hns]
        rcases h3 with h3 | ⟨bs, h4, h5, h6⟩
        · exact .inl h3
        · exact .inr ⟨bs, h4, gp, hgp2, hnF, h5, h6⟩
      have HP := Lib.hid hpost
      clear hpost
      rw [hns] at hp
      clear hns
      obtain ⟨st, hst⟩ : ∃ st, (rdNums 1073741824 8 s).2 = st := ⟨_, rfl⟩
      rw [hst] at hr
      have HST := Lib.hid hst
      clear hst
      rcases st with _ | ⟨_ | ⟨x, r⟩⟩
      · go_wp2_with (first | (go_at_call 32; refine (rdleft_any _ _ _ _ hr).mono ?_; rintro e w' ⟨rfl, rfl⟩) | (go_at_call 34; refine (rdend_any _ _ _ _ hr).mono ?_; rintro e w' ⟨rfl, rfl⟩))
        go_ret2
        exact HP.out _ _ _ HST.out hr hf (.inl ⟨rfl, rfl⟩)
      · go_wp2_with (first | (go_at_call 32; refine (rdleft_any _ _ _ _ hr).mono ?_; rintro e w' ⟨rfl, rfl⟩) | (go_at_call 34; refine (rdend_any _ _ _ _ hr).mono ?_; rintro e w' ⟨rfl, rfl⟩))
        go_ret2
        exact HP.out _ _ _ HST.out hr hf (.inr ⟨_, rfl, hp, rfl⟩)
      · have hl : (((rdLeft (some (x :: r)) : Nat) : Int) == 0) = false := by simp [rdLeft]; omega
        go_wp2_with (first | (go_at_call 32; refine (rdleft_any _ _ _ _ hr).mono ?_; rintro e w' ⟨rfl, rfl⟩) | (go_at_call 34; refine (rdend_any _ _ _ _ hr).mono ?_; rintro e w' ⟨rfl, rfl⟩))
        go_ret2
        exact HP.out _ _ _ HST.out hr hf (.inr ⟨_, rfl, hp, rfl⟩)
end Go.Proofs.Ytoapobgnfgfobaa
