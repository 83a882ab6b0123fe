/- The statements' kit: bytes that are lent. -/
import Derived.Test.YtippdjaakcgeoaaKitA
namespace Go.Proofs.Ytippdjaakcgeoaa
open Go Go.RowKit

/-- The mark of a place in a list of bytes. -/
def mkB (k i : Nat) : UInt8 := UInt8.ofNat ((1000003 * (k + 7) + i) * 11400714819323198485 % 18446744073709551616 / 72057594037927936)
theorem mkB_int (k i : Nat) :
    IntKind.u64.wrap ((1000003 * ((k : Int) + 7) + (i : Int)) * 11400714819323198485) / 72057594037927936 % 256 = ((mkB k i).toNat : Int) := by
  unfold mkB
  rw [UInt8.toNat_ofNat']
  have e : (1000003 * ((k : Int) + 7) + (i : Int)) * 11400714819323198485 = (((1000003 * (k + 7) + i) * 11400714819323198485 : Nat) : Int) := by omega
  rw [e]
  generalize (1000003 * (k + 7) + i) * 11400714819323198485 = Y
  simp only [IntKind.wrap_u64]
  omega

/-- The marks behind what is lent. -/
def behind : List UInt8 := (List.range 12).map (mkB 1)
/-- What 'LentBytes' hands out: a slice with marks in its spare room. -/
def Lent (w : World) (A : Option Addr) (ys : List UInt8) : Prop := Own w 5 1 A (ys.length + 12) (ys.length + 12) ((ys ++ behind).map B8)

def LentRel (w : World) (g : Nat) (ys : List UInt8) (v i : Value) (wr : World) : Prop :=
  ∃ k : Nat, k ≤ 12 ∧ i = .int .i64 k ∧ v = .slice (some ⟨g, 0, none⟩) (ys.length + k) (ys.length + 12) ∧ Own wr 5 1 (some ⟨g, 0, none⟩) (ys.length + k) (ys.length + 12) ((ys ++ (List.range k).map (mkB 1)).map B8) ∧ Nw w wr

/-- 'CopyBytes'. -/
theorem copy_u8 (w : World) (F : Nat → Prop) (A : Option Addr) (c : Nat) (ys : List UInt8) (h : Sl w F A (ys.map B8)) (hsz : ys.length ≤ 1000000000000) :
    Calls Try.prog 29 #[.slice A ys.length c] w fun e w' => ∃ A' c', e = .returned (.slice A' ys.length c') ∧ Own w' 5 1 A' ys.length c' (ys.map B8) ∧ Nw w w' ∧ ∀ k, inA A' k → w.heap.size ≤ k := by
  go_enter Try.func29, Try.ntmps29
  go_wp2_with (at_builtin; refine wl_append rfl _ _ _ rfl 1 (.int .u8 0) Try.underlying38 info_u8 rfl (by decide) rfl (Own.nil _ _ _) rfl h (by simp) (B8_oneCell ys) (by omega) (by unfold maxLen; omega) ?_; intro A' cap' w1 ho hf hin)
  go_ret
  simp only [Nat.zero_add, List.nil_append] at ho
  exact ⟨A', cap', by simp, ho, hf.mono fun k hk => (inA_none k hk).elim, fun k hk => (hin k hk).elim (fun h => (inA_none k h).elim) (fun h => by omega)⟩

theorem quiet_left {P : Program} {f : FuncId} {args : Array Value} {w : World} {n : Nat} {v : Value}
    (h : Calls P f args (w.drewN n) fun e w' => e = .returned v ∧ w.drewN n = w') : Calls P f args (w.drewN n) fun e w'' => e = .returned v ∧ ∃ m, w'' = w.drewN m :=
  h.mono fun _ _ ⟨he, hw⟩ => ⟨he, n, hw.symm⟩
theorem quiet_q {P : Program} {f : FuncId} {args : Array Value} {w : World} {n : Nat} {v : Value}
    (h : Calls P f args (w.drewN n) fun e w' => e = .returned v ∧ Quiet (w.drewN n) w') : Calls P f args (w.drewN n) fun e w'' => e = .returned v ∧ ∃ m, w'' = w.drewN m :=
  h.mono fun _ _ ⟨he, m, hw⟩ => ⟨he, n + m, by rw [hw, World.drewN_drewN]⟩

def KeptRel (w : World) (ys : List UInt8) (i : Value) (wr : World) : Prop := ∃ k : Nat, k ≤ ys.length + 12 ∧ i = .int .i64 k ∧ Quiet w wr

theorem Lent.drewN {w : World} {A : Option Addr} {ys : List UInt8} (h : Lent w A ys) (n : Nat) : Lent (w.drewN n) A ys := h

def OverRel (w : World) (g : Nat) (ys : List UInt8) (i : Value) (wr : World) : Prop :=
  ∃ (k : Nat) (zs : List Value), k ≤ ys.length + 12 ∧ i = .int .i64 k ∧ Own wr 5 1 (some ⟨g, 0, none⟩) (ys.length + 12) (ys.length + 12) zs ∧ Fr (· = g) w wr

/-?-/
end Go.Proofs.Ytippdjaakcgeoaa
