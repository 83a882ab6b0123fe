/- Movers: asks of the program held against the document's. -/
import Derived.Test.YtfglibkffcogcaaGreatMvB
namespace Go.Proofs.YtfglibkffcogcaaGreat
open Go Go.RowKit

set_option maxRecDepth 100000 in
set_option maxHeartbeats 2000000 in
theorem same27_any (w w0 w1 : World) (I : Nat → Prop) (l : List AskT) (v v' : Value) (hv : ToldV w0 70 U8V l v w) (hr : ToldR w1 I l v' w) (hk : ∀ a ∈ l, 0 ≤ a.ord.kind ∧ a.ord.kind ≤ 255) :
    Calls Tryz.prog 19 #[v, v'] w fun e w' => e = .returned (.bool true) ∧ Nw w w' := by
  rcases hv with ⟨rfl, rfl⟩ | ⟨a, g, A, c, rfl, rfl, hB, ho, _, _⟩
  · rcases hr with ⟨_, rfl⟩ | ⟨a, g, A, c, J, h, _⟩
    · go_enter Tryz.func19, Tryz.ntmps19
      go_wp2_with fail
      refine wp_loop_rounds 1 ?_
      rw [rounds_succ]
      go_wp2_with fail
      go_ret
      exact ⟨rfl, Fr.refl _ _⟩
    · cases h
  · rcases hr with ⟨h, _⟩ | ⟨a', g', A', c', J, h, rfl, hB', hs', hz, _⟩
    · cases h
    · injection h with h
      subst h
      have hka := hk a (List.mem_singleton_self a)
      have ht := fun (n : Later w) => turned_any n.at_ a.ord hka A c
      have hsm := fun (n : Later w) => same22_any n.at_ (inA A) J a.ord A A' c c' (ho.sl.fr n.nw (fun _ _ h => h)) (hs'.fr n.nw (fun _ _ h => h)) hz
      have x0 := fun (n : Later w) => n.cell (show w.cell? ⟨g, 0, none⟩ = some (I64 a.tag) by simpa using hB.cell 0)
      have x1 := fun (n : Later w) => n.cell (show w.cell? ⟨g, 1, none⟩ = some (I64 a.group) by simpa using hB.cell 1)
      have y0 := fun (n : Later w) => n.cell (show w.cell? ⟨g', 0, none⟩ = some (I64 a.tag) by simpa using hB'.cell 0)
      have y1 := fun (n : Later w) => n.cell (show w.cell? ⟨g', 1, none⟩ = some (I64 a.group) by simpa using hB'.cell 1)
      have x2 := fun (n : Later w) => n.cell (show w.cell? ⟨g, 2, none⟩ = some (.int .u8 a.ord.kind) by simpa using hB.cell 2)
      have x3 := fun (n : Later w) => n.cell (show w.cell? ⟨g, 3, none⟩ = some (I64 0) by simpa using hB.cell 3)
      have x4 := fun (n : Later w) => n.cell (show w.cell? ⟨g, 4, none⟩ = some (I64 0) by simpa using hB.cell 4)
      have x5 := fun (n : Later w) => n.cell (show w.cell? ⟨g, 5, none⟩ = some (I64 a.ord.epoch) by simpa using hB.cell 5)
      have x6 := fun (n : Later w) => n.cell (show w.cell? ⟨g, 6, none⟩ = some (.slice none 0 0) by simpa using hB.cell 6)
      have x7 := fun (n : Later w) => n.cell (show w.cell? ⟨g, 7, none⟩ = some (.bool false) by simpa using hB.cell 7)
      have x8 := fun (n : Later w) => n.cell (show w.cell? ⟨g, 8, none⟩ = some (.slice none 0 0) by simpa using hB.cell 8)
      have x9 := fun (n : Later w) => n.cell (show w.cell? ⟨g, 9, none⟩ = some (I64 a.ord.num) by simpa using hB.cell 9)
      have x10 := fun (n : Later w) => n.cell (show w.cell? ⟨g, 10, none⟩ = some (I64 a.ord.stage) by simpa using hB.cell 10)
      have x11 := fun (n : Later w) => n.cell (show w.cell? ⟨g, 11, none⟩ = some (I64 0) by simpa using hB.cell 11)
      have x12 := fun (n : Later w) => n.cell (show w.cell? ⟨g, 12, none⟩ = some (.string ⟨a.ord.lo.toArray⟩) by simpa using hB.cell 12)
      have x13 := fun (n : Later w) => n.cell (show w.cell? ⟨g, 13, none⟩ = some (.string ⟨a.ord.hi.toArray⟩) by simpa using hB.cell 13)
      have x14 := fun (n : Later w) => n.cell (show w.cell? ⟨g, 14, none⟩ = some (.slice A a.ord.bytes.length c) by simpa using hB.cell 14)
      have y2 := fun (n : Later w) => n.cell (show w.cell? ⟨g', 2, none⟩ = some (.int .i64 a.ord.kind) by simpa using hB'.cell 2)
      have y3 := fun (n : Later w) => n.cell (show w.cell? ⟨g', 3, none⟩ = some (I64 0) by simpa using hB'.cell 3)
      have y4 := fun (n : Later w) => n.cell (show w.cell? ⟨g', 4, none⟩ = some (I64 0) by simpa using hB'.cell 4)
      have y5 := fun (n : Later w) => n.cell (show w.cell? ⟨g', 5, none⟩ = some (I64 a.ord.epoch) by simpa using hB'.cell 5)
      have y6 := fun (n : Later w) => n.cell (show w.cell? ⟨g', 6, none⟩ = some (.slice none 0 0) by simpa using hB'.cell 6)
      have y7 := fun (n : Later w) => n.cell (show w.cell? ⟨g', 7, none⟩ = some (.bool false) by simpa using hB'.cell 7)
      have y8 := fun (n : Later w) => n.cell (show w.cell? ⟨g', 8, none⟩ = some (.slice none 0 0) by simpa using hB'.cell 8)
      have y9 := fun (n : Later w) => n.cell (show w.cell? ⟨g', 9, none⟩ = some (I64 a.ord.num) by simpa using hB'.cell 9)
      have y10 := fun (n : Later w) => n.cell (show w.cell? ⟨g', 10, none⟩ = some (I64 a.ord.stage) by simpa using hB'.cell 10)
      have y11 := fun (n : Later w) => n.cell (show w.cell? ⟨g', 11, none⟩ = some (I64 0) by simpa using hB'.cell 11)
      have y12 := fun (n : Later w) => n.cell (show w.cell? ⟨g', 12, none⟩ = some (.string ⟨a.ord.lo.toArray⟩) by simpa using hB'.cell 12)
      have y13 := fun (n : Later w) => n.cell (show w.cell? ⟨g', 13, none⟩ = some (.string ⟨a.ord.hi.toArray⟩) by simpa using hB'.cell 13)
      have y14 := fun (n : Later w) => n.cell (show w.cell? ⟨g', 14, none⟩ = some (.slice A' a.ord.bytes.length c') by simpa using hB'.cell 14)
      clear hB hB' ho hs' hk
      go_enter Tryz.func19, Tryz.ntmps19
      go_wp2_with fail
      refine wp_loop_rounds 2 ?_
      rw [rounds_succ]
      go_upto_region 6 with (fail)
      refine wp_region_later (by kernel_rfl) (by kernel_rfl) ?_
      repeat (go_big_quiet_step ((first | (go_at_call 46; exact Later.call (ht _)) | (go_at_call 45; exact Later.call (hsm _)))))
      refine wpQuiet_later fun w5 q5 => ?_
      go_wp2_with fail
      rw [rounds_succ]
      go_wp2_with fail
      go_ret
      exact ⟨rfl, q5⟩
end Go.Proofs.YtfglibkffcogcaaGreat
