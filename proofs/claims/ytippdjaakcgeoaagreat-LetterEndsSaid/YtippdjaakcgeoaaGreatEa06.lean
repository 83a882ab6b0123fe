/- Lemmas of the walks: HdA, LtA. (Laid together by shake.py.) -/
import Derived.Test.YtippdjaakcgeoaaGreatEa04
import Derived.Test.YtippdjaakcgeoaaGreatEa05
set_option linter.unusedVariables false
set_option linter.unusedSimpArgs false
set_option maxRecDepth 100000
set_option maxHeartbeats 16000000
namespace Go.Proofs.YtippdjaakcgeoaaGreat
open Go Go.RowKit
def zfF {α : Type} (s t : Ls α) : Prop := ∀ k, inA s.a k → ¬ inA t.a k
structure LsHd {α : Type} (w : World) (F : Nat → Prop) (E : TypeId) (z : Nat) (f : List α → List Value) (s : Ls α) : Prop where
 own : Own w E z s.a s.l.length s.c (f s.l)
 base : ∀ k, inA s.a k → F k
structure Held {α : Type} (w : World) (F : Nat → Prop) (E : TypeId) (z : Nat) (f : List α → List Value) (ss : List (Ls α)) : Prop where
 each : ∀ s ∈ ss, LsHd w F E z f s
 far : ss.Pairwise zfF
section
variable {α : Type} {w w' w0 : World} {F G H S : Nat → Prop} {E : TypeId} {z : Nat} {f : List α → List Value} {s : Ls α} {ss tt : List (Ls α)}
theorem LsHd.fr (h : LsHd w F E z f s) (hf : Fr S w w') (hn : ∀ k, F k → ¬ S k) : LsHd w' F E z f s := ⟨h.own.fr hf (fun k hk => hn k (h.base k hk)), h.base⟩
theorem LsHd.mono (h : LsHd w F E z f s) (hF : ∀ k, F k → k < w.heap.size → G k) : LsHd w G E z f s := ⟨h.own, fun k hk => hF k (h.base k hk) (h.own.lt k hk)⟩
theorem Held.fr (h : Held w F E z f ss) (hf : Fr S w w') (hn : ∀ k, F k → ¬ S k) : Held w' F E z f ss := ⟨fun s hs => (h.each s hs).fr hf hn, h.far⟩
theorem Held.mono (h : Held w F E z f ss) (hF : ∀ k, F k → k < w.heap.size → G k) : Held w G E z f ss := ⟨fun s hs => (h.each s hs).mono hF, h.far⟩
theorem Held.nw (h : Held w F E z f ss) (hf : Nw w w') : Held w' F E z f ss := h.fr hf (fun _ _ h => h)
theorem Held.nil (w : World) (F : Nat → Prop) (E : TypeId) (z : Nat) (f : List α → List Value) : Held w F E z f [] := ⟨fun _ h => (by cases h), .nil⟩
theorem Held.one (h : LsHd w F E z f s) : Held w F E z f [s] := ⟨fun t ht => by rw [List.mem_singleton.1 ht]; exact h, List.pairwise_singleton _ _⟩
theorem Held.append (h : Held w F E z f ss) (h' : Held w G E z f tt) (hFG : ∀ k, F k → ¬ G k) (hF : ∀ k, F k → k < w.heap.size → H k) (hG : ∀ k, G k → k < w.heap.size → H k) : Held w H E z f (ss ++ tt) :=
 ⟨fun s hs => (List.mem_append.1 hs).elim (fun hs => (h.each s hs).mono hF) (fun hs => (h'.each s hs).mono hG),
  List.pairwise_append.2 ⟨h.far, h'.far, fun a ha b hb k h1 h2 => hFG k ((h.each a ha).base k h1) ((h'.each b hb).base k h2)⟩⟩
def InH (ss : List (Ls α)) (k : Nat) : Prop := ∃ s ∈ ss, inA s.a k
theorem Held.inH (h : Held w F E z f ss) {k : Nat} (hk : InH ss k) : F k := by
 obtain ⟨s, hs, hk⟩ := hk
 exact (h.each s hs).base k hk
theorem Held.ltH (h : Held w F E z f ss) {k : Nat} (hk : InH ss k) : k < w.heap.size := by
 obtain ⟨s, hs, hk⟩ := hk
 exact (h.each s hs).own.lt k hk
theorem Held.frH (h : Held w F E z f ss) (hf : Fr S w w') (hn : ∀ k, InH ss k → ¬ S k) : Held w' F E z f ss := ⟨fun s hs => ⟨(h.each s hs).own.fr hf (fun k hk => hn k ⟨s, hs, hk⟩), (h.each s hs).base⟩, h.far⟩
theorem zao.hd (h : zao w0 w E z f s) : LsHd w (zab w0) E z f s := ⟨h.own, h.base⟩
end
def zbH (c : CfgM) : List (Ls Int) := [c.v, c.o, c.l, c.w]
def zbs (e : EntM) : List (Ls Int) := zbH e.cfg
def zaz (y : LetM) : List (Ls Int) := y.ents.l.flatMap zbs ++ zbH y.base.cfg
def zaB (y : LetM) : List (Ls UInt8) := y.ents.l.map EntM.cmd ++ [y.bytes]
structure zbK (w : World) (F : Nat → Prop) (l : List EntM) : Prop where
 each : ∀ e ∈ l, zau w F e
 ints : Held w F 3 1 zac (l.flatMap zbs)
 cmds : Held w F 5 1 zaw (l.map EntM.cmd)
structure zas (w : World) (F : Nat → Prop) (l : List LetM) : Prop where
 each : ∀ y ∈ l, za3 w F y
 ints : Held w F 3 1 zac (l.flatMap zaz)
 byts : Held w F 5 1 zaw (l.flatMap zaB)
 ents : Held w F 87 7 zal (l.map LetM.ents)
def zbg (w : World) (F : Nat → Prop) (y : LetM) : Prop := zas w F [y]
section
variable {w w' w0 : World} {F G H S : Nat → Prop}
theorem zbK.fr {l : List EntM} (h : zbK w F l) (hf : Fr S w w') (hn : ∀ k, F k → ¬ S k) : zbK w' F l := ⟨fun e he => (h.each e he).fr hf hn, h.ints.fr hf hn, h.cmds.fr hf hn⟩
theorem zbK.mono {l : List EntM} (h : zbK w F l) (hF : ∀ k, F k → k < w.heap.size → G k) : zbK w G l := ⟨fun e he => (h.each e he).mono hF, h.ints.mono hF, h.cmds.mono hF⟩
theorem zbK.nw {l : List EntM} (h : zbK w F l) (hf : Nw w w') : zbK w' F l := h.fr hf (fun _ _ h => h)
theorem zbK.nil (w : World) (F : Nat → Prop) : zbK w F [] := ⟨fun _ h => (by cases h), Held.nil _ _ _ _ _, Held.nil _ _ _ _ _⟩
theorem zbK.append {l m : List EntM} (h : zbK w F l) (h' : zbK w G m) (hFG : ∀ k, F k → ¬ G k) (hF : ∀ k, F k → k < w.heap.size → H k) (hG : ∀ k, G k → k < w.heap.size → H k) : zbK w H (l ++ m) := by
 refine ⟨fun e he => ?_, ?_, ?_⟩
 ·rcases List.mem_append.1 he with he | he
  ·exact (h.each e he).mono hF
  ·exact (h'.each e he).mono hG
 ·rw [List.flatMap_append]; exact h.ints.append h'.ints hFG hF hG
 ·rw [List.map_append]; exact h.cmds.append h'.cmds hFG hF hG
theorem zas.fr {l : List LetM} (h : zas w F l) (hf : Fr S w w') (hn : ∀ k, F k → ¬ S k) : zas w' F l := ⟨fun e he => (h.each e he).fr hf hn, h.ints.fr hf hn, h.byts.fr hf hn, h.ents.fr hf hn⟩
theorem zas.mono {l : List LetM} (h : zas w F l) (hF : ∀ k, F k → k < w.heap.size → G k) : zas w G l := ⟨fun e he => (h.each e he).mono hF, h.ints.mono hF, h.byts.mono hF, h.ents.mono hF⟩
theorem zas.nw {l : List LetM} (h : zas w F l) (hf : Nw w w') : zas w' F l := h.fr hf (fun _ _ h => h)
theorem zas.nil (w : World) (F : Nat → Prop) : zas w F [] := ⟨fun _ h => (by cases h), Held.nil _ _ _ _ _, Held.nil _ _ _ _ _, Held.nil _ _ _ _ _⟩
theorem zas.append {l m : List LetM} (h : zas w F l) (h' : zas w G m) (hFG : ∀ k, F k → ¬ G k) (hF : ∀ k, F k → k < w.heap.size → H k) (hG : ∀ k, G k → k < w.heap.size → H k) : zas w H (l ++ m) := by
 refine ⟨fun e he => ?_, ?_, ?_, ?_⟩
 ·rcases List.mem_append.1 he with he | he
  ·exact (h.each e he).mono hF
  ·exact (h'.each e he).mono hG
 ·rw [List.flatMap_append]; exact h.ints.append h'.ints hFG hF hG
 ·rw [List.flatMap_append]; exact h.byts.append h'.byts hFG hF hG
 ·rw [List.map_append]; exact h.ents.append h'.ents hFG hF hG
theorem zbg.fr {y : LetM} (h : zbg w F y) (hf : Fr S w w') (hn : ∀ k, F k → ¬ S k) : zbg w' F y := zas.fr h hf hn
theorem zbg.mono {y : LetM} (h : zbg w F y) (hF : ∀ k, F k → k < w.heap.size → G k) : zbg w G y := zas.mono h hF
theorem zbg.nw {y : LetM} (h : zbg w F y) (hf : Nw w w') : zbg w' F y := zas.nw h hf
theorem zbg.in_ {y : LetM} (h : zbg w F y) : za3 w F y := h.each y (by simp)
theorem zaQ.hd {c : CfgM} (h : zaQ w0 w c) : Held w (zab w0) 3 1 zac (zbH c) := by
 have far : ∀ {s t : Ls Int}, (∀ k j, inA s.a k → inA t.a j → k < j) → zfF s t := fun h k h1 h2 => by have := h k k h1 h2; omega
 refine ⟨fun s hs => ?_, ?_⟩
 ·simp only [zbH, List.mem_cons, List.not_mem_nil, or_false] at hs
  rcases hs with rfl | rfl | rfl | rfl
  ·exact h.v.hd
  ·exact h.o.hd
  ·exact h.l.hd
  ·exact h.w.hd
 ·unfold zbH
  refine List.pairwise_cons.2 ⟨fun t ht => ?_, List.pairwise_cons.2 ⟨fun t ht => ?_, List.pairwise_cons.2 ⟨fun t ht => ?_, List.pairwise_singleton _ _⟩⟩⟩
  ·simp only [List.mem_cons, List.not_mem_nil, or_false] at ht
   rcases ht with rfl | rfl | rfl
   ·exact far h.vo
   ·exact far h.vl
   ·exact far h.vw
  ·simp only [List.mem_cons, List.not_mem_nil, or_false] at ht
   rcases ht with rfl | rfl
   ·exact far h.ol
   ·exact far h.ow
  ·rw [List.mem_singleton.1 ht]
   exact far h.lw
theorem zaV.hd {e : EntM} (h : zaV w0 w e) : zbK w (zab w0) [e] := by
 refine ⟨fun x hx => by rw [List.mem_singleton.1 hx]; exact h.in_, ?_, ?_⟩
 ·have : [e].flatMap zbs = zbH e.cfg := by simp [zbs]
  rw [this]
  exact h.cfg.hd
 ·exact Held.one h.cmd.hd
theorem zeZ {c : CfgM} {s : Ls Int} (hs : s ∈ zbH c) {k : Nat} (hk : inA s.a k) : zgr c k := by
 simp only [zbH, List.mem_cons, List.not_mem_nil, or_false] at hs
 rcases hs with rfl | rfl | rfl | rfl
 ·exact .inl hk
 ·exact .inr (.inl hk)
 ·exact .inr (.inr (.inl hk))
 ·exact .inr (.inr (.inr hk))
theorem ziK {α β : Type} {g : α → List (Ls β)} {l : List α} {R : α → α → Prop} (h : l.Pairwise R) (h1 : ∀ e ∈ l, (g e).Pairwise zfF) (h2 : ∀ e ∈ l, ∀ f ∈ l, R e f → ∀ s ∈ g e, ∀ t ∈ g f, zfF s t) : (l.flatMap g).Pairwise zfF := by
 induction l with
 | nil => exact .nil
 | cons a l ih =>
  rw [List.flatMap_cons]
  obtain ⟨ha, hl⟩ := List.pairwise_cons.1 h
  refine List.pairwise_append.2 ⟨h1 a List.mem_cons_self, ih hl (fun e he => h1 e (List.mem_cons_of_mem _ he)) (fun e he f hf => h2 e (List.mem_cons_of_mem _ he) f (List.mem_cons_of_mem _ hf)), fun s hs t ht => ?_⟩
  obtain ⟨f, hf, ht⟩ := List.mem_flatMap.1 ht
  exact h2 a List.mem_cons_self f (List.mem_cons_of_mem _ hf) (ha f hf) s hs t ht
theorem zeI.hd {y : LetM} (h : zeI w0 w y) : zbg w (zab w0) y := by
 have e1 : [y].flatMap zaz = zaz y := by simp
 have e2 : [y].flatMap zaB = zaB y := by simp
 have hI : ∀ e ∈ y.ents.l, Held w (zab w0) 3 1 zac (zbs e) := fun e he => (h.each e he).cfg.hd
 refine ⟨fun x hx => by rw [List.mem_singleton.1 hx]; exact h.in_, ?_, ?_, Held.one h.ents.hd⟩
 ·rw [e1]
  refine ⟨fun s hs => ?_, ?_⟩
  ·rcases List.mem_append.1 hs with hs | hs
   ·obtain ⟨e, he, hs⟩ := List.mem_flatMap.1 hs
    exact (hI e he).each s hs
   ·exact h.cfg.hd.each s hs
  ·refine List.pairwise_append.2 ⟨ziK h.sorted (fun e he => (hI e he).far) (fun e he f hf hef s hs t ht k h1 h2 => ?_), h.cfg.hd.far, fun s hs t ht k h1 h2 => ?_⟩
   ·have := hef k k (.inr (zeZ hs h1)) (.inr (zeZ ht h2))
    omega
   ·obtain ⟨e, he, hs⟩ := List.mem_flatMap.1 hs
    have := h.behind e he k k (.inr (zeZ hs h1)) (zeZ ht h2)
    omega
 ·rw [e2]
  refine ⟨fun s hs => ?_, ?_⟩
  ·rcases List.mem_append.1 hs with hs | hs
   ·obtain ⟨e, he, rfl⟩ := List.mem_map.1 hs
    exact (h.each e he).cmd.hd
   ·rw [List.mem_singleton.1 hs]
    exact h.bytes.hd
  ·refine List.pairwise_append.2 ⟨List.pairwise_map.2 (h.sorted.imp fun hef k h1 h2 => ?_), List.pairwise_singleton _ _, fun s hs t ht k h1 h2 => ?_⟩
   ·have := hef k k (.inl h1) (.inl h2)
    omega
   ·obtain ⟨e, he, rfl⟩ := List.mem_map.1 hs
    rw [List.mem_singleton.1 ht] at h2
    have := h.ahead e he k k h2 (.inl h1)
    omega
theorem zbg.make {y : LetM} (F1 F2 F3 : Nat → Prop) (hk : 0 ≤ y.kind ∧ y.kind ≤ 255) (he : zbK w F1 y.ents.l) (hl : LsHd w H 87 7 zal y.ents) (hc : zaD w H y.base.cfg) (hi : Held w F2 3 1 zac (zbH y.base.cfg)) (hb : LsHd w F3 5 1 zaw y.bytes)
  (h12 : ∀ k, F1 k → ¬ F2 k) (h13 : ∀ k, F1 k → ¬ F3 k) (h1 : ∀ k, F1 k → k < w.heap.size → H k) (h2 : ∀ k, F2 k → k < w.heap.size → H k) (h3 : ∀ k, F3 k → k < w.heap.size → H k) : zbg w H y := by
 have e1 : [y].flatMap zaz = zaz y := by simp
 have e2 : [y].flatMap zaB = zaB y := by simp
 have lin : ∀ {α : Type} {E : TypeId} {z : Nat} {f : List α → List Value} {s : Ls α}, LsHd w H E z f s → LsIn w H f s := fun h => ⟨h.own.sl.mono fun k hk _ => h.base k hk, h.own.cap_le⟩
 refine ⟨fun x hx => ?_, ?_, ?_, Held.one hl⟩
 ·rw [List.mem_singleton.1 hx]
  exact ⟨hk, lin hl, fun e hee => (he.each e hee).mono h1, hc, lin (hb.mono h3)⟩
 ·rw [e1]
  exact he.ints.append hi h12 h1 h2
 ·rw [e2]
  exact he.cmds.append (Held.one hb) h13 h1 h3
end
theorem Own.off2 {w : World} {E E' : TypeId} {z z' n n' c c' : Nat} {A A' : Option Addr} {cs cs' : List Value} (h : Own w E z A n c cs) (h' : Own w E' z' A' n' c' cs') (hne : E' ≠ E) : ∀ k, inA A' k → ¬ inA A k := by
 intro k hk hh
 rcases h'.2 with ⟨rfl, _⟩ | ⟨g, cur, rfl, hb, _⟩
 ·exact zaH _ hk
 ·rw [(za9 _ _).1 hk] at hh
  exact h.ne_ hb hne hh
theorem Held.off {α β : Type} {w : World} {F G : Nat → Prop} {E E' : TypeId} {z z' : Nat} {f : List α → List Value} {f' : List β → List Value} {ss : List (Ls α)} {tt : List (Ls β)} (h : Held w F E z f ss) (h' : Held w G E' z' f' tt) (hne : E' ≠ E) : ∀ k, InH tt k → ¬ InH ss k := by
 rintro k ⟨t, ht, h1⟩ ⟨s, hs, h2⟩
 exact (h.each s hs).own.off2 (h'.each t ht).own hne k h1 h2
section
variable {α : Type} {w w' : World} {F : Nat → Prop} {E : TypeId} {z : Nat} {f : List α → List Value}
def atA (ss : List (Ls α)) (k : Nat) : Option Addr := (ss.getD k lsZ).a
def atN (ss : List (Ls α)) (k : Nat) : Nat := (ss.getD k lsZ).l.length
def atC (ss : List (Ls α)) (k : Nat) : Nat := (ss.getD k lsZ).c
theorem zfI (ss : List (Ls α)) : hdrs ss.length (atA ss) (atN ss) (atC ss) = ss.map Ls.v := by
 refine List.ext_getElem (by simp [hdrs]) fun i h1 h2 => ?_
 simp only [List.length_map] at h2
 simp [hdrs, hdr, atA, atN, atC, h2]
theorem Held.rows {ss : List (Ls α)} (h : Held w F E z f ss) : zb4 w E z ss.length (atA ss) (atN ss) (atC ss) (fun k => f (ss.getD k lsZ).l) := fun k hk => by
 have h1 := (h.each _ (List.getElem_mem hk)).own.c
 simpa [atA, atN, atC, List.getD, List.getElem?_eq_getElem hk] using h1
theorem Held.farC {ss : List (Ls α)} (h : Held w F E z f ss) : FarC ss.length (atA ss) (atC ss) := by
 intro i j hi hj hij b hb hb2
 have h1 := (zdr hb).1
 have h2 := (zdr hb2).1
 simp only [atA, List.getD, List.getElem?_eq_getElem hi, List.getElem?_eq_getElem hj, Option.getD_some] at h1 h2
 rcases Nat.lt_or_ge i j with hlt | hge
 ·exact (List.pairwise_iff_getElem.1 h.far i j hi hj hlt) b h1 h2
 ·exact (List.pairwise_iff_getElem.1 h.far j i hj hi (by omega)) b h2 h1
theorem zel {ss : List (Ls α)} {b : Nat} (hb : InC ss.length (atA ss) (atC ss) b) : InH ss b := by
 obtain ⟨k, hk, hb⟩ := hb
 have h1 := (zdr hb).1
 simp only [atA, List.getD, List.getElem?_eq_getElem hk, Option.getD_some] at h1
 exact ⟨_, List.getElem_mem hk, h1⟩
end
open Go Go.RowKit
def mkI (k i : Nat) : Int := 1000003 * ((k : Int) + 7) + (i : Int)
def mkEn (k i : Nat) : EntM := { zcm with term := mkI k i }
def mkLe (k i : Nat) : LetM := { zaP with tag := mkI k i }
def behI : List Int := (List.range 12).map (mkI 1)
def behE : List EntM := (List.range 12).map (mkEn 1)
def behL : List LetM := (List.range 12).map (mkLe 1)
theorem zir : behI.length = 12 := by simp [behI]
theorem zic : behE.length = 12 := by simp [behE]
theorem zi7 : behL.length = 12 := by simp [behL]
def zbl {α : Type} (w : World) (F : Nat → Prop) (E : TypeId) (z : Nat) (f : List α → List Value) (bh : List α) (s : Ls α) : Prop :=
 ∃ g, s.a = some ⟨g, 0, none⟩ ∧ s.c = s.l.length + 12 ∧ s.c ≤ maxLen ∧ Own w E z (some ⟨g, 0, none⟩) (s.l.length + 12) (s.l.length + 12) (f (s.l ++ bh)) ∧ F g
structure zbL (w : World) (F : Nat → Prop) (c : CfgM) : Prop where
 v : zbl w F 3 1 zac behI c.v
 o : zbl w F 3 1 zac behI c.o
 l : zbl w F 3 1 zac behI c.l
 w : zbl w F 3 1 zac behI c.w
structure zbX (w : World) (F : Nat → Prop) (e : EntM) : Prop where
 kind : 0 ≤ e.kind ∧ e.kind ≤ 255
 cmd : zbl w F 5 1 zaw behind e.cmd
 cfg : zbL w F e.cfg
structure zbQ (w : World) (F : Nat → Prop) (s : Ls EntM) : Prop where
 ls : zbl w F 87 7 zal behE s
 each : ∀ e ∈ s.l, zbX w F e
structure zbz (w : World) (F : Nat → Prop) (x : LetM) : Prop where
 kind : 0 ≤ x.kind ∧ x.kind ≤ 255
 ents : zbQ w F x.ents
 cfg : zbL w F x.base.cfg
 bytes : zbl w F 5 1 zaw behind x.bytes
structure zbv (w : World) (F : Nat → Prop) (s : Ls LetM) : Prop where
 ls : zbl w F 50 20 zai behL s
 each : ∀ e ∈ s.l, zbz w F e
section
variable {w w' : World} {F F' S : Nat → Prop} {α : Type} {f : List α → List Value} {E : TypeId} {z : Nat} {bh : List α}
theorem zbl.fr {s : Ls α} (h : zbl w F E z f bh s) (hf : Fr S w w') (hn : ∀ k, F k → ¬ S k) : zbl w' F E z f bh s := by
 obtain ⟨g, h1, h2, h3, h4, h5⟩ := h
 exact ⟨g, h1, h2, h3, h4.fr hf (fun k hk => by rw [(za9 _ _).1 hk]; exact hn g h5), h5⟩
theorem zbl.mono {s : Ls α} (h : zbl w F E z f bh s) (hF : ∀ k, F k → k < w.heap.size → F' k) : zbl w F' E z f bh s := by
 obtain ⟨g, h1, h2, h3, h4, h5⟩ := h
 exact ⟨g, h1, h2, h3, h4, hF g h5 (h4.lt g ((za9 _ _).2 rfl))⟩
theorem zbL.fr {c : CfgM} (h : zbL w F c) (hf : Fr S w w') (hn : ∀ k, F k → ¬ S k) : zbL w' F c := ⟨h.v.fr hf hn, h.o.fr hf hn, h.l.fr hf hn, h.w.fr hf hn⟩
theorem zbL.mono {c : CfgM} (h : zbL w F c) (hF : ∀ k, F k → k < w.heap.size → F' k) : zbL w F' c := ⟨h.v.mono hF, h.o.mono hF, h.l.mono hF, h.w.mono hF⟩
theorem zbX.fr {c : EntM} (h : zbX w F c) (hf : Fr S w w') (hn : ∀ k, F k → ¬ S k) : zbX w' F c := ⟨h.kind, h.cmd.fr hf hn, h.cfg.fr hf hn⟩
theorem zbX.mono {c : EntM} (h : zbX w F c) (hF : ∀ k, F k → k < w.heap.size → F' k) : zbX w F' c := ⟨h.kind, h.cmd.mono hF, h.cfg.mono hF⟩
theorem zbQ.fr {c : Ls EntM} (h : zbQ w F c) (hf : Fr S w w') (hn : ∀ k, F k → ¬ S k) : zbQ w' F c := ⟨h.ls.fr hf hn, fun e he => (h.each e he).fr hf hn⟩
theorem zbQ.mono {c : Ls EntM} (h : zbQ w F c) (hF : ∀ k, F k → k < w.heap.size → F' k) : zbQ w F' c := ⟨h.ls.mono hF, fun e he => (h.each e he).mono hF⟩
theorem zbz.fr {c : LetM} (h : zbz w F c) (hf : Fr S w w') (hn : ∀ k, F k → ¬ S k) : zbz w' F c := ⟨h.kind, h.ents.fr hf hn, h.cfg.fr hf hn, h.bytes.fr hf hn⟩
theorem zbz.mono {c : LetM} (h : zbz w F c) (hF : ∀ k, F k → k < w.heap.size → F' k) : zbz w F' c := ⟨h.kind, h.ents.mono hF, h.cfg.mono hF, h.bytes.mono hF⟩
theorem zbv.fr {c : Ls LetM} (h : zbv w F c) (hf : Fr S w w') (hn : ∀ k, F k → ¬ S k) : zbv w' F c := ⟨h.ls.fr hf hn, fun e he => (h.each e he).fr hf hn⟩
theorem zbv.mono {c : Ls LetM} (h : zbv w F c) (hF : ∀ k, F k → k < w.heap.size → F' k) : zbv w F' c := ⟨h.ls.mono hF, fun e he => (h.each e he).mono hF⟩
theorem zbl.nw {s : Ls α} (h : zbl w F E z f bh s) (hf : Nw w w') : zbl w' F E z f bh s := h.fr hf (fun _ _ h => h)
theorem zbL.nw {c : CfgM} (h : zbL w F c) (hf : Nw w w') : zbL w' F c := h.fr hf (fun _ _ h => h)
theorem zbX.nw {c : EntM} (h : zbX w F c) (hf : Nw w w') : zbX w' F c := h.fr hf (fun _ _ h => h)
theorem zbQ.nw {c : Ls EntM} (h : zbQ w F c) (hf : Nw w w') : zbQ w' F c := h.fr hf (fun _ _ h => h)
theorem zbz.nw {c : LetM} (h : zbz w F c) (hf : Nw w w') : zbz w' F c := h.fr hf (fun _ _ h => h)
theorem zbv.nw {c : Ls LetM} (h : zbv w F c) (hf : Nw w w') : zbv w' F c := h.fr hf (fun _ _ h => h)
theorem zbl.in_ {s : Ls α} (h : zbl w F E z f bh s) (ht : ∀ (l m : List α), f (l ++ m) = f l ++ f m) : LsIn w F f s := by
 obtain ⟨g, h1, h2, h3, h4, h5⟩ := h
 refine ⟨?_, by omega, h3⟩
 have h6 := h4.sl.pre (k := (f s.l).length)
 rw [ht, List.take_left' rfl, ← h1] at h6
 exact h6.mono fun k hk _ => by rw [h1] at hk; rw [(za9 _ _).1 hk]; exact h5
theorem zdX (l m : List UInt8) : zaw (l ++ m) = zaw l ++ zaw m := by simp [zaw]
theorem zbL.in_ {c : CfgM} (h : zbL w F c) : zaD w F c := ⟨h.v.in_ zck, h.o.in_ zck, h.l.in_ zck, h.w.in_ zck⟩
theorem zbX.in_ {c : EntM} (h : zbX w F c) : zau w F c := ⟨h.kind, h.cmd.in_ zdX, h.cfg.in_⟩
theorem zbQ.in_ {c : Ls EntM} (h : zbQ w F c) : EntsIn w F c := ⟨h.ls.in_ zcx, fun e he => (h.each e he).in_⟩
theorem zbz.in_ {c : LetM} (h : zbz w F c) : za3 w F c := ⟨h.kind, h.ents.in_.ls, h.ents.in_.each, h.cfg.in_, h.bytes.in_ zdX⟩
theorem zbv.in_ {c : Ls LetM} (h : zbv w F c) : LetsIn w F c := ⟨h.ls.in_ zcX, fun e he => (h.each e he).in_⟩
end
theorem zct (w : World) (k i : Nat) (hk : k ≤ 1000000000000) (hi : i ≤ 100000000000000) :
  Calls Tryz.prog 136 #[.int .i64 (k : Int), .int .i64 (i : Int)] w fun e w' => e = .returned (.int .i64 (mkI k i)) ∧ w = w' := zi2 w k i (by omega) (by omega) (by omega) (by omega)
theorem zc9 (w : World) (k i : Nat) (hk : k ≤ 1000000000000) (hi : i ≤ 100000000000000) :
  Calls Tryz.prog 138 #[.int .i64 (k : Int), .int .i64 (i : Int)] w fun e w' => e = .returned (.agg (entA (mkEn k i))) ∧ Nw w w' := by
 have hone := zbo (mkEn k i)
 have hT := Blk.new w 87 zE9A
 have hmk := zct (w.alloc (.cells zE9A 87)) k i hk hi
 go_enter Tryz.func138, Tryz.ntmps138
 go_wp2_with fail
 refine hmk.mono ?_
 rintro e w1 ⟨rfl, rfl⟩
 have hE := hT.row (entA (mkEn k i))
 go_wp2_with (refine wpList_store_row rfl 87 _ _ rfl w.heap.size (entA (mkEn k i)) rfl rfl 87 _ hT (by kernel_rfl) rfl hone ?_)
 refine bodyPost_ret (v := .agg (entA (mkEn k i))) ?_ rfl ?_
 ·exact results_cell_row rfl _ _ w.heap.size 87 _ (0, 0) _ rfl hE Tryz.underlying87 rfl (by kernel_rfl)
 exact ⟨rfl, ((Fr.refl (fun _ => False) w).alloc _).setRow (.inr (Nat.le_refl _)) _⟩
theorem zc3 (w : World) (k i : Nat) (hk : k ≤ 1000000000000) (hi : i ≤ 100000000000000) :
  Calls Tryz.prog 65 #[.int .i64 (k : Int), .int .i64 (i : Int)] w fun e w' => e = .returned (.agg (letA (mkLe k i))) ∧ Nw w w' := by
 have hone := zbc (mkLe k i)
 have hT := Blk.new w 50 zL9A
 have hmk := zct (w.alloc (.cells zL9A 50)) k i hk hi
 go_enter Tryz.func65, Tryz.ntmps65
 go_wp2_with fail
 refine hmk.mono ?_
 rintro e w1 ⟨rfl, rfl⟩
 have hE := hT.row (letA (mkLe k i))
 go_wp2_with (refine wpList_store_row rfl 50 _ _ rfl w.heap.size (letA (mkLe k i)) rfl rfl 50 _ hT (by kernel_rfl) rfl hone ?_)
 refine bodyPost_ret (v := .agg (letA (mkLe k i))) ?_ rfl ?_
 ·exact results_cell_row rfl _ _ w.heap.size 50 _ (0, 0) _ rfl hE Tryz.underlying50 rfl (by kernel_rfl)
 exact ⟨rfl, ((Fr.refl (fun _ => False) w).alloc _).setRow (.inr (Nat.le_refl _)) _⟩
theorem zgw : Tryz.prog.underlying 41 = some (.slice (Tryz.prog.elem 41)) := by kernel_rfl
theorem zhz (w : World) : (sizeOf (Tryz.prog.elem 41)).run Tryz.prog w = .ok 1 w := by kernel_rfl
theorem zgh : Tryz.prog.underlying 43 = some (.slice (Tryz.prog.elem 43)) := by kernel_rfl
theorem zhd (w : World) : (sizeOf (Tryz.prog.elem 43)).run Tryz.prog w = .ok 7 w := by kernel_rfl
theorem zgn : Tryz.prog.underlying 28 = some (.slice (Tryz.prog.elem 28)) := by kernel_rfl
theorem zhC (w : World) : (sizeOf (Tryz.prog.elem 28)).run Tryz.prog w = .ok 20 w := by kernel_rfl
def LentIR (w : World) (g : Nat) (ys : List Int) (v i : Value) (wr : World) : Prop :=
 ∃ k : Nat, k ≤ 12 ∧ i = .int .i64 k ∧ v = .slice (some ⟨g, 0, none⟩) (ys.length + k) (ys.length + 12) ∧ Own wr 3 1 (some ⟨g, 0, none⟩) (ys.length + k) (ys.length + 12) (zac (ys ++ (List.range k).map (mkI 1))) ∧ Nw w wr
theorem zeq (w : World) (F : Nat → Prop) (A : Option Addr) (c : Nat) (ys : List Int) (h : Sl w F A (zac ys)) (hsz : ys.length ≤ 1000000000) :
  Calls Tryz.prog 202 #[.slice A ys.length c] w fun e w' => ∃ A' c', e = .returned (.slice A' ys.length c') ∧ zbl w' (zab w) 3 1 zac behI ⟨A', c', ys⟩ ∧ Nw w w' := by
 go_enter Tryz.func202, Tryz.ntmps202
 go_wp2_with (first | (at_make; refine zeX rfl _ _ _ rfl 8 (.int .i64 0) Tryz.underlying41 zf0 .i64 .i64 ((ys.length : Int) + 12) (ys.length + 12) rfl rfl (by omega) (by omega) (by unfold maxLen; omega) ?_; intro w1 ho1 hq1; have hs1 := h.fr hq1 (fun _ _ h => h)) | (at_builtin; refine zay rfl _ _ _ rfl 8 (.int .i64 0) Tryz.underlying41 zf0 rfl (by decide) rfl ho1 rfl hs1 (by simp [zac]) (zeO ys) (by omega) (by unfold maxLen; omega) ?_; intro A' cap' w2 hap))
 rcases hap with ⟨ho2, _, ⟨_, rfl, rfl, hf2⟩ | ⟨hlt, _⟩⟩
 rotate_left
 ·omega
 simp only [Nat.zero_add, List.nil_append] at ho2 ⊢
 have hq2 : Nw w w2 := hq1.new hf2 (fun k hk => by rw [(za9 _ _).1 hk]; exact Nat.le_refl _)
 clear hf2 ho1 hs1 hq1
 go_wp2_with fail
 go_loopw [3, 4] (fun v i wr => LentIR w w.heap.size ys v i wr) (fun _ i _ => 12 - (intOf i).toNat)
 case atStart => exact ⟨0, by omega, rfl, rfl, by simpa using ho2, hq2⟩
 case round =>
  obtain ⟨k, hk, rfl, rfl, ho, hq⟩ := hrel
  by_cases hlt : k < 12
  ·have hmk := fun w1 => zct w1 1 k (by omega) (by omega)
   have HMK := Lib.hid hmk
   clear hmk
   go_wp2_with (first | (go_at_call 136; refine (HMK.out _).mono ?_; rintro e w3 ⟨rfl, rfl⟩) | (at_builtin; refine zay rfl _ _ _ rfl 8 (.int .i64 0) Tryz.underlying41 zf0 rfl (by decide) rfl (ho.alloc _) rfl (zaI _ 3 (zac [mkI 1 k]) _ rfl) rfl (zeO [mkI 1 k]) (by omega) (by unfold maxLen; omega) ?_; intro A' cap' w2 hap))
   rcases hap with ⟨ho3, _, ⟨_, rfl, rfl, hf3⟩ | ⟨hlt, _⟩⟩
   rotate_left
   ·omega
   have hq3 : Nw w w2 := (hq.alloc _).new hf3 (fun k hk => by rw [(za9 _ _).1 hk]; exact Nat.le_refl _)
   go_wp2_with fail
   go_roundw
   case rel =>
    refine ⟨k + 1, by omega, by go_num, by simp [Nat.add_assoc], ?_, hq3⟩
    rw [List.range_succ]
    have e : ys.length + (k + 1) = ys.length + k + 1 := by omega
    rw [e, List.map_append, ← List.append_assoc, zck]
    exact ho3
   case measure => simp [intOf]; omega
  ·have hk12 : k = 12 := by omega
   subst hk12
   have hs := zcN (P := Tryz.prog) 41 zgw 1 zhz (some ⟨w.heap.size, 0, none⟩) (ys.length + 12) (ys.length + 12) ys.length (by omega)
   go_wp2_with fail
   go_ret
   exact ⟨some ⟨w.heap.size, 0, none⟩, ys.length + 12, rfl, ⟨_, rfl, rfl, by show ys.length + 12 ≤ maxLen; unfold maxLen; omega, ho, Nat.le_refl _⟩, hq⟩
theorem zgN (w : World) (F : Nat → Prop) (A : Option Addr) (c : Nat) (ys : List UInt8) (h : Sl w F A (zaw ys)) (hsz : ys.length ≤ 1000000000) :
  Calls Tryz.prog 42 #[.slice A ys.length c] w fun e w' => ∃ A' c', e = .returned (.slice A' ys.length c') ∧ zbl w' (zab w) 5 1 zaw behind ⟨A', c', ys⟩ ∧ Nw w w' :=
 (zmw w F A c ys h (by omega)).mono fun e w' ⟨g, h1, h2, h3, h4⟩ => ⟨some ⟨g, 0, none⟩, ys.length + 12, h1, ⟨g, rfl, rfl, by show ys.length + 12 ≤ maxLen; unfold maxLen; omega, h2, h4⟩, h3⟩
theorem ziG (w : World) (F : Nat → Prop) (x : CfgM) (hx : zaD w F x) (hz : zaY x) :
  Calls Tryz.prog 139 #[.agg (cfgA x)] w fun e w' => ∃ y : CfgM, e = .returned (.agg (cfgA y)) ∧ y.x = x.x ∧ zbL w' (zab w) y ∧ Nw w w' := by
 obtain ⟨X, hX⟩ : ∃ X, X = w.heap.size := ⟨_, rfl⟩
 obtain ⟨Y, hY⟩ : ∃ Y, Y = w.heap.size + 1 := ⟨_, rfl⟩
 obtain ⟨W0, hW0⟩ : ∃ W, W = w.alloc (.cells (cfgA x) 45) := ⟨_, rfl⟩
 have p0 : Nw w W0 := by rw [hW0]; exact (Fr.refl (fun _ => False) _).alloc _
 have x0 : Blk W0 X 45 (cfgA x) := by rw [hW0, hX]; exact Blk.new _ _ _
 have hz0 : W0.heap.size = Y := by rw [hW0, hY]; simp
 obtain ⟨W1, hW1⟩ : ∃ W, W = W0.alloc (.cells zC9A 45) := ⟨_, rfl⟩
 have p1 : Nw W0 W1 := by rw [hW1]; exact (Fr.refl (fun _ => False) _).alloc _
 have y1 : Blk W1 Y 45 zC9A := by rw [hW1, ← hz0]; exact Blk.new _ _ _
 have x1 := x0.fr p1 (fun h => h)
 have Q1 : Nw w W1 := p0.tr p1
 have hXw : w.heap.size ≤ X := by omega
 have hYw : w.heap.size ≤ Y := by omega
 have hXY : X ≠ Y := by omega
 have hXS : ∀ b, zab W1 b → ¬ b = X := fun b hb he => by have := x1.lt; unfold zab at hb; omega
 have hYS : ∀ b, zab W1 b → ¬ b = Y := fun b hb he => by have := y1.lt; unfold zab at hb; omega
 have hS1 : W1.heap.size ≤ W1.heap.size := Nat.le_refl _
 have hSw := Q1.size
 have HX := Lib.hid hX
 have HY := Lib.hid hY
 have HW0 := Lib.hid hW0
 have HW1 := Lib.hid hW1
 have HZ0 := Lib.hid hz0
 clear hX hY hW0 hW1 hz0 x0
 go_enter Tryz.func139, Tryz.ntmps139
 go_upto_region 1 with (fail)
 rw [← HY.out, ← HX.out, ← HW0.out, ← HW1.out]
 have l2 : W1.cell? ⟨X, 0, none⟩ = some (.slice x.v.a x.v.l.length x.v.c) := by simpa using x1.cell 0
 go_wp2_with fail
 refine (zeq _ F _ _ _ ((hx.v.nw Q1).sl) (by have := hz.v; omega)).mono ?_
 rintro e v2 ⟨A1, c1, rfl, w1, q2⟩
 have Qv2 : Nw w v2 := Q1.tr q2
 have xv2 := x1.fr q2 (fun h => h)
 have yv2 := y1.fr q2 (fun h => h)
 have f2 := xv2.frozen 0
 have g2 : v2.cell? ⟨X, 0, none⟩ = some (.slice x.v.a x.v.l.length x.v.c) := by simpa using xv2.cell 0
 obtain ⟨W2, hW2⟩ : ∃ W, W = v2.setCell ⟨X, 0, none⟩ (.slice A1 x.v.l.length c1) := ⟨_, rfl⟩
 have x2 : Blk W2 X 45 #[.slice A1 x.v.l.length c1, .slice x.o.a x.o.l.length x.o.c, .slice x.l.a x.l.l.length x.l.c, .slice x.w.a x.w.l.length x.w.c] := by rw [hW2]; exact xv2.set_ 0 _
 have m2 : Fr (· = X) v2 W2 := by rw [hW2]; exact (Fr.refl (· = X) _).set1 _ _
 have y2 := yv2.fr m2 (fun h => hXY h.symm)
 have Q2 : Nw w W2 := Qv2.new m2 (fun b hb => by omega)
 have n1 := (w1.mono (F' := zab W1) (fun k hk _ => Nat.le_trans hS1 hk)).fr m2 hXS
 have hS2 : W1.heap.size ≤ W2.heap.size := Nat.le_trans (Nat.le_trans hS1 q2.size) m2.size
 have HW2 := Lib.hid hW2
 clear hW2 l2
 go_upto_region 2 with (fail)
 rw [← HW2.out]
 clear f2 g2
 have l3 : W2.cell? ⟨X, 1, none⟩ = some (.slice x.o.a x.o.l.length x.o.c) := by simpa using x2.cell 1
 go_wp2_with fail
 refine (zeq _ F _ _ _ ((hx.o.nw Q2).sl) (by have := hz.o; omega)).mono ?_
 rintro e v3 ⟨A2, c2, rfl, w2, q3⟩
 have Qv3 : Nw w v3 := Q2.tr q3
 have xv3 := x2.fr q3 (fun h => h)
 have yv3 := y2.fr q3 (fun h => h)
 have f3 := xv3.frozen 1
 have g3 : v3.cell? ⟨X, 1, none⟩ = some (.slice x.o.a x.o.l.length x.o.c) := by simpa using xv3.cell 1
 obtain ⟨W3, hW3⟩ : ∃ W, W = v3.setCell ⟨X, 1, none⟩ (.slice A2 x.o.l.length c2) := ⟨_, rfl⟩
 have x3 : Blk W3 X 45 #[.slice A1 x.v.l.length c1, .slice A2 x.o.l.length c2, .slice x.l.a x.l.l.length x.l.c, .slice x.w.a x.w.l.length x.w.c] := by rw [hW3]; exact xv3.set_ 1 _
 have m3 : Fr (· = X) v3 W3 := by rw [hW3]; exact (Fr.refl (· = X) _).set1 _ _
 have y3 := yv3.fr m3 (fun h => hXY h.symm)
 have Q3 : Nw w W3 := Qv3.new m3 (fun b hb => by omega)
 have n1 := (n1.nw q3).fr m3 hXS
 have n2 := (w2.mono (F' := zab W1) (fun k hk _ => Nat.le_trans hS2 hk)).fr m3 hXS
 have hS3 : W1.heap.size ≤ W3.heap.size := Nat.le_trans (Nat.le_trans hS2 q3.size) m3.size
 have HW3 := Lib.hid hW3
 clear hW3 l3
 go_upto_region 3 with (fail)
 rw [← HW3.out]
 clear f3 g3
 have l4 : W3.cell? ⟨X, 2, none⟩ = some (.slice x.l.a x.l.l.length x.l.c) := by simpa using x3.cell 2
 go_wp2_with fail
 refine (zeq _ F _ _ _ ((hx.l.nw Q3).sl) (by have := hz.l; omega)).mono ?_
 rintro e v4 ⟨A3, c3, rfl, w3, q4⟩
 have Qv4 : Nw w v4 := Q3.tr q4
 have xv4 := x3.fr q4 (fun h => h)
 have yv4 := y3.fr q4 (fun h => h)
 have f4 := xv4.frozen 2
 have g4 : v4.cell? ⟨X, 2, none⟩ = some (.slice x.l.a x.l.l.length x.l.c) := by simpa using xv4.cell 2
 obtain ⟨W4, hW4⟩ : ∃ W, W = v4.setCell ⟨X, 2, none⟩ (.slice A3 x.l.l.length c3) := ⟨_, rfl⟩
 have x4 : Blk W4 X 45 #[.slice A1 x.v.l.length c1, .slice A2 x.o.l.length c2, .slice A3 x.l.l.length c3, .slice x.w.a x.w.l.length x.w.c] := by rw [hW4]; exact xv4.set_ 2 _
 have m4 : Fr (· = X) v4 W4 := by rw [hW4]; exact (Fr.refl (· = X) _).set1 _ _
 have y4 := yv4.fr m4 (fun h => hXY h.symm)
 have Q4 : Nw w W4 := Qv4.new m4 (fun b hb => by omega)
 have n1 := (n1.nw q4).fr m4 hXS
 have n2 := (n2.nw q4).fr m4 hXS
 have n3 := (w3.mono (F' := zab W1) (fun k hk _ => Nat.le_trans hS3 hk)).fr m4 hXS
 have hS4 : W1.heap.size ≤ W4.heap.size := Nat.le_trans (Nat.le_trans hS3 q4.size) m4.size
 have HW4 := Lib.hid hW4
 clear hW4 l4
 go_upto_region 4 with (fail)
 rw [← HW4.out]
 clear f4 g4
 have l5 : W4.cell? ⟨X, 3, none⟩ = some (.slice x.w.a x.w.l.length x.w.c) := by simpa using x4.cell 3
 go_wp2_with fail
 refine (zeq _ F _ _ _ ((hx.w.nw Q4).sl) (by have := hz.w; omega)).mono ?_
 rintro e v5 ⟨A4, c4, rfl, w4, q5⟩
 have Qv5 : Nw w v5 := Q4.tr q5
 have xv5 := x4.fr q5 (fun h => h)
 have yv5 := y4.fr q5 (fun h => h)
 have f5 := xv5.frozen 3
 have g5 : v5.cell? ⟨X, 3, none⟩ = some (.slice x.w.a x.w.l.length x.w.c) := by simpa using xv5.cell 3
 obtain ⟨W5, hW5⟩ : ∃ W, W = v5.setCell ⟨X, 3, none⟩ (.slice A4 x.w.l.length c4) := ⟨_, rfl⟩
 have x5 : Blk W5 X 45 #[.slice A1 x.v.l.length c1, .slice A2 x.o.l.length c2, .slice A3 x.l.l.length c3, .slice A4 x.w.l.length c4] := by rw [hW5]; exact xv5.set_ 3 _
 have m5 : Fr (· = X) v5 W5 := by rw [hW5]; exact (Fr.refl (· = X) _).set1 _ _
 have y5 := yv5.fr m5 (fun h => hXY h.symm)
 have Q5 : Nw w W5 := Qv5.new m5 (fun b hb => by omega)
 have n1 := (n1.nw q5).fr m5 hXS
 have n2 := (n2.nw q5).fr m5 hXS
 have n3 := (n3.nw q5).fr m5 hXS
 have n4 := (w4.mono (F' := zab W1) (fun k hk _ => Nat.le_trans hS4 hk)).fr m5 hXS
 have hS5 : W1.heap.size ≤ W5.heap.size := Nat.le_trans (Nat.le_trans hS4 q5.size) m5.size
 have HW5 := Lib.hid hW5
 clear hW5 l5
 go_upto_region 5 with (fail)
 rw [← HW5.out]
 clear f5 g5
 have lz : ∀ p u, ([.slice A1 x.v.l.length c1, .slice A2 x.o.l.length c2, .slice A3 x.l.l.length c3, .slice A4 x.w.l.length c4] : List Value)[p]? = some u → W5.cell? ⟨X, 0 + p, none⟩ = some u := Blk.cells_in x5 0 4
 have hz := Blk.there (l := zC9L) y5 0 4 (by show 0 + 4 ≤ 4; omega)
 have oz : (#[.slice A1 x.v.l.length c1, .slice A2 x.o.l.length c2, .slice A3 x.l.l.length c3, .slice A4 x.w.l.length c4] : Array Value).all (·.oneCell') = true := by rw [List.all_toArray]; simp only [List.all_cons, List.all_nil]; rfl
 obtain ⟨WZ, hWZ⟩ : ∃ W, W = W5.setCells Y 0 [.slice A1 x.v.l.length c1, .slice A2 x.o.l.length c2, .slice A3 x.l.l.length c3, .slice A4 x.w.l.length c4] := ⟨_, rfl⟩
 have yz : Blk WZ Y 45 #[.slice A1 x.v.l.length c1, .slice A2 x.o.l.length c2, .slice A3 x.l.l.length c3, .slice A4 x.w.l.length c4] := by rw [hWZ]; exact Blk.setCells (l := zC9L) y5 0 [.slice A1 x.v.l.length c1, .slice A2 x.o.l.length c2, .slice A3 x.l.l.length c3, .slice A4 x.w.l.length c4]
 have mz : Fr (· = Y) W5 WZ := by rw [hWZ]; exact (Fr.refl (· = Y) _).setCells _ _
 have QZ : Nw w WZ := Q5.new mz (fun b hb => by omega)
 have HWZ := Lib.hid hWZ
 clear hWZ
 have n1 := (n1.fr mz hYS).mono (F' := zab w) (fun k hk _ => Nat.le_trans hSw hk)
 have n2 := (n2.fr mz hYS).mono (F' := zab w) (fun k hk _ => Nat.le_trans hSw hk)
 have n3 := (n3.fr mz hYS).mono (F' := zab w) (fun k hk _ => Nat.le_trans hSw hk)
 have n4 := (n4.fr mz hYS).mono (F' := zab w) (fun k hk _ => Nat.le_trans hSw hk)
 go_wp2_with (first | (refine za5 rfl 45 _ rfl X 0 rfl [.slice A1 x.v.l.length c1, .slice A2 x.o.l.length c2, .slice A3 x.l.l.length c3, .slice A4 x.w.l.length c4] _ lz Tryz.underlying45 rfl (by kernel_rfl) ?_) | (refine wpList_store_mid rfl 45 _ _ rfl Y 0 #[.slice A1 x.v.l.length c1, .slice A2 x.o.l.length c2, .slice A3 x.l.l.length c3, .slice A4 x.w.l.length c4] rfl rfl hz (by kernel_rfl) oz ?_; rw [← HWZ.out]))
 refine bodyPost_ret (v := .agg #[.slice A1 x.v.l.length c1, .slice A2 x.o.l.length c2, .slice A3 x.l.l.length c3, .slice A4 x.w.l.length c4]) ?_ rfl ?_
 ·exact results_cell_row rfl _ _ Y 45 _ (0, 0) _ rfl yz Tryz.underlying45 rfl (by kernel_rfl)
 exact ⟨⟨⟨A1, c1, x.v.l⟩, ⟨A2, c2, x.o.l⟩, ⟨A3, c3, x.l.l⟩, ⟨A4, c4, x.w.l⟩⟩, rfl, rfl, ⟨n1, n2, n3, n4⟩, QZ⟩
theorem zlA (w : World) (F : Nat → Prop) (x : EntM) (hx : zau w F x) (hz : zaW x) :
  Calls Tryz.prog 137 #[.agg (entA x)] w fun e w' => ∃ y : EntM, e = .returned (.agg (entA y)) ∧ y.x = x.x ∧ zbX w' (zab w) y ∧ Nw w w' := by
 obtain ⟨X, hX⟩ : ∃ X, X = w.heap.size := ⟨_, rfl⟩
 obtain ⟨Y, hY⟩ : ∃ Y, Y = w.heap.size + 1 := ⟨_, rfl⟩
 obtain ⟨W0, hW0⟩ : ∃ W, W = w.alloc (.cells (entA x) 87) := ⟨_, rfl⟩
 have p0 : Nw w W0 := by rw [hW0]; exact (Fr.refl (fun _ => False) _).alloc _
 have x0 : Blk W0 X 87 (entA x) := by rw [hW0, hX]; exact Blk.new _ _ _
 have hz0 : W0.heap.size = Y := by rw [hW0, hY]; simp
 obtain ⟨W1, hW1⟩ : ∃ W, W = W0.alloc (.cells zE9A 87) := ⟨_, rfl⟩
 have p1 : Nw W0 W1 := by rw [hW1]; exact (Fr.refl (fun _ => False) _).alloc _
 have y1 : Blk W1 Y 87 zE9A := by rw [hW1, ← hz0]; exact Blk.new _ _ _
 have x1 := x0.fr p1 (fun h => h)
 have Q1 : Nw w W1 := p0.tr p1
 have hXw : w.heap.size ≤ X := by omega
 have hYw : w.heap.size ≤ Y := by omega
 have hXY : X ≠ Y := by omega
 have hXS : ∀ b, zab W1 b → ¬ b = X := fun b hb he => by have := x1.lt; unfold zab at hb; omega
 have hYS : ∀ b, zab W1 b → ¬ b = Y := fun b hb he => by have := y1.lt; unfold zab at hb; omega
 have hS1 : W1.heap.size ≤ W1.heap.size := Nat.le_refl _
 have hSw := Q1.size
 have HX := Lib.hid hX
 have HY := Lib.hid hY
 have HW0 := Lib.hid hW0
 have HW1 := Lib.hid hW1
 have HZ0 := Lib.hid hz0
 clear hX hY hW0 hW1 hz0 x0
 go_enter Tryz.func137, Tryz.ntmps137
 go_upto_region 1 with (fail)
 rw [← HY.out, ← HX.out, ← HW0.out, ← HW1.out]
 have l2 : W1.cell? ⟨X, 2, none⟩ = some (.slice x.cmd.a x.cmd.l.length x.cmd.c) := by simpa using x1.cell 2
 go_wp2_with fail
 refine (zgN _ F _ _ _ ((hx.cmd.nw Q1).sl) (by have := hz.cmd; omega)).mono ?_
 rintro e v2 ⟨A1, c1, rfl, w1, q2⟩
 have Qv2 : Nw w v2 := Q1.tr q2
 have xv2 := x1.fr q2 (fun h => h)
 have yv2 := y1.fr q2 (fun h => h)
 have f2 := xv2.frozen 2
 have g2 : v2.cell? ⟨X, 2, none⟩ = some (.slice x.cmd.a x.cmd.l.length x.cmd.c) := by simpa using xv2.cell 2
 obtain ⟨W2, hW2⟩ : ∃ W, W = v2.setCell ⟨X, 2, none⟩ (.slice A1 x.cmd.l.length c1) := ⟨_, rfl⟩
 have x2 : Blk W2 X 87 #[I64 x.term, U8V x.kind, .slice A1 x.cmd.l.length c1, .slice x.cfg.v.a x.cfg.v.l.length x.cfg.v.c, .slice x.cfg.o.a x.cfg.o.l.length x.cfg.o.c, .slice x.cfg.l.a x.cfg.l.l.length x.cfg.l.c, .slice x.cfg.w.a x.cfg.w.l.length x.cfg.w.c] := by rw [hW2]; exact xv2.set_ 2 _
 have m2 : Fr (· = X) v2 W2 := by rw [hW2]; exact (Fr.refl (· = X) _).set1 _ _
 have y2 := yv2.fr m2 (fun h => hXY h.symm)
 have Q2 : Nw w W2 := Qv2.new m2 (fun b hb => by omega)
 have n1 := (w1.mono (F' := zab W1) (fun k hk _ => Nat.le_trans hS1 hk)).fr m2 hXS
 have hS2 : W1.heap.size ≤ W2.heap.size := Nat.le_trans (Nat.le_trans hS1 q2.size) m2.size
 have HW2 := Lib.hid hW2
 clear hW2 l2
 go_upto_region 2 with (fail)
 rw [← HW2.out]
 clear f2 g2
 have l3 : ∀ p u, ((cl9 x.cfg) : List Value)[p]? = some u → W2.cell? ⟨X, 3 + p, none⟩ = some u := Blk.cells_in x2 3 4
 go_wp2_with (refine za5 rfl 45 _ rfl X 3 rfl (cl9 x.cfg) _ l3 Tryz.underlying45 rfl (by kernel_rfl) ?_)
 refine (ziG _ F x.cfg (hx.cfg.nw Q2) hz.cfg).mono ?_
 rintro e v3 ⟨g2, rfl, e2, w2, q3⟩
 have Qv3 : Nw w v3 := Q2.tr q3
 have xv3 := x2.fr q3 (fun h => h)
 have yv3 := y2.fr q3 (fun h => h)
 have h3 := Blk.there (l := [I64 x.term, U8V x.kind, .slice A1 x.cmd.l.length c1, .slice x.cfg.v.a x.cfg.v.l.length x.cfg.v.c, .slice x.cfg.o.a x.cfg.o.l.length x.cfg.o.c, .slice x.cfg.l.a x.cfg.l.l.length x.cfg.l.c, .slice x.cfg.w.a x.cfg.w.l.length x.cfg.w.c]) xv3 3 4 (by show 3 + 4 ≤ 7; omega)
 obtain ⟨W3, hW3⟩ : ∃ W, W = v3.setCells X 3 (cl9 g2) := ⟨_, rfl⟩
 have x3 : Blk W3 X 87 #[I64 x.term, U8V x.kind, .slice A1 x.cmd.l.length c1, .slice g2.v.a g2.v.l.length g2.v.c, .slice g2.o.a g2.o.l.length g2.o.c, .slice g2.l.a g2.l.l.length g2.l.c, .slice g2.w.a g2.w.l.length g2.w.c] := by rw [hW3]; exact Blk.setCells (l := [I64 x.term, U8V x.kind, .slice A1 x.cmd.l.length c1, .slice x.cfg.v.a x.cfg.v.l.length x.cfg.v.c, .slice x.cfg.o.a x.cfg.o.l.length x.cfg.o.c, .slice x.cfg.l.a x.cfg.l.l.length x.cfg.l.c, .slice x.cfg.w.a x.cfg.w.l.length x.cfg.w.c]) xv3 3 (cl9 g2)
 have m3 : Fr (· = X) v3 W3 := by rw [hW3]; exact (Fr.refl (· = X) _).setCells _ _
 have o3 : ((cfgA g2) : Array Value).all (·.oneCell') = true := by rw [List.all_toArray]; simp only [List.all_cons, List.all_nil]; rfl
 have y3 := yv3.fr m3 (fun h => hXY h.symm)
 have Q3 : Nw w W3 := Qv3.new m3 (fun b hb => by omega)
 have n1 := (n1.nw q3).fr m3 hXS
 have n2 := (w2.mono (F' := zab W1) (fun k hk _ => Nat.le_trans hS2 hk)).fr m3 hXS
 have hS3 : W1.heap.size ≤ W3.heap.size := Nat.le_trans (Nat.le_trans hS2 q3.size) m3.size
 have HW3 := Lib.hid hW3
 clear hW3 l3
 go_upto_region 3 with (refine wpList_store_mid rfl 45 _ _ rfl X 3 (cfgA g2) rfl rfl h3 (by kernel_rfl) o3 ?_)
 rw [← HW3.out]
 have lz : ∀ p u, ([I64 x.term, U8V x.kind, .slice A1 x.cmd.l.length c1, .slice g2.v.a g2.v.l.length g2.v.c, .slice g2.o.a g2.o.l.length g2.o.c, .slice g2.l.a g2.l.l.length g2.l.c, .slice g2.w.a g2.w.l.length g2.w.c] : List Value)[p]? = some u → W3.cell? ⟨X, 0 + p, none⟩ = some u := Blk.cells_in x3 0 7
 have hz := Blk.there (l := zE9L) y3 0 7 (by show 0 + 7 ≤ 7; omega)
 have oz : (#[I64 x.term, U8V x.kind, .slice A1 x.cmd.l.length c1, .slice g2.v.a g2.v.l.length g2.v.c, .slice g2.o.a g2.o.l.length g2.o.c, .slice g2.l.a g2.l.l.length g2.l.c, .slice g2.w.a g2.w.l.length g2.w.c] : Array Value).all (·.oneCell') = true := by rw [List.all_toArray]; simp only [List.all_cons, List.all_nil]; rfl
 obtain ⟨WZ, hWZ⟩ : ∃ W, W = W3.setCells Y 0 [I64 x.term, U8V x.kind, .slice A1 x.cmd.l.length c1, .slice g2.v.a g2.v.l.length g2.v.c, .slice g2.o.a g2.o.l.length g2.o.c, .slice g2.l.a g2.l.l.length g2.l.c, .slice g2.w.a g2.w.l.length g2.w.c] := ⟨_, rfl⟩
 have yz : Blk WZ Y 87 #[I64 x.term, U8V x.kind, .slice A1 x.cmd.l.length c1, .slice g2.v.a g2.v.l.length g2.v.c, .slice g2.o.a g2.o.l.length g2.o.c, .slice g2.l.a g2.l.l.length g2.l.c, .slice g2.w.a g2.w.l.length g2.w.c] := by rw [hWZ]; exact Blk.setCells (l := zE9L) y3 0 [I64 x.term, U8V x.kind, .slice A1 x.cmd.l.length c1, .slice g2.v.a g2.v.l.length g2.v.c, .slice g2.o.a g2.o.l.length g2.o.c, .slice g2.l.a g2.l.l.length g2.l.c, .slice g2.w.a g2.w.l.length g2.w.c]
 have mz : Fr (· = Y) W3 WZ := by rw [hWZ]; exact (Fr.refl (· = Y) _).setCells _ _
 have QZ : Nw w WZ := Q3.new mz (fun b hb => by omega)
 have HWZ := Lib.hid hWZ
 clear hWZ
 have n1 := (n1.fr mz hYS).mono (F' := zab w) (fun k hk _ => Nat.le_trans hSw hk)
 have n2 := (n2.fr mz hYS).mono (F' := zab w) (fun k hk _ => Nat.le_trans hSw hk)
 go_wp2_with (first | (refine za5 rfl 87 _ rfl X 0 rfl [I64 x.term, U8V x.kind, .slice A1 x.cmd.l.length c1, .slice g2.v.a g2.v.l.length g2.v.c, .slice g2.o.a g2.o.l.length g2.o.c, .slice g2.l.a g2.l.l.length g2.l.c, .slice g2.w.a g2.w.l.length g2.w.c] _ lz Tryz.underlying87 rfl (by kernel_rfl) ?_) | (refine wpList_store_mid rfl 87 _ _ rfl Y 0 #[I64 x.term, U8V x.kind, .slice A1 x.cmd.l.length c1, .slice g2.v.a g2.v.l.length g2.v.c, .slice g2.o.a g2.o.l.length g2.o.c, .slice g2.l.a g2.l.l.length g2.l.c, .slice g2.w.a g2.w.l.length g2.w.c] rfl rfl hz (by kernel_rfl) oz ?_; rw [← HWZ.out]))
 refine bodyPost_ret (v := .agg #[I64 x.term, U8V x.kind, .slice A1 x.cmd.l.length c1, .slice g2.v.a g2.v.l.length g2.v.c, .slice g2.o.a g2.o.l.length g2.o.c, .slice g2.l.a g2.l.l.length g2.l.c, .slice g2.w.a g2.w.l.length g2.w.c]) ?_ rfl ?_
 ·exact results_cell_row rfl _ _ Y 87 _ (0, 0) _ rfl yz Tryz.underlying87 rfl (by kernel_rfl)
 exact ⟨⟨x.term, x.kind, ⟨A1, c1, x.cmd.l⟩, g2⟩, rfl, by show (⟨x.term, x.kind, x.cmd.l, g2.x⟩ : Ent) = _; rw [e2], ⟨hx.kind, n1, n2⟩, QZ⟩
theorem zly (w : World) (F : Nat → Prop) (x : BasM) (hx : zaD w F x.cfg) (hz : zaY x.cfg) :
  Calls Tryz.prog 67 #[.agg (basA x)] w fun e w' => ∃ y : BasM, e = .returned (.agg (basA y)) ∧ y.x = x.x ∧ zbL w' (zab w) y.cfg ∧ Nw w w' := by
 obtain ⟨X, hX⟩ : ∃ X, X = w.heap.size := ⟨_, rfl⟩
 obtain ⟨Y, hY⟩ : ∃ Y, Y = w.heap.size + 1 := ⟨_, rfl⟩
 obtain ⟨W0, hW0⟩ : ∃ W, W = w.alloc (.cells (basA x) 47) := ⟨_, rfl⟩
 have p0 : Nw w W0 := by rw [hW0]; exact (Fr.refl (fun _ => False) _).alloc _
 have x0 : Blk W0 X 47 (basA x) := by rw [hW0, hX]; exact Blk.new _ _ _
 have hz0 : W0.heap.size = Y := by rw [hW0, hY]; simp
 obtain ⟨W1, hW1⟩ : ∃ W, W = W0.alloc (.cells zB9A 47) := ⟨_, rfl⟩
 have p1 : Nw W0 W1 := by rw [hW1]; exact (Fr.refl (fun _ => False) _).alloc _
 have y1 : Blk W1 Y 47 zB9A := by rw [hW1, ← hz0]; exact Blk.new _ _ _
 have x1 := x0.fr p1 (fun h => h)
 have Q1 : Nw w W1 := p0.tr p1
 have hXw : w.heap.size ≤ X := by omega
 have hYw : w.heap.size ≤ Y := by omega
 have hXY : X ≠ Y := by omega
 have hXS : ∀ b, zab W1 b → ¬ b = X := fun b hb he => by have := x1.lt; unfold zab at hb; omega
 have hYS : ∀ b, zab W1 b → ¬ b = Y := fun b hb he => by have := y1.lt; unfold zab at hb; omega
 have hS1 : W1.heap.size ≤ W1.heap.size := Nat.le_refl _
 have hSw := Q1.size
 have HX := Lib.hid hX
 have HY := Lib.hid hY
 have HW0 := Lib.hid hW0
 have HW1 := Lib.hid hW1
 have HZ0 := Lib.hid hz0
 clear hX hY hW0 hW1 hz0 x0
 go_enter Tryz.func67, Tryz.ntmps67
 go_upto_region 1 with (fail)
 rw [← HY.out, ← HX.out, ← HW0.out, ← HW1.out]
 have l2 : ∀ p u, ((cl9 x.cfg) : List Value)[p]? = some u → W1.cell? ⟨X, 2 + p, none⟩ = some u := Blk.cells_in x1 2 4
 go_wp2_with (refine za5 rfl 45 _ rfl X 2 rfl (cl9 x.cfg) _ l2 Tryz.underlying45 rfl (by kernel_rfl) ?_)
 refine (ziG _ F x.cfg (hx.nw Q1) hz).mono ?_
 rintro e v2 ⟨g2, rfl, e2, w2, q2⟩
 have Qv2 : Nw w v2 := Q1.tr q2
 have xv2 := x1.fr q2 (fun h => h)
 have yv2 := y1.fr q2 (fun h => h)
 have h2 := Blk.there (l := (bl9 x)) xv2 2 4 (by show 2 + 4 ≤ 6; omega)
 obtain ⟨W2, hW2⟩ : ∃ W, W = v2.setCells X 2 (cl9 g2) := ⟨_, rfl⟩
 have x2 : Blk W2 X 47 #[I64 x.index, I64 x.term, .slice g2.v.a g2.v.l.length g2.v.c, .slice g2.o.a g2.o.l.length g2.o.c, .slice g2.l.a g2.l.l.length g2.l.c, .slice g2.w.a g2.w.l.length g2.w.c] := by rw [hW2]; exact Blk.setCells (l := (bl9 x)) xv2 2 (cl9 g2)
 have m2 : Fr (· = X) v2 W2 := by rw [hW2]; exact (Fr.refl (· = X) _).setCells _ _
 have o2 : ((cfgA g2) : Array Value).all (·.oneCell') = true := by rw [List.all_toArray]; simp only [List.all_cons, List.all_nil]; rfl
 have y2 := yv2.fr m2 (fun h => hXY h.symm)
 have Q2 : Nw w W2 := Qv2.new m2 (fun b hb => by omega)
 have n2 := (w2.mono (F' := zab W1) (fun k hk _ => Nat.le_trans hS1 hk)).fr m2 hXS
 have hS2 : W1.heap.size ≤ W2.heap.size := Nat.le_trans (Nat.le_trans hS1 q2.size) m2.size
 have HW2 := Lib.hid hW2
 clear hW2 l2
 go_upto_region 2 with (refine wpList_store_mid rfl 45 _ _ rfl X 2 (cfgA g2) rfl rfl h2 (by kernel_rfl) o2 ?_)
 rw [← HW2.out]
 have lz : ∀ p u, ([I64 x.index, I64 x.term, .slice g2.v.a g2.v.l.length g2.v.c, .slice g2.o.a g2.o.l.length g2.o.c, .slice g2.l.a g2.l.l.length g2.l.c, .slice g2.w.a g2.w.l.length g2.w.c] : List Value)[p]? = some u → W2.cell? ⟨X, 0 + p, none⟩ = some u := Blk.cells_in x2 0 6
 have hz := Blk.there (l := zB9L) y2 0 6 (by show 0 + 6 ≤ 6; omega)
 have oz : (#[I64 x.index, I64 x.term, .slice g2.v.a g2.v.l.length g2.v.c, .slice g2.o.a g2.o.l.length g2.o.c, .slice g2.l.a g2.l.l.length g2.l.c, .slice g2.w.a g2.w.l.length g2.w.c] : Array Value).all (·.oneCell') = true := by rw [List.all_toArray]; simp only [List.all_cons, List.all_nil]; rfl
 obtain ⟨WZ, hWZ⟩ : ∃ W, W = W2.setCells Y 0 [I64 x.index, I64 x.term, .slice g2.v.a g2.v.l.length g2.v.c, .slice g2.o.a g2.o.l.length g2.o.c, .slice g2.l.a g2.l.l.length g2.l.c, .slice g2.w.a g2.w.l.length g2.w.c] := ⟨_, rfl⟩
 have yz : Blk WZ Y 47 #[I64 x.index, I64 x.term, .slice g2.v.a g2.v.l.length g2.v.c, .slice g2.o.a g2.o.l.length g2.o.c, .slice g2.l.a g2.l.l.length g2.l.c, .slice g2.w.a g2.w.l.length g2.w.c] := by rw [hWZ]; exact Blk.setCells (l := zB9L) y2 0 [I64 x.index, I64 x.term, .slice g2.v.a g2.v.l.length g2.v.c, .slice g2.o.a g2.o.l.length g2.o.c, .slice g2.l.a g2.l.l.length g2.l.c, .slice g2.w.a g2.w.l.length g2.w.c]
 have mz : Fr (· = Y) W2 WZ := by rw [hWZ]; exact (Fr.refl (· = Y) _).setCells _ _
 have QZ : Nw w WZ := Q2.new mz (fun b hb => by omega)
 have HWZ := Lib.hid hWZ
 clear hWZ
 have n2 := (n2.fr mz hYS).mono (F' := zab w) (fun k hk _ => Nat.le_trans hSw hk)
 go_wp2_with (first | (refine za5 rfl 47 _ rfl X 0 rfl [I64 x.index, I64 x.term, .slice g2.v.a g2.v.l.length g2.v.c, .slice g2.o.a g2.o.l.length g2.o.c, .slice g2.l.a g2.l.l.length g2.l.c, .slice g2.w.a g2.w.l.length g2.w.c] _ lz Tryz.underlying47 rfl (by kernel_rfl) ?_) | (refine wpList_store_mid rfl 47 _ _ rfl Y 0 #[I64 x.index, I64 x.term, .slice g2.v.a g2.v.l.length g2.v.c, .slice g2.o.a g2.o.l.length g2.o.c, .slice g2.l.a g2.l.l.length g2.l.c, .slice g2.w.a g2.w.l.length g2.w.c] rfl rfl hz (by kernel_rfl) oz ?_; rw [← HWZ.out]))
 refine bodyPost_ret (v := .agg #[I64 x.index, I64 x.term, .slice g2.v.a g2.v.l.length g2.v.c, .slice g2.o.a g2.o.l.length g2.o.c, .slice g2.l.a g2.l.l.length g2.l.c, .slice g2.w.a g2.w.l.length g2.w.c]) ?_ rfl ?_
 ·exact results_cell_row rfl _ _ Y 47 _ (0, 0) _ rfl yz Tryz.underlying47 rfl (by kernel_rfl)
 exact ⟨⟨x.index, x.term, g2⟩, rfl, by show (⟨x.index, x.term, g2.x⟩ : Bas) = _; rw [e2], n2, QZ⟩
end Go.Proofs.YtippdjaakcgeoaaGreat
