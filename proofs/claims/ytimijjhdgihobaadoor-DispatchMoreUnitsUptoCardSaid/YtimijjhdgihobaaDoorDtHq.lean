/-
  samaritanlaw38.DispatchMoreUnits: the walk.
-/
import Derived.Test.YtimijjhdgihobaaDoorMre
import Derived.Test.YtimijjhdgihobaaDoorDtRq
import Derived.Test.YtimijjhdgihobaaDoorMqzc
namespace Go.Proofs.YtimijjhdgihobaaDoor
section
open Go.RowKit Go.Maps

/-- the state with other units. -/
def StT.crew (s : StT) (A : Option Addr) (us : List UnitT) (c : Nat) : StT := { s with uA := A, us := us, uc := c }
theorem StIn.crew {Y : World} {s : StT} {us : List UnitT} (h : StIn Y Y.heap.size s) {A : Option Addr} {c : Nat} (hr : UnitsAt Y Y.heap.size A us) : StIn Y Y.heap.size (s.crew A us c) := ⟨h.e, h.t, h.i, h.n, hr, h.p⟩
theorem StWf.crew {s : StT} {us : List UnitT} (h : StWf s) {A : Option Addr} {c : Nat} (hw : ∀ u ∈ us, UnitWf u) (hl : us.length ≤ c) (hc : c ≤ 9223372036854775807) (hn : A = none → c = 0) : StWf (s.crew A us c) := ⟨h.el, h.en, h.tl, h.iw, h.il, h.inn, hw, hl, hc, hn, h.pl⟩
theorem sl_set {Y : World} {B P : Nat} {A : Option Addr} {zs : List Int} {x1 : Option Addr} {x2 x3 : Nat} (h : Sl Y B A (zs.map (Value.int .i64))) (h3 : Y.cell? ⟨P, 3, none⟩ = some (.slice x1 x2 x3)) (v : Value) : Sl (Y.setCell ⟨P, 3, none⟩ v) B A (zs.map (Value.int .i64)) := fun j q hj => by
  obtain ⟨b, o, e, hb, hc⟩ := h j q hj
  refine ⟨b, o, e, hb, (World.cell?_setCell_other Y ⟨P, 3, none⟩ ⟨b, o + j, none⟩ v ?_).trans hc⟩
  intro he
  injection he with e1 e2
  rw [← e1, ← e2, h3] at hc
  injection hc with hc
  rw [List.getElem?_map, Option.map_eq_some_iff] at hj
  obtain ⟨z, _, hz⟩ := hj
  rw [← hc] at hz
  cases hz
theorem edges_set {Y : World} {B P : Nat} {A : Option Addr} {E : List EdgeT} {x1 : Option Addr} {x2 x3 : Nat} (h : EdgesAt Y B A E) (h3 : Y.cell? ⟨P, 3, none⟩ = some (.slice x1 x2 x3)) (v : Value) : EdgesAt (Y.setCell ⟨P, 3, none⟩ v) B A E := fun j q hj => by
  obtain ⟨b, o, e, hb, hc⟩ := h j q hj
  refine ⟨b, o, e, hb, (World.cell?_setCell_other Y ⟨P, 3, none⟩ ⟨b, o + j, none⟩ v ?_).trans hc⟩
  intro he
  injection he with e1 e2
  rw [← e1, ← e2, h3] at hc
  injection hc with hc
  have hm := List.mem_of_getElem? hj
  unfold cellsE at hm
  obtain ⟨z, _, hz⟩ := List.mem_flatMap.1 hm
  rw [← hc] at hz
  simp at hz
/-- a graph is none of a state's box. -/
theorem graph_set {Y : World} {B P p n : Nat} {E : List EdgeT} {x1 : Option Addr} {x2 x3 : Nat} {z : Int} (h : GraphAt Y B p n E) (hn : 1 ≤ n) (hp : ¬ p = P) (h0 : Y.cell? ⟨P, 0, none⟩ = some (.int .i64 z)) (h3 : Y.cell? ⟨P, 3, none⟩ = some (.slice x1 x2 x3)) (v : Value) : GraphAt (Y.setCell ⟨P, 3, none⟩ v) B p n E := by
  obtain ⟨A, c, q1, q2, q3, q4⟩ := h.edges
  obtain ⟨ob, k1, k2, k3⟩ := h.out
  obtain ⟨vi, m1⟩ := h.inn
  have hob : ob ≠ P := by
    rintro rfl
    obtain ⟨A', c', r1, _⟩ := k3 0 (by omega)
    rw [h0] at r1
    cases r1
  have hoth : ∀ b j : Nat, b ≠ P → (Y.setCell ⟨P, 3, none⟩ v).cell? ⟨b, j, none⟩ = Y.cell? ⟨b, j, none⟩ := fun b j hb => World.cell?_setCell_other Y ⟨P, 3, none⟩ ⟨b, j, none⟩ v (by intro e; injection e with e _; exact hb e.symm)
  refine ⟨h.lt, ⟨A, c, (hoth p 0 hp).trans q1, edges_set q2 h3 v, q3, q4⟩, ⟨ob, k1, (hoth p 1 hp).trans k2, fun j hj => ?_⟩, ⟨vi, (hoth p 2 hp).trans m1⟩⟩
  obtain ⟨A', c', r1, r2, r3⟩ := k3 j hj
  exact ⟨A', c', (hoth ob j hob).trans r1, sl_set r2 h3 v, r3⟩
/-- the two boxes of the call and the copy. -/
structure Boxes3 (B : Nat) (s : StT) (u : UnitT) (Y : World) : Prop where
  s : BoxS B s Y
  i : Y.cell? ⟨B + 1, 7, none⟩ = some (.int .i64 u.inc)
/-- what region 2 leaves. -/
structure More3 (w W : World) (s : StT) (u : UnitT) (A : Option Addr) (c : Nat) (Y : World) : Prop where
  below : Below (w.heap.size + 1 + 1) W Y
  size : W.heap.size ≤ Y.heap.size
  own : OwnU Y (w.heap.size + 1 + 1 + 1) 44 (.slice A (s.us.length + 1) c) (s.us ++ [u])
  c0 : Y.cell? ⟨w.heap.size + 1 + 1, 0, none⟩ = some (.int .i64 s.z)
  c1 : Y.cell? ⟨w.heap.size + 1 + 1, 1, none⟩ = some (.slice s.eA s.E.length s.ec)
  c2 : Y.cell? ⟨w.heap.size + 1 + 1, 2, none⟩ = some (.slice s.tA s.ts.length s.tc)
  c3 : Y.cell? ⟨w.heap.size + 1 + 1, 3, none⟩ = some (.slice s.iA s.xs.length s.ic)
  f3 : Y.frozen? ⟨w.heap.size + 1 + 1, 3, none⟩ = false
  c4 : Y.cell? ⟨w.heap.size + 1 + 1, 4, none⟩ = some (.slice A (s.us.length + 1) c)
  c5 : Y.cell? ⟨w.heap.size + 1 + 1, 5, none⟩ = some (.slice s.pA s.ps.length s.pc)
  c6 : Y.cell? ⟨w.heap.size + 1 + 1, 6, none⟩ = some (.int .i64 s.rsv)
theorem More3.next {w W Y Y' : World} {s : StT} {u : UnitT} {A : Option Addr} {c : Nat} (h : More3 w W s u A c Y) (hz : w.heap.size + 1 + 1 < W.heap.size) (hb : Below Y.heap.size Y Y') : More3 w W s u A c Y' :=
  have cl := fun (j : Nat) => hb.cell (p := ⟨w.heap.size + 1 + 1, j, none⟩) (Nat.lt_of_lt_of_le hz h.size)
  ⟨h.below.trans (hb.mono (Nat.le_trans (Nat.le_of_lt hz) h.size)), Nat.le_trans h.size hb.size, h.own.kept_new hb, (cl 0).trans h.c0, (cl 1).trans h.c1, (cl 2).trans h.c2, (cl 3).trans h.c3, (hb.frozen (p := ⟨w.heap.size + 1 + 1, 3, none⟩) (Nat.lt_of_lt_of_le hz h.size)).trans h.f3, (cl 4).trans h.c4, (cl 5).trans h.c5, (cl 6).trans h.c6⟩
theorem More3.mk' {w W w6 : World} {s : StT} {u : UnitT} {A : Option Addr} {c : Nat} (hbx : BoxS (w.heap.size + 1 + 1) s W) (hf : ∀ j, W.frozen? ⟨w.heap.size + 1 + 1, j, none⟩ = false) (hz : W.heap.size = w.heap.size + 1 + 1 + 1) (hb : Below W.heap.size W w6) (ho : OwnU w6 W.heap.size 44 (.slice A (s.us.length + 1) c) (s.us ++ [u])) :
    More3 w W s u A c (w6.setCell ⟨w.heap.size + 1 + 1, 4, none⟩ (.slice A (s.us.length + 1) c)) := by
  have hlt : w.heap.size + 1 + 1 < W.heap.size := by omega
  have h6 := hbx.below hlt hb
  refine ⟨(hb.mono (show w.heap.size + 1 + 1 ≤ W.heap.size by omega)).setCell (p := ⟨w.heap.size + 1 + 1, 4, none⟩) (Nat.le_refl _) _, by have := hb.size; simp; omega, ?_, (World.cell?_setCell_other w6 ⟨w.heap.size + 1 + 1, 4, none⟩ ⟨w.heap.size + 1 + 1, 0, none⟩ _ (by intro e; injection e with _ e; cases e)).trans h6.c0, (World.cell?_setCell_other w6 ⟨w.heap.size + 1 + 1, 4, none⟩ ⟨w.heap.size + 1 + 1, 1, none⟩ _ (by intro e; injection e with _ e; cases e)).trans h6.c1, (World.cell?_setCell_other w6 ⟨w.heap.size + 1 + 1, 4, none⟩ ⟨w.heap.size + 1 + 1, 2, none⟩ _ (by intro e; injection e with _ e; cases e)).trans h6.c2, (World.cell?_setCell_other w6 ⟨w.heap.size + 1 + 1, 4, none⟩ ⟨w.heap.size + 1 + 1, 3, none⟩ _ (by intro e; injection e with _ e; cases e)).trans h6.c3, ?_, World.cell?_setCell_same' _ _ _ (by rw [h6.c4]; rfl), (World.cell?_setCell_other w6 ⟨w.heap.size + 1 + 1, 4, none⟩ ⟨w.heap.size + 1 + 1, 5, none⟩ _ (by intro e; injection e with _ e; cases e)).trans h6.c5, (World.cell?_setCell_other w6 ⟨w.heap.size + 1 + 1, 4, none⟩ ⟨w.heap.size + 1 + 1, 6, none⟩ _ (by intro e; injection e with _ e; cases e)).trans h6.c6⟩
  · rw [hz] at ho
    exact ho.setCell_other (fun e => by have h : w.heap.size + 1 + 1 + 1 ≤ w.heap.size + 1 + 1 := ho.ge_base _ e; omega) _
  · rw [World.frozen?_setCell]
    exact (hb.frozen (p := ⟨w.heap.size + 1 + 1, 3, none⟩) hlt).trans (hf 3)
set_option maxRecDepth 100000 in
set_option maxHeartbeats 32000000 in
theorem more_any (w : World) (s : StT) (hs : StIn w w.heap.size s) (hw : StWf s) (hbulk : s.us.length ≤ 1048576) (u : UnitT) (hu : UnitWf u) (hr : Ready w) :
    Calls Tryd.prog 5 #[.agg #[.int .i64 s.z, .slice s.eA s.E.length s.ec, .slice s.tA s.ts.length s.tc, .slice s.iA s.xs.length s.ic, .slice s.uA s.us.length s.uc, .slice s.pA s.ps.length s.pc, .int .i64 s.rsv], .agg #[.int .i64 u.id, .int .i64 u.kind, .int .i64 u.home, .int .i64 u.state, .int .i64 u.node, .int .i64 u.seq, .int .i64 u.heard, .int .i64 u.inc, .int .i64 u.epoch, .int .i64 u.acked]] w fun e w' => e = .returned (.bool true) ∧ Below w.heap.size w w' := by
  obtain ⟨W1, hW1⟩ : ∃ W1, W1 = w.alloc (stObj s) := ⟨_, rfl⟩
  obtain ⟨W2, hW2⟩ : ∃ W2, W2 = W1.alloc (.cells #[.int .i64 u.id, .int .i64 u.kind, .int .i64 u.home, .int .i64 u.state, .int .i64 u.node, .int .i64 u.seq, .int .i64 u.heard, .int .i64 u.inc, .int .i64 u.epoch, .int .i64 u.acked] 44) := ⟨_, rfl⟩
  obtain ⟨W, hW⟩ : ∃ W, W = W2.alloc (stObj s) := ⟨_, rfl⟩
  have z1 : W1.heap.size = w.heap.size + 1 := by rw [hW1]; simp
  have z2 : W2.heap.size = w.heap.size + 1 + 1 := by rw [hW2]; simp [z1]
  have z3 : W.heap.size = w.heap.size + 1 + 1 + 1 := by rw [hW]; simp [z2]
  have b3 : Below W2.heap.size W2 W := by rw [hW]; exact below_newH _ _
  have b2 : Below W1.heap.size W1 W := (show Below W1.heap.size W1 W2 by rw [hW2]; exact below_newH _ _).trans (b3.mono (by omega))
  have b1 : Below w.heap.size w W := (show Below w.heap.size w W1 by rw [hW1]; exact below_newH _ _).trans (b2.mono (by omega))
  have hbs : BoxS w.heap.size s W := (show BoxS w.heap.size s W1 by rw [hW1]; exact box_new w s).below (B := W1.heap.size) (by omega) b2
  have hbu : Blk W (w.heap.size + 1) 44 [.int .i64 u.id, .int .i64 u.kind, .int .i64 u.home, .int .i64 u.state, .int .i64 u.node, .int .i64 u.seq, .int .i64 u.heard, .int .i64 u.inc, .int .i64 u.epoch, .int .i64 u.acked] := (show Blk W2 (w.heap.size + 1) 44 [.int .i64 u.id, .int .i64 u.kind, .int .i64 u.home, .int .i64 u.state, .int .i64 u.node, .int .i64 u.seq, .int .i64 u.heard, .int .i64 u.inc, .int .i64 u.epoch, .int .i64 u.acked] by rw [hW2, ← z1]; exact blk_new W1 [.int .i64 u.id, .int .i64 u.kind, .int .i64 u.home, .int .i64 u.state, .int .i64 u.node, .int .i64 u.seq, .int .i64 u.heard, .int .i64 u.inc, .int .i64 u.epoch, .int .i64 u.acked] 44).next b3
  have hbp : BoxS (w.heap.size + 1 + 1) s W := by rw [hW, ← z2]; exact box_new W2 s
  have hfp : ∀ j, W.frozen? ⟨w.heap.size + 1 + 1, j, none⟩ = false := by
    intro j
    have h := (blk_new W2 [.int .i64 s.z, .slice s.eA s.E.length s.ec, .slice s.tA s.ts.length s.tc, .slice s.iA s.xs.length s.ic, .slice s.uA s.us.length s.uc, .slice s.pA s.ps.length s.pc, .int .i64 s.rsv] 30).free j
    rw [hW, ← z2]
    exact h
  have HB := Lib.hid b1
  have HBS := Lib.hid hbs
  have HBP := Lib.hid (And.intro hbp hfp)
  have HU := Lib.hid hu
  have HIN := Lib.hid (hs.next b1)
  have HS0 := Lib.hid hs
  have HWF := Lib.hid hw
  have HR := Lib.hid (hr.below b1)
  have HR0 := Lib.hid hr
  have HBU := Lib.hid hbu
  have HZ := Lib.hid z3
  have hn0 : s.uA = none → s.uc = 0 := hw.un
  have HN0 := Lib.hid hn0
  have HLD := Lib.hid (fun (Y : World) (hY : Below (w.heap.size + 1 + 1) W Y) => (show Y.cell? ⟨w.heap.size, 4, none⟩ = some (.slice s.uA s.us.length s.uc) ∧ (∀ (j : Nat) (v : Value), [Value.int .i64 u.id, .int .i64 u.kind, .int .i64 u.home, .int .i64 u.state, .int .i64 u.node, .int .i64 u.seq, .int .i64 u.heard, .int .i64 u.inc, .int .i64 u.epoch, .int .i64 u.acked][j]? = some v → Y.cell? ⟨w.heap.size + 1, j, none⟩ = some v) from
    ⟨(hY.cell (p := ⟨w.heap.size, 4, none⟩) (by simp only; omega)).trans hbs.c4, fun j v hj => (hY.cell (p := ⟨w.heap.size + 1, j, none⟩) (by simp only; omega)).trans (hbu.cell hj)⟩))
  have hWW : W = ((w.alloc (.cells #[.int .i64 s.z, .slice s.eA s.E.length s.ec, .slice s.tA s.ts.length s.tc, .slice s.iA s.xs.length s.ic, .slice s.uA s.us.length s.uc, .slice s.pA s.ps.length s.pc, .int .i64 s.rsv] 30)).alloc (.cells #[.int .i64 u.id, .int .i64 u.kind, .int .i64 u.home, .int .i64 u.state, .int .i64 u.node, .int .i64 u.seq, .int .i64 u.heard, .int .i64 u.inc, .int .i64 u.epoch, .int .i64 u.acked] 44)).alloc (.cells #[.int .i64 s.z, .slice s.eA s.E.length s.ec, .slice s.tA s.ts.length s.tc, .slice s.iA s.xs.length s.ic, .slice s.uA s.us.length s.uc, .slice s.pA s.ps.length s.pc, .int .i64 s.rsv] 30) := by rw [hW, hW2, hW1]; rfl
  clear b1 b2 b3 hbs hbu hbp hfp hs hw hu hr hn0 hW hW1 hW2 z1 z2 z3
  go_enter Tryd.func5, Tryd.ntmps5
  go_upto_region 2 with fail
  rw [← hWW]
  clear hWW W1 W2
  go_cut [18] (fun _ wx => ∃ A c, More3 w W s u A c wx)
  case first =>
    refine wp_region_held_drew (S := fun Y => Below (w.heap.size + 1 + 1) W Y) (by kernel_rfl) (((Below.refl W.heap.size W).mono (show w.heap.size + 1 + 1 ≤ W.heap.size by have := HZ.out; omega)).drew) (fun hHeld => ?_)
    obtain ⟨wd, hwd⟩ : ∃ wd, wd = W.drew := ⟨_, rfl⟩
    rw [← hwd] at hHeld ⊢
    have hHd : Below W.heap.size W wd := by rw [hwd]; exact (Below.refl _ _).drew
    have hlo : w.heap.size + 1 + 1 ≤ W.heap.size := by have := HZ.out; omega
    clear hwd hHeld
    have hHeld : Below (w.heap.size + 1 + 1) W wd := hHd.mono hlo
    refine wpAnyH_take (i := 1) (v := .pointer (some ⟨w.heap.size, 4, none⟩)) rfl (by kernel_rfl) (by kernel_rfl) (by kernel_rfl) (fun _ _ _ h => h) (Or.inl ⟨by rfl, ?_⟩) (by assumption) ?_
    · intro wS hSw
      go_simp
    show wpAnyH _ _ _ _ _ _ _ (Act.put _ (some 12) _) _
    simp only [Act.put, List.setIfInBounds_toArray, List.set_cons_zero, List.set_cons_succ]
    refine wpAnyH_take (i := 2) (v := .slice s.uA s.us.length s.uc) rfl (by kernel_rfl) (by kernel_rfl) (by kernel_rfl) (fun _ _ _ h => h) (Or.inl ⟨by rfl, ?_⟩) (by assumption) ?_
    · intro wS hSw
      obtain ⟨s4, su⟩ := HLD.out wS hSw
      go_simp
    show wpAnyH _ _ _ _ _ _ _ (Act.put _ (some 13) _) _
    simp only [Act.put, List.setIfInBounds_toArray, List.set_cons_zero, List.set_cons_succ]
    refine wpAnyH_take (i := 4) (v := .agg #[.int .i64 u.id, .int .i64 u.kind, .int .i64 u.home, .int .i64 u.state, .int .i64 u.node, .int .i64 u.seq, .int .i64 u.heard, .int .i64 u.inc, .int .i64 u.epoch, .int .i64 u.acked]) rfl (by kernel_rfl) (by kernel_rfl) (by kernel_rfl) (fun _ _ _ h => h) (Or.inl ⟨by rfl, ?_⟩) (by assumption) ?_
    · intro wS hSw
      obtain ⟨s4, su⟩ := HLD.out wS hSw
      have u0 := su 0 _ rfl
      have u1 := su 1 _ rfl
      have u2 := su 2 _ rfl
      have u3 := su 3 _ rfl
      have u4 := su 4 _ rfl
      have u5 := su 5 _ rfl
      have u6 := su 6 _ rfl
      have u7 := su 7 _ rfl
      have u8 := su 8 _ rfl
      have u9 := su 9 _ rfl
      go_simp
    show wpAnyH _ _ _ _ _ _ _ (Act.put _ (some 15) _) _
    simp only [Act.put, List.setIfInBounds_toArray, List.set_cons_zero, List.set_cons_succ]
    refine wpAnyH_ready (rs := [0, 5]) (by kernel_rfl) (by simp) ?_
    refine AllReadyH.cons rfl (fun K hK => ?_) (AllReadyH.cons rfl (fun K hK => ?_) AllReadyH.nil)
    · go_simp
      refine hK.out _ _ ((hHd.alloc hHd.size _).mono hlo) (fun hHeld => ?_)
      clear hK K hHeld
      have hHa := hHd.alloc hHd.size (.cells #[] 44)
      have hE0 : OwnU (wd.alloc (.cells #[] 44)) W.heap.size 44 (.slice (some ⟨wd.heap.size, 0, none⟩) 0 0) [] := OwnR.lit wd cellsU_len W.heap.size 44 [] rfl hHd.size (by simp) #[] rfl
      refine wpAnyH_ready (rs := [3, 5]) (by kernel_rfl) (by simp) ?_
      refine AllReadyH.cons rfl (fun K hK => ?_) (AllReadyH.cons rfl (fun K hK => ?_) AllReadyH.nil)
      · refine step_append_recs _ (by rfl) cellsU_len (.tmp 11) (.tmp 13) 27 (by rfl) 44 Tryd.underlying27 unit_info rfl (by omega) (by omega) W.heap.size _ [] (by rfl) hE0 W.heap.size _ _ _ s.us (by rfl) (by rfl) HN0.out (HIN.out.u.below hHa) (fun y _ => cellsU_one y) (by simp; omega) hHa.size ?_
        intro v5 w5 hown5 hg5
        rw [List.nil_append] at hown5
        have HB5 := Lib.hid (hHa.grown hg5 hHa.size (fun j hj => OwnR.ge_base hE0 j hj))
        refine hK.out _ _ (HB5.out.mono hlo) (fun hHeld => ?_)
        clear hK K hHeld
        refine wpAnyH_ready (rs := [5]) (by kernel_rfl) (by simp) ?_
        refine AllReadyH.cons rfl (fun K hK => ?_) AllReadyH.nil
        go_simp
        refine hK.out _ _ ((HB5.out.alloc HB5.out.size _).mono hlo) (fun hHeld => ?_)
        clear hK K
        have HBM := Lib.hid (HB5.out.alloc HB5.out.size (.cells #[.int .i64 u.id, .int .i64 u.kind, .int .i64 u.home, .int .i64 u.state, .int .i64 u.node, .int .i64 u.seq, .int .i64 u.heard, .int .i64 u.inc, .int .i64 u.epoch, .int .i64 u.acked] 44))
        have HOM := Lib.hid (OwnR.alloc hown5 (.cells #[.int .i64 u.id, .int .i64 u.kind, .int .i64 u.home, .int .i64 u.state, .int .i64 u.node, .int .i64 u.seq, .int .i64 u.heard, .int .i64 u.inc, .int .i64 u.epoch, .int .i64 u.acked] 44))
        have hX : UnitsAt (w5.alloc (.cells #[.int .i64 u.id, .int .i64 u.kind, .int .i64 u.home, .int .i64 u.state, .int .i64 u.node, .int .i64 u.seq, .int .i64 u.heard, .int .i64 u.inc, .int .i64 u.epoch, .int .i64 u.acked] 44)) (w5.alloc (.cells #[.int .i64 u.id, .int .i64 u.kind, .int .i64 u.home, .int .i64 u.state, .int .i64 u.node, .int .i64 u.seq, .int .i64 u.heard, .int .i64 u.inc, .int .i64 u.epoch, .int .i64 u.acked] 44)).heap.size (some ⟨w5.heap.size, 0, none⟩) [u] := RecsAt.lit w5 [u] 44 rfl _ rfl
        refine wpAnyH_ready (rs := [6]) (by kernel_rfl) (by simp) ?_
        refine AllReadyH.cons rfl (fun K hK => ?_) AllReadyH.nil
        refine step_append_recs _ (by rfl) cellsU_len (.tmp 14) (.tmp 16) 27 (by rfl) 44 Tryd.underlying27 unit_info rfl (by omega) (by omega) W.heap.size _ s.us (by rfl) HOM.out _ _ _ _ [u] (by rfl) (by rfl) (by simp) hX (fun y _ => cellsU_one y) (by simp; omega) HBM.out.size ?_
        intro v6 w6 hown6 hg6
        have HB6 := Lib.hid (HBM.out.grown hg6 HBM.out.size (fun j hj => OwnR.ge_base HOM.out j hj))
        obtain ⟨A6, c6, rfl, hsl6⟩ := OwnR.sl hown6
        rw [List.length_append, List.length_singleton] at hown6 ⊢
        refine hK.out _ _ (HB6.out.mono hlo) (fun hHeld => ?_)
        clear hK K
        have hlz : w.heap.size + 1 + 1 < W.heap.size := by have := HZ.out; omega
        have t1 := (HBP.out.1.below hlz HB6.out).c4
        have t2 := (HB6.out.frozen (p := ⟨w.heap.size + 1 + 1, 4, none⟩) hlz).trans (HBP.out.2 4)
        refine wpAnyH_take (i := 7) (v := .pointer (some ⟨w.heap.size + 1 + 1, 4, none⟩)) rfl (by kernel_rfl) (by kernel_rfl) (by kernel_rfl) (fun _ _ _ h => h) (Or.inl ⟨by rfl, ?_⟩) (by assumption) ?_
        · intro wS hSw
          go_simp
        refine wpAnyH_ready (rs := [8]) (by kernel_rfl) (by simp) ?_
        refine AllReadyH.cons rfl (fun K hK => ?_) AllReadyH.nil
        go_simp
        refine hK.out _ _ ((HB6.out.mono hlo).setCell (p := ⟨w.heap.size + 1 + 1, 4, none⟩) (Nat.le_refl _) _) (fun hHeld => ?_)
        clear hK K
        refine wpAnyH_done (by kernel_rfl) ?_ _
        go_wp2_with fail
        go_meet
        case rel => exact ⟨A6, c6, More3.mk' HBP.out.1 HBP.out.2 HZ.out HB6.out hown6⟩
      · go_simp
        refine hK.out _ _ ((hHa.alloc hHa.size _).mono hlo) (fun hHeld => ?_)
        clear hK K hHeld
        have hHb := hHa.alloc hHa.size (.cells #[.int .i64 u.id, .int .i64 u.kind, .int .i64 u.home, .int .i64 u.state, .int .i64 u.node, .int .i64 u.seq, .int .i64 u.heard, .int .i64 u.inc, .int .i64 u.epoch, .int .i64 u.acked] 44)
        have hE1 := OwnR.alloc hE0 (.cells #[.int .i64 u.id, .int .i64 u.kind, .int .i64 u.home, .int .i64 u.state, .int .i64 u.node, .int .i64 u.seq, .int .i64 u.heard, .int .i64 u.inc, .int .i64 u.epoch, .int .i64 u.acked] 44)
        have hX0 : UnitsAt ((wd.alloc (.cells #[] 44)).alloc (.cells #[.int .i64 u.id, .int .i64 u.kind, .int .i64 u.home, .int .i64 u.state, .int .i64 u.node, .int .i64 u.seq, .int .i64 u.heard, .int .i64 u.inc, .int .i64 u.epoch, .int .i64 u.acked] 44)) ((wd.alloc (.cells #[] 44)).alloc (.cells #[.int .i64 u.id, .int .i64 u.kind, .int .i64 u.home, .int .i64 u.state, .int .i64 u.node, .int .i64 u.seq, .int .i64 u.heard, .int .i64 u.inc, .int .i64 u.epoch, .int .i64 u.acked] 44)).heap.size (some ⟨wd.heap.size + 1, 0, none⟩) [u] := RecsAt.lit (wd.alloc (.cells #[] 44)) [u] 44 (by simp) _ rfl
        refine wpAnyH_ready (rs := [3]) (by kernel_rfl) (by simp) ?_
        refine AllReadyH.cons rfl (fun K hK => ?_) AllReadyH.nil
        refine step_append_recs _ (by rfl) cellsU_len (.tmp 11) (.tmp 13) 27 (by rfl) 44 Tryd.underlying27 unit_info rfl (by omega) (by omega) W.heap.size _ [] (by rfl) hE1 W.heap.size _ _ _ s.us (by rfl) (by rfl) HN0.out (HIN.out.u.below hHb) (fun y _ => cellsU_one y) (by simp; omega) hHb.size ?_
        intro v5 w5 hown5 hg5
        rw [List.nil_append] at hown5
        have HB5 := Lib.hid (hHb.grown hg5 hHb.size (fun j hj => OwnR.ge_base hE1 j hj))
        refine hK.out _ _ (HB5.out.mono hlo) (fun hHeld => ?_)
        clear hK K
        have hX : UnitsAt w5 w5.heap.size (some ⟨wd.heap.size + 1, 0, none⟩) [u] := fun j q hj => by
          obtain ⟨b, o, e, hb, hc⟩ := hX0 j q hj
          cases e
          exact ⟨_, _, rfl, Nat.lt_of_lt_of_le hb hg5.size, (hg5.cell_far ⟨_, _, none⟩ hb (by simp [Value.ownBlock])).trans hc⟩
        refine wpAnyH_ready (rs := [6]) (by kernel_rfl) (by simp) ?_
        refine AllReadyH.cons rfl (fun K hK => ?_) AllReadyH.nil
        refine step_append_recs _ (by rfl) cellsU_len (.tmp 14) (.tmp 16) 27 (by rfl) 44 Tryd.underlying27 unit_info rfl (by omega) (by omega) W.heap.size _ s.us (by rfl) hown5 _ _ _ _ [u] (by rfl) (by rfl) (by simp) hX (fun y _ => cellsU_one y) (by simp; omega) HB5.out.size ?_
        intro v6 w6 hown6 hg6
        have HB6 := Lib.hid (HB5.out.grown hg6 HB5.out.size (fun j hj => OwnR.ge_base hown5 j hj))
        obtain ⟨A6, c6, rfl, hsl6⟩ := OwnR.sl hown6
        rw [List.length_append, List.length_singleton] at hown6 ⊢
        refine hK.out _ _ (HB6.out.mono hlo) (fun hHeld => ?_)
        clear hK K
        have hlz : w.heap.size + 1 + 1 < W.heap.size := by have := HZ.out; omega
        have t1 := (HBP.out.1.below hlz HB6.out).c4
        have t2 := (HB6.out.frozen (p := ⟨w.heap.size + 1 + 1, 4, none⟩) hlz).trans (HBP.out.2 4)
        refine wpAnyH_take (i := 7) (v := .pointer (some ⟨w.heap.size + 1 + 1, 4, none⟩)) rfl (by kernel_rfl) (by kernel_rfl) (by kernel_rfl) (fun _ _ _ h => h) (Or.inl ⟨by rfl, ?_⟩) (by assumption) ?_
        · intro wS hSw
          go_simp
        refine wpAnyH_ready (rs := [8]) (by kernel_rfl) (by simp) ?_
        refine AllReadyH.cons rfl (fun K hK => ?_) AllReadyH.nil
        go_simp
        refine hK.out _ _ ((HB6.out.mono hlo).setCell (p := ⟨w.heap.size + 1 + 1, 4, none⟩) (Nat.le_refl _) _) (fun hHeld => ?_)
        clear hK K
        refine wpAnyH_done (by kernel_rfl) ?_ _
        go_wp2_with fail
        go_meet
        case rel => exact ⟨A6, c6, More3.mk' HBP.out.1 HBP.out.2 HZ.out HB6.out hown6⟩
    · go_simp
      refine hK.out _ _ ((hHd.alloc hHd.size _).mono hlo) (fun hHeld => ?_)
      clear hK K hHeld
      have hHa := hHd.alloc hHd.size (.cells #[.int .i64 u.id, .int .i64 u.kind, .int .i64 u.home, .int .i64 u.state, .int .i64 u.node, .int .i64 u.seq, .int .i64 u.heard, .int .i64 u.inc, .int .i64 u.epoch, .int .i64 u.acked] 44)
      refine wpAnyH_ready (rs := [0]) (by kernel_rfl) (by simp) ?_
      refine AllReadyH.cons rfl (fun K hK => ?_) AllReadyH.nil
      go_simp
      refine hK.out _ _ ((hHa.alloc hHa.size _).mono hlo) (fun hHeld => ?_)
      clear hK K
      have hHb := hHa.alloc hHa.size (.cells #[] 44)
      have hE1 : OwnU ((wd.alloc (.cells #[.int .i64 u.id, .int .i64 u.kind, .int .i64 u.home, .int .i64 u.state, .int .i64 u.node, .int .i64 u.seq, .int .i64 u.heard, .int .i64 u.inc, .int .i64 u.epoch, .int .i64 u.acked] 44)).alloc (.cells #[] 44)) W.heap.size 44 (.slice (some ⟨wd.heap.size + 1, 0, none⟩) 0 0) [] := OwnR.lit (wd.alloc (.cells #[.int .i64 u.id, .int .i64 u.kind, .int .i64 u.home, .int .i64 u.state, .int .i64 u.node, .int .i64 u.seq, .int .i64 u.heard, .int .i64 u.inc, .int .i64 u.epoch, .int .i64 u.acked] 44)) cellsU_len W.heap.size 44 [] (by simp) (by have := hHd.size; omega) (by simp) #[] rfl
      have hX0 : UnitsAt ((wd.alloc (.cells #[.int .i64 u.id, .int .i64 u.kind, .int .i64 u.home, .int .i64 u.state, .int .i64 u.node, .int .i64 u.seq, .int .i64 u.heard, .int .i64 u.inc, .int .i64 u.epoch, .int .i64 u.acked] 44)).alloc (.cells #[] 44)) ((wd.alloc (.cells #[.int .i64 u.id, .int .i64 u.kind, .int .i64 u.home, .int .i64 u.state, .int .i64 u.node, .int .i64 u.seq, .int .i64 u.heard, .int .i64 u.inc, .int .i64 u.epoch, .int .i64 u.acked] 44)).alloc (.cells #[] 44)).heap.size (some ⟨wd.heap.size, 0, none⟩) [u] := ((RecsAt.lit (cs := cellsU) wd [u] 44 rfl #[.int .i64 u.id, .int .i64 u.kind, .int .i64 u.home, .int .i64 u.state, .int .i64 u.node, .int .i64 u.seq, .int .i64 u.heard, .int .i64 u.inc, .int .i64 u.epoch, .int .i64 u.acked] rfl).alloc (Nat.le_refl _) _).more (by simp)
      refine wpAnyH_ready (rs := [3]) (by kernel_rfl) (by simp) ?_
      refine AllReadyH.cons rfl (fun K hK => ?_) AllReadyH.nil
      refine step_append_recs _ (by rfl) cellsU_len (.tmp 11) (.tmp 13) 27 (by rfl) 44 Tryd.underlying27 unit_info rfl (by omega) (by omega) W.heap.size _ [] (by rfl) hE1 W.heap.size _ _ _ s.us (by rfl) (by rfl) HN0.out (HIN.out.u.below hHb) (fun y _ => cellsU_one y) (by simp; omega) hHb.size ?_
      intro v5 w5 hown5 hg5
      rw [List.nil_append] at hown5
      have HB5 := Lib.hid (hHb.grown hg5 hHb.size (fun j hj => OwnR.ge_base hE1 j hj))
      refine hK.out _ _ (HB5.out.mono hlo) (fun hHeld => ?_)
      clear hK K
      have hX : UnitsAt w5 w5.heap.size (some ⟨wd.heap.size, 0, none⟩) [u] := fun j q hj => by
        obtain ⟨b, o, e, hb, hc⟩ := hX0 j q hj
        cases e
        exact ⟨_, _, rfl, Nat.lt_of_lt_of_le hb hg5.size, (hg5.cell_far ⟨_, _, none⟩ hb (by simp [Value.ownBlock])).trans hc⟩
      refine wpAnyH_ready (rs := [6]) (by kernel_rfl) (by simp) ?_
      refine AllReadyH.cons rfl (fun K hK => ?_) AllReadyH.nil
      refine step_append_recs _ (by rfl) cellsU_len (.tmp 14) (.tmp 16) 27 (by rfl) 44 Tryd.underlying27 unit_info rfl (by omega) (by omega) W.heap.size _ s.us (by rfl) hown5 _ _ _ _ [u] (by rfl) (by rfl) (by simp) hX (fun y _ => cellsU_one y) (by simp; omega) HB5.out.size ?_
      intro v6 w6 hown6 hg6
      have HB6 := Lib.hid (HB5.out.grown hg6 HB5.out.size (fun j hj => OwnR.ge_base hown5 j hj))
      obtain ⟨A6, c6, rfl, hsl6⟩ := OwnR.sl hown6
      rw [List.length_append, List.length_singleton] at hown6 ⊢
      refine hK.out _ _ (HB6.out.mono hlo) (fun hHeld => ?_)
      clear hK K
      have hlz : w.heap.size + 1 + 1 < W.heap.size := by have := HZ.out; omega
      have t1 := (HBP.out.1.below hlz HB6.out).c4
      have t2 := (HB6.out.frozen (p := ⟨w.heap.size + 1 + 1, 4, none⟩) hlz).trans (HBP.out.2 4)
      refine wpAnyH_take (i := 7) (v := .pointer (some ⟨w.heap.size + 1 + 1, 4, none⟩)) rfl (by kernel_rfl) (by kernel_rfl) (by kernel_rfl) (fun _ _ _ h => h) (Or.inl ⟨by rfl, ?_⟩) (by assumption) ?_
      · intro wS hSw
        go_simp
      refine wpAnyH_ready (rs := [8]) (by kernel_rfl) (by simp) ?_
      refine AllReadyH.cons rfl (fun K hK => ?_) AllReadyH.nil
      go_simp
      refine hK.out _ _ ((HB6.out.mono hlo).setCell (p := ⟨w.heap.size + 1 + 1, 4, none⟩) (Nat.le_refl _) _) (fun hHeld => ?_)
      clear hK K
      refine wpAnyH_done (by kernel_rfl) ?_ _
      go_wp2_with fail
      go_meet
      case rel => exact ⟨A6, c6, More3.mk' HBP.out.1 HBP.out.2 HZ.out HB6.out hown6⟩
  case rest =>
    obtain ⟨A6, c6', hm⟩ := hcut
    have hlz : w.heap.size + 1 + 1 < W.heap.size := by have := HZ.out; omega
    have hbc : Below w.heap.size w wc := HB.out.trans (hm.below.mono (by omega))
    have HBC := Lib.hid hbc
    have HM := Lib.hid hm
    have HLZ := Lib.hid hlz
    have hbxc := HBS.out.below (B := w.heap.size + 1 + 1) (by omega) hm.below
    have hi7 := (hm.below.cell (p := ⟨w.heap.size + 1, 7, none⟩) (Nat.lt_succ_self _)).trans (HBU.out.cell (j := 7) rfl)
    have HI7 := Lib.hid hi7
    have HBX := Lib.hid hbxc
    have hzc : w.heap.size + 1 + 1 < wc.heap.size := Nat.lt_of_lt_of_le hlz hm.size
    have HRC := Lib.hid (HR0.out.below hbc)
    have HINC := Lib.hid (HS0.out.next hbc)
    have hl1 := HWF.out.il
    obtain ⟨c0, c1, c2, c3, c4, c5, c6⟩ := hbxc
    have HN := Lib.hid (net38_any s wc HINC.out HWF.out)
    clear hlz hbc hm hi7 HBS HBP HLD HBU HN0 HIN HR HB
    go_wp2_with fail
    ((with_reducible refine HN.out.mono ?_))
    rintro e w1 (⟨n, p, hn, hf, rfl, hg, hp, hb1⟩ | ⟨rfl, hb1⟩)
    · have hm1 := HM.out.next HLZ.out hb1
      have hi71 := (hb1.cell (p := ⟨w.heap.size + 1, 7, none⟩) (by simp only; omega)).trans HI7.out
      have hbx1 := HBX.out.below (B := wc.heap.size) (by omega) hb1
      have HM1 := Lib.hid hm1
      have HI71 := Lib.hid hi71
      have HBX1 := Lib.hid hbx1
      have HBC1 := Lib.hid (HBC.out.trans (hb1.mono HBC.out.size))
      have HR1 := Lib.hid (HRC.out.below hb1)
      have HF := Lib.hid hf
      have HG1 := Lib.hid hg
      have hz1 : w.heap.size + 1 + 1 < w1.heap.size := Nat.lt_of_lt_of_le hzc hb1.size
      have hpP : ¬ p = w.heap.size + 1 + 1 := by omega
      have hnN : 1 ≤ n := by have := hf.right.1; omega
      have HOK := Lib.hid (hf.ok hn)
      have hcap1 := hm1.own.caps
      have hul2 : (s.us ++ [u]).length = s.us.length + 1 := by simp
      have HN2 : Hid (Calls Tryd.prog 7 #[.agg #[.int .i64 s.z, .slice s.eA s.E.length s.ec, .slice s.tA s.ts.length s.tc, .slice s.iA s.xs.length s.ic, .slice A6 (s.us ++ [u]).length c6', .slice s.pA s.ps.length s.pc, .int .i64 s.rsv]] w1 (RetNet38 w1 (s.crew A6 (s.us ++ [u]) c6'))) := Lib.hid (net38_any (s.crew A6 (s.us ++ [u]) c6') w1 ((HS0.out.next HBC1.out).crew (own_recs hm1.own)) (HWF.out.crew (fun q hq => by
        rcases List.mem_append.1 hq with hq | hq
        · exact HWF.out.uw q hq
        · rw [List.mem_singleton] at hq
          rw [hq]
          exact HU.out) (by rw [← hcap1.1] at hcap1; have := hcap1.2.1; rw [hul2]; omega) hcap1.2.2.1 hcap1.2.2.2))
      rw [hul2] at HN2
      have HUL2 := Lib.hid hul2
      obtain ⟨p0, p1, p2, p3, p4, p5, p6⟩ : w1.cell? ⟨w.heap.size + 1 + 1, 0, none⟩ = some (.int .i64 s.z) ∧ w1.cell? ⟨w.heap.size + 1 + 1, 1, none⟩ = some (.slice s.eA s.E.length s.ec) ∧ w1.cell? ⟨w.heap.size + 1 + 1, 2, none⟩ = some (.slice s.tA s.ts.length s.tc) ∧ w1.cell? ⟨w.heap.size + 1 + 1, 3, none⟩ = some (.slice s.iA s.xs.length s.ic) ∧ w1.cell? ⟨w.heap.size + 1 + 1, 4, none⟩ = some (.slice A6 (s.us.length + 1) c6') ∧ w1.cell? ⟨w.heap.size + 1 + 1, 5, none⟩ = some (.slice s.pA s.ps.length s.pc) ∧ w1.cell? ⟨w.heap.size + 1 + 1, 6, none⟩ = some (.int .i64 s.rsv) := ⟨hm1.c0, hm1.c1, hm1.c2, hm1.c3, hm1.c4, hm1.c5, hm1.c6⟩
      clear c0 c1 c2 c3 c4 c5 c6 hn hf hg hp hb1 hm1 hi71 hbx1 HN HBX HI7 HM HBC HRC HINC hcap1 hul2
      go_wp2_with fail
      ((with_reducible refine HN2.out.mono ?_))
      rintro e w2 (⟨n2, p2', hn2, hf2, rfl, _, _, hb2⟩ | ⟨rfl, hb2⟩)
      · have hi72 := (hb2.cell (p := ⟨w.heap.size + 1, 7, none⟩) (by simp only; omega)).trans HI71.out
        have HBX2 := Lib.hid (HBX1.out.below (B := w1.heap.size) (by omega) hb2)
        have HM2 := Lib.hid (HM1.out.next HLZ.out hb2)
        have HB2 := Lib.hid (HBC1.out.trans (hb2.mono HBC1.out.size))
        have HR2 := Lib.hid (HR1.out.below hb2)
        have HF2 := Lib.hid hf2
        have HI72 := Lib.hid hi72
        have HG2 := Lib.hid ((HG1.out.below hb2).more hb2.size)
        have hzP2 : w.heap.size + 1 + 1 < w2.heap.size := Nat.lt_of_lt_of_le hz1 hb2.size
        have HIN2 := Lib.hid (HS0.out.next HB2.out)
        have hz2 : w.heap.size < w2.heap.size := by omega
        have hne : ¬ w.heap.size = w2.heap.size := by omega
        clear p0 p1 p2 p3 p4 p5 p6 hn2 hf2 hb2 HN2 HBX1 HM1 HI71 HG1 HR1 HBC1
        by_cases hui : u.inc = 0
        · have hui' : (u.inc != 0) = false := by simp [hui]
          have HUI := Lib.hid hui
          clear hui
          obtain ⟨c0, c1, c2, c3, c4, c5, c6⟩ := HBX2.out
          go_upto_region 8 with fail
          obtain ⟨W3, hW3⟩ : ∃ W3, W3 = w2.alloc (.cells #[.int .i64 s.z, .slice s.eA s.E.length s.ec, .slice s.tA s.ts.length s.tc, .slice none 0 0, .slice s.uA s.us.length s.uc, .slice s.pA s.ps.length s.pc, .int .i64 s.rsv] 30) := ⟨_, rfl⟩
          have hb23 : Below w2.heap.size w2 W3 := by rw [hW3]; exact below_newH _ _
          have hcp : CopyAt w2.heap.size s w2 (.slice none 0 0) (passI (fun x => decide (x.urg = 1)) s.xs 0) W3 := by
            have hbk := blk_new w2 [.int .i64 s.z, .slice s.eA s.E.length s.ec, .slice s.tA s.ts.length s.tc, .slice none 0 0, .slice s.uA s.us.length s.uc, .slice s.pA s.ps.length s.pc, .int .i64 s.rsv] 30
            have hbk : Blk W3 w2.heap.size 30 [.int .i64 s.z, .slice s.eA s.E.length s.ec, .slice s.tA s.ts.length s.tc, .slice none 0 0, .slice s.uA s.us.length s.uc, .slice s.pA s.ps.length s.pc, .int .i64 s.rsv] := by rw [hW3]; exact hbk
            exact ⟨hb23, hbk.cell (j := 0) rfl, hbk.cell (j := 1) rfl, hbk.cell (j := 2) rfl, hbk.cell (j := 3) rfl, hbk.free 3, hbk.cell (j := 4) rfl, hbk.cell (j := 5) rfl, hbk.cell (j := 6) rfl, OwnR.nil _ _ _, hbk.lt⟩
          have HCP := Lib.hid hcp
          have hbx3 := HBX2.out.below hz2 hb23
          rw [← hW3]
          clear c0 c1 c2 c3 c4 c5 c6 hb23 hcp hW3
          have c3 := hbx3.c3
          clear hbx3
          go_wp2_with fail
          go_loopw [39] (fun iv Y => ∃ (k : Nat) (v : Value), k ≤ s.xs.length ∧ iv = .int .i64 k ∧ CopyAt w2.heap.size s w2 v (passI (fun x => decide (x.urg = 1)) s.xs k) Y ∧ Hid (∀ (j : Nat) (x : IncT), j < k → s.xs[j]? = some x → x.id ≠ u.inc)) (fun iv _ => s.xs.length - (intOf iv).toNat)
          case atStart => exact ⟨0, _, Nat.zero_le _, rfl, HCP.out, Lib.hid (fun j x hj => by omega)⟩
          case round =>
            clear HCP c3
            obtain ⟨k, v, hk, rfl, hcp, HNI⟩ := hrel
            have HCP := Lib.hid hcp
            clear hcp
            by_cases hlt : k < s.xs.length
            · have hlt' : (k : Int) < (s.xs.length : Int) := by omega
              obtain ⟨x, hx⟩ : ∃ x, s.xs[k]? = some x := ⟨_, List.getElem?_eq_getElem hlt⟩
              obtain ⟨b1, o1, hA1, hb1, q0, q1, q2, q3, q4, q5, q6, q7, q8, q9⟩ := inc_at (HIN2.out.i.below HCP.out.below) hx
              obtain ⟨iA, hiA⟩ : ∃ A, A = s.iA := ⟨_, rfl⟩
              rw [← hiA] at hA1 ⊢
              subst hA1
              have HIA := Lib.hid hiA
              have hpl := passI_len (fun x => decide (x.urg = 1)) s.xs k
              have HPS := Lib.hid (passI_succ (p := fun x => decide (x.urg = 1)) hx)
              have HX := Lib.hid hx
              obtain ⟨W0, hW0⟩ : ∃ W0, W0 = wr.alloc (.cells #[.int .i64 x.id, .int .i64 x.urg, .string x.code, .slice x.nA x.nodes.length x.nc, .int .i64 x.dist, .int .i64 x.since, .slice x.cA x.cl x.cc, .slice x.uA x.ul x.uc, .int .i64 x.merged, .bool x.closed] 38) := ⟨_, rfl⟩
              have HC0 : Hid (CopyAt w2.heap.size s w2 v (passI (fun x => decide (x.urg = 1)) s.xs k) W0) := Lib.hid (by rw [hW0]; exact HCP.out.alloc _)
              have hbk : Blk W0 wr.heap.size 38 [.int .i64 x.id, .int .i64 x.urg, .string x.code, .slice x.nA x.nodes.length x.nc, .int .i64 x.dist, .int .i64 x.since, .slice x.cA x.cl x.cc, .slice x.uA x.ul x.uc, .int .i64 x.merged, .bool x.closed] := by rw [hW0]; exact blk_new wr [.int .i64 x.id, .int .i64 x.urg, .string x.code, .slice x.nA x.nodes.length x.nc, .int .i64 x.dist, .int .i64 x.since, .slice x.cA x.cl x.cc, .slice x.uA x.ul x.uc, .int .i64 x.merged, .bool x.closed] 38
              have hbw : b1 < wr.heap.size := Nat.lt_trans hb1 HCP.out.lt
              clear hx hiA
              go_upto_region 11 with fail
              rw [← hW0]
              clear hW0 q0 q1 q2 q3 q4 q5 q6 q7 q8 q9
              have r0 := hbk.cell (j := 0) rfl
              have r1 := hbk.cell (j := 1) rfl
              have r2 := hbk.cell (j := 2) rfl
              have r3 := hbk.cell (j := 3) rfl
              have r4 := hbk.cell (j := 4) rfl
              have r5 := hbk.cell (j := 5) rfl
              have r6 := hbk.cell (j := 6) rfl
              have r7 := hbk.cell (j := 7) rfl
              have r8 := hbk.cell (j := 8) rfl
              have r9 := hbk.cell (j := 9) rfl
              have hw0 : w2.heap.size + 1 ≤ W0.heap.size := HC0.out.lt
              have hv3 := HC0.out.c3
              have hi0 := (HC0.out.below.cell (p := ⟨w.heap.size + 1, 7, none⟩) (by simp only; omega)).trans HI72.out
              clear hbk
              by_cases hxi : x.id = u.inc
              · have hxb : (x.id == u.inc) = true := by simp [hxi]
                have HB3 := Lib.hid (HB2.out.trans (HC0.out.below.mono HB2.out.size))
                have HR3 := Lib.hid (HR2.out.below HC0.out.below)
                clear hxi
                go_wp2_with fail
                ((with_reducible refine (awake38_any _ HR3.out).mono ?_))
                rintro e w6 ⟨rfl, hb6⟩
                have HB6 := Lib.hid (HB3.out.trans (hb6.mono HB3.out.size))
                clear hb6
                go_wp2_with fail
                go_ret
                exact ⟨rfl, HB6.out⟩
              have hxb : (x.id == u.inc) = false := by simp [hxi]
              have HXN := Lib.hid hxi
              clear hxi
              by_cases hle : x.urg = 1
              · have hleb : (x.urg == 1) = true := by simp [hle]
                have hp1 : (fun x : IncT => decide (x.urg = 1)) x = true := decide_eq_true hle
                have HPF := Lib.hid (fun (g c : Nat) (w' : World) (hg : W0.grownBy w' v.ownBlock) (ho : OwnInc w' (w2.heap.size + 1) 38 (.slice (some ⟨g, 0, none⟩) ((passI (fun x => decide (x.urg = 1)) s.xs k).length + 1) c) (passI (fun x => decide (x.urg = 1)) s.xs k ++ [x])) => (show w'.cell? ⟨w2.heap.size, 3, none⟩ = some v ∧ w'.frozen? ⟨w2.heap.size, 3, none⟩ = false from by
                  have hb := (HC0.out.put hg ho).1
                  exact ⟨(hb.cell (p := ⟨w2.heap.size, 3, none⟩) (Nat.lt_succ_self _)).trans HC0.out.c3, (hb.frozen (p := ⟨w2.heap.size, 3, none⟩) (Nat.lt_succ_self _)).trans HC0.out.f3⟩))
                have HP1 := Lib.hid hp1
                clear hp1 hle
                go_wp2_with (at_builtin; refine wpList_append_recL _ rfl (.tmp 53) (.tmp 55) 26 rfl (w2.heap.size + 1) 38 Tryd.underlying26 inc_info rfl (by omega) (by omega) cellsI_len v (passI (fun x => decide (x.urg = 1)) s.xs k) W0 x (cellsI_one _) _ rfl rfl rfl HC0.out.own _ rfl rfl (by have := hl1; have := HOK.out.hl; omega) hw0 ?_; intro g cap w' hown' hg' hat'; obtain ⟨hc', hf'⟩ := HPF.out g cap w' hg' hown')
                go_roundw
                case rel =>
                  refine ⟨k + 1, .slice (some ⟨g, 0, none⟩) ((passI (fun x => decide (x.urg = 1)) s.xs k).length + 1) cap, by omega, by go_num, ?_, Lib.hid (fun j y hj hy => by
                    by_cases e : j = k
                    · subst e
                      rw [HX.out] at hy
                      injection hy with hy
                      subst hy
                      exact HXN.out
                    · exact HNI.out j y (by omega) hy)⟩
                  have h2 := (HC0.out.put hg' hown').2
                  rw [HPS.out, if_pos HP1.out]
                  exact h2
                case measure => simp [intOf]; omega
              · have hleb : (x.urg == 1) = false := by simp [hle]
                have hp1 : (fun x : IncT => decide (x.urg = 1)) x = false := decide_eq_false hle
                have HP1 := Lib.hid hp1
                clear hp1 hle
                go_wp2_with fail
                go_roundw
                case rel =>
                  refine ⟨k + 1, v, by omega, by go_num, ?_, Lib.hid (fun j y hj hy => by
                    by_cases e : j = k
                    · subst e
                      rw [HX.out] at hy
                      injection hy with hy
                      subst hy
                      exact HXN.out
                    · exact HNI.out j y (by omega) hy)⟩
                  rw [HPS.out, if_neg (by have := HP1.out; simp only at this; rw [this]; decide)]
                  exact HC0.out
                case measure => simp [intOf]; omega
            · obtain rfl : k = s.xs.length := by omega
              have hcp := HCP.out
              rw [passI_all] at hcp
              obtain ⟨ys, hys⟩ : ∃ ys, ys = s.xs.filter (fun x => decide (x.urg = 1)) := ⟨_, rfl⟩
              rw [← hys] at hcp
              have hsub : ∀ y ∈ ys, y ∈ s.xs := fun y hy => by rw [hys] at hy; exact (List.mem_filter.1 hy).1
              have hyl : ys.length ≤ s.xs.length := by rw [hys]; exact List.length_filter_le _ _
              obtain ⟨A7, c7, rfl, hr7⟩ := hcp.own.sl
              have hn7 : A7 = none → c7 = 0 := hcp.own.caps.2.2.2
              have hb2r := hcp.below
              have hbw : Below w.heap.size w wr := HB2.out.trans (hb2r.mono HB2.out.size)
              have hmw := HM2.out.next HLZ.out hb2r
              have k0 := hcp.c0
              have k1 := hcp.c1
              have k2 := hcp.c2
              have k3 := hcp.c3
              have k4 := hcp.c4
              have k5 := hcp.c5
              have k6 := hcp.c6
              have m3 := hmw.c3
              have mf := hmw.f3
              obtain ⟨Wz, hWz⟩ : ∃ Wz, Wz = wr.setCell ⟨w.heap.size + 1 + 1, 3, none⟩ (.slice A7 ys.length c7) := ⟨_, rfl⟩
              have hzw : w2.heap.size < wr.heap.size := hcp.lt
              have hoth : ∀ (b j : Nat) (q : Value), wr.cell? ⟨b, j, none⟩ = some q → (b ≠ w.heap.size + 1 + 1 ∨ j ≠ 3) → Wz.cell? ⟨b, j, none⟩ = some q := fun b j q hq hne => by
                rw [hWz]
                exact (World.cell?_setCell_other wr ⟨w.heap.size + 1 + 1, 3, none⟩ ⟨b, j, none⟩ _ (by intro e; injection e with e1 e2; rcases hne with h | h; exact h e1.symm; exact h e2.symm)).trans hq
              have hbz : Below w.heap.size w Wz := by rw [hWz]; exact hbw.setCell (p := ⟨w.heap.size + 1 + 1, 3, none⟩) (by simp only; omega) _
              have hgz : GraphAt Wz Wz.heap.size p n s.E := by
                rw [hWz]
                have h := graph_set ((HG2.out.below hb2r).more hb2r.size) hnN hpP hmw.c0 hmw.c3 (.slice A7 ys.length c7)
                exact h.more (by simp)
              have hoz : OwnInc Wz (w2.heap.size + 1) 38 (.slice A7 ys.length c7) ys := by rw [hWz]; exact hcp.own.setCell_other (fun e => by have h : w2.heap.size + 1 ≤ w.heap.size + 1 + 1 := hcp.own.ge_base _ e; omega) _
              have huz : OwnU Wz (w.heap.size + 1 + 1 + 1) 44 (.slice A6 (s.us.length + 1) c6') (s.us ++ [u]) := by rw [hWz]; exact hmw.own.setCell_other (fun e => by have h : w.heap.size + 1 + 1 + 1 ≤ w.heap.size + 1 + 1 := hmw.own.ge_base _ e; omega) _
              have hinz : StIn Wz Wz.heap.size s := HS0.out.next hbz
              have hone : StIn Wz Wz.heap.size (s.lay A7 ys c7) := hinz.lay (own_recs hoz) hsub
              have htwo : StIn Wz Wz.heap.size ((s.crew A6 (s.us ++ [u]) c6').lay A7 ys c7) := StIn.lay (s := s.crew A6 (s.us ++ [u]) c6') (hinz.crew (own_recs huz)) (own_recs hoz) hsub
              have hcap2 := huz.caps
              have hwf2 : StWf ((s.crew A6 (s.us ++ [u]) c6').lay A7 ys c7) := StWf.lay (s := s.crew A6 (s.us ++ [u]) c6') (HWF.out.crew (fun q hq => by
                rcases List.mem_append.1 hq with hq | hq
                · exact HWF.out.uw q hq
                · rw [List.mem_singleton] at hq
                  rw [hq]
                  exact HU.out) (by rw [← hcap2.1] at hcap2; have := hcap2.2.1; rw [HUL2.out]; omega) hcap2.2.2.1 hcap2.2.2.2) hsub (by omega) hn7
              have hul12 : s.us.length + 1 ≤ 12 := by have h := HF2.out.small.2.1; rw [← HUL2.out]; exact h
              have hok2 : StOk n ((s.crew A6 (s.us ++ [u]) c6').lay A7 ys c7) := ⟨HOK.out.hn, HOK.out.hE, HOK.out.hok, by have h := HOK.out.hl; show ys.length ≤ 19; omega, fun x hx => HOK.out.hsml x (hsub x hx), by show (s.us ++ [u]).length ≤ 64; rw [HUL2.out]; omega, HOK.out.hsm⟩
              have HSO : Hid (∀ Y, Below Wz.heap.size Wz Y → Calls Tryd.prog 9 #[.pointer (some ⟨p, 0, none⟩), .agg #[.int .i64 s.z, .slice s.eA s.E.length s.ec, .slice s.tA s.ts.length s.tc, .slice A7 ys.length c7, .slice s.uA s.us.length s.uc, .slice s.pA s.ps.length s.pc, .int .i64 s.rsv]] Y (RetAsg Y n s.E s.ts ys s.ps s.rsv s.us)) := Lib.hid (fun Y hY => lsend_any (s.lay A7 ys c7) n p Y ((hgz.below hY).more hY.size) (hone.next hY) (HWF.out.lay hsub (by omega) hn7) (HOK.out.lay hsub hyl))
              have HST : Hid (∀ Y, Below Wz.heap.size Wz Y → Calls Tryd.prog 9 #[.pointer (some ⟨p, 0, none⟩), .agg #[.int .i64 s.z, .slice s.eA s.E.length s.ec, .slice s.tA s.ts.length s.tc, .slice A7 ys.length c7, .slice A6 (s.us ++ [u]).length c6', .slice s.pA s.ps.length s.pc, .int .i64 s.rsv]] Y (RetAsg Y n s.E s.ts ys s.ps s.rsv (s.us ++ [u]))) := Lib.hid (fun Y hY => lsend_any ((s.crew A6 (s.us ++ [u]) c6').lay A7 ys c7) n p Y ((hgz.below hY).more hY.size) (htwo.next hY) hwf2 hok2)
              rw [HUL2.out] at HST
              have HMORE := Lib.hid (fun (cs cs' : List ChoT) (u1 u2 : List UnitT) (h : RunR n s.E s.ts ys s.ps s.rsv [1, 2, 3, 4, 5] s.us cs u1) (h' : RunR n s.E s.ts ys s.ps s.rsv [1, 2, 3, 4, 5] (s.us ++ [u]) cs' u2) => run_more (fun x hx => by rw [hys] at hx; exact of_decide_eq_true (List.mem_filter.1 hx).2) (fun x hx => by
                rw [hys] at hx
                obtain ⟨j, hj⟩ := List.mem_iff_getElem?.1 (List.mem_filter.1 hx).1
                exact HNI.out j x (List.getElem?_eq_some_iff.1 hj).1 hj) (by omega) h h')
              have HLD := Lib.hid (fun (Y : World) (hY : Below Wz.heap.size Wz Y) => (show (Y.cell? ⟨w.heap.size + 1 + 1, 0, none⟩ = some (.int .i64 s.z) ∧ Y.cell? ⟨w.heap.size + 1 + 1, 1, none⟩ = some (.slice s.eA s.E.length s.ec) ∧ Y.cell? ⟨w.heap.size + 1 + 1, 2, none⟩ = some (.slice s.tA s.ts.length s.tc) ∧ Y.cell? ⟨w.heap.size + 1 + 1, 3, none⟩ = some (.slice A7 ys.length c7) ∧ Y.cell? ⟨w.heap.size + 1 + 1, 4, none⟩ = some (.slice A6 (s.us.length + 1) c6') ∧ Y.cell? ⟨w.heap.size + 1 + 1, 5, none⟩ = some (.slice s.pA s.ps.length s.pc) ∧ Y.cell? ⟨w.heap.size + 1 + 1, 6, none⟩ = some (.int .i64 s.rsv)) ∧ (Y.cell? ⟨w2.heap.size, 0, none⟩ = some (.int .i64 s.z) ∧ Y.cell? ⟨w2.heap.size, 1, none⟩ = some (.slice s.eA s.E.length s.ec) ∧ Y.cell? ⟨w2.heap.size, 2, none⟩ = some (.slice s.tA s.ts.length s.tc) ∧ Y.cell? ⟨w2.heap.size, 3, none⟩ = some (.slice A7 ys.length c7) ∧ Y.cell? ⟨w2.heap.size, 4, none⟩ = some (.slice s.uA s.us.length s.uc) ∧ Y.cell? ⟨w2.heap.size, 5, none⟩ = some (.slice s.pA s.ps.length s.pc) ∧ Y.cell? ⟨w2.heap.size, 6, none⟩ = some (.int .i64 s.rsv)) from by
                have hzz : wr.heap.size = Wz.heap.size := by rw [hWz]; simp
                have hp := fun (j : Nat) (q : Value) (hq : Wz.cell? ⟨w.heap.size + 1 + 1, j, none⟩ = some q) => (hY.cell (p := ⟨w.heap.size + 1 + 1, j, none⟩) (by simp only; omega)).trans hq
                have hq := fun (j : Nat) (q : Value) (hq : wr.cell? ⟨w2.heap.size, j, none⟩ = some q) => (hY.cell (p := ⟨w2.heap.size, j, none⟩) (by simp only; omega)).trans (hoth _ _ _ hq (.inl (by omega)))
                exact ⟨⟨hp 0 _ (hoth _ _ _ hmw.c0 (.inr (by decide))), hp 1 _ (hoth _ _ _ hmw.c1 (.inr (by decide))), hp 2 _ (hoth _ _ _ hmw.c2 (.inr (by decide))), hp 3 _ (by rw [hWz]; exact World.cell?_setCell_same' _ _ _ (by rw [m3]; rfl)), hp 4 _ (hoth _ _ _ hmw.c4 (.inr (by decide))), hp 5 _ (hoth _ _ _ hmw.c5 (.inr (by decide))), hp 6 _ (hoth _ _ _ hmw.c6 (.inr (by decide)))⟩, hq 0 _ k0, hq 1 _ k1, hq 2 _ k2, hq 3 _ k3, hq 4 _ k4, hq 5 _ k5, hq 6 _ k6⟩))
              have HBZ := Lib.hid hbz
              have HRZ := Lib.hid (HR0.out.below hbz)
              clear hcp hsub hyl hr7 hn7 hb2r hys HCP hbw hmw hoth hbz hgz hoz huz hinz hone htwo hcap2 hwf2 hul12 hok2
              go_upto_region 17 with fail
              rw [← hWz]
              clear hWz k0 k1 k2 k3 k4 k5 k6 m3 mf
              refine wp_region_held_drew (S := fun Y => Below Wz.heap.size Wz Y) (by kernel_rfl) ((Below.refl _ _).drew) (fun hHeld => ?_)
              obtain ⟨wd, hwd⟩ : ∃ wd, wd = Wz.drew := ⟨_, rfl⟩
              rw [← hwd] at hHeld ⊢
              have hHd : Below Wz.heap.size Wz wd := hHeld
              clear hwd
              refine wpAnyH_take (i := 0) (v := .pointer (some ⟨p, 0, none⟩)) rfl (by kernel_rfl) (by kernel_rfl) (by kernel_rfl) (fun _ _ _ h => h) (Or.inl ⟨by rfl, ?_⟩) (by assumption) ?_
              · intro wS hSw
                go_simp
              show wpAnyH _ _ _ _ _ _ _ (Act.put _ (some 62) _) _
              simp only [Act.put, List.setIfInBounds_toArray, List.set_cons_zero, List.set_cons_succ]
              refine wpAnyH_take (i := 1) (v := .agg #[.int .i64 s.z, .slice s.eA s.E.length s.ec, .slice s.tA s.ts.length s.tc, .slice A7 ys.length c7, .slice A6 (s.us.length + 1) c6', .slice s.pA s.ps.length s.pc, .int .i64 s.rsv]) rfl (by kernel_rfl) (by kernel_rfl) (by kernel_rfl) (fun _ _ _ h => h) (Or.inl ⟨by rfl, ?_⟩) (by assumption) ?_
              · intro wS hSw
                obtain ⟨⟨s0, s1, s2, s3, s4, s5, s6⟩, _⟩ := HLD.out wS hSw
                go_simp
              show wpAnyH _ _ _ _ _ _ _ (Act.put _ (some 63) _) _
              simp only [Act.put, List.setIfInBounds_toArray, List.set_cons_zero, List.set_cons_succ]
              refine wpAnyH_take (i := 4) (v := .pointer (some ⟨p, 0, none⟩)) rfl (by kernel_rfl) (by kernel_rfl) (by kernel_rfl) (fun _ _ _ h => h) (Or.inl ⟨by rfl, ?_⟩) (by assumption) ?_
              · intro wS hSw
                go_simp
              show wpAnyH _ _ _ _ _ _ _ (Act.put _ (some 66) _) _
              simp only [Act.put, List.setIfInBounds_toArray, List.set_cons_zero, List.set_cons_succ]
              refine wpAnyH_take (i := 5) (v := .agg #[.int .i64 s.z, .slice s.eA s.E.length s.ec, .slice s.tA s.ts.length s.tc, .slice A7 ys.length c7, .slice s.uA s.us.length s.uc, .slice s.pA s.ps.length s.pc, .int .i64 s.rsv]) rfl (by kernel_rfl) (by kernel_rfl) (by kernel_rfl) (fun _ _ _ h => h) (Or.inl ⟨by rfl, ?_⟩) (by assumption) ?_
              · intro wS hSw
                obtain ⟨_, s0, s1, s2, s3, s4, s5, s6⟩ := HLD.out wS hSw
                go_simp
              show wpAnyH _ _ _ _ _ _ _ (Act.put _ (some 67) _) _
              simp only [Act.put, List.setIfInBounds_toArray, List.set_cons_zero, List.set_cons_succ]
              refine wpAnyH_ready (rs := [2]) (by kernel_rfl) (by simp) ?_
              refine AllReadyH.cons rfl (fun K hK => ?_) AllReadyH.nil
              go_simp
              ((with_reducible refine (HST.out _ hHd).mono ?_))
              rintro e w6 ⟨v6, cs, us6, rfl, hrun6, hown6, _, hb6⟩
              obtain ⟨A8, c8, rfl, _⟩ := hown6.sl
              have hH6 : Below Wz.heap.size Wz w6 := hHd.trans (hb6.mono hHd.size)
              go_simp
              refine hK.out _ _ hH6 (fun hHeld => ?_)
              clear hK K hHeld
              have hHeld := hH6
              refine wpAnyH_take (i := 3) (v := .int .i64 (cs.length : Int)) rfl (by kernel_rfl) (by kernel_rfl) (by kernel_rfl) (fun _ _ _ h => h) (Or.inl ⟨by rfl, ?_⟩) (by assumption) ?_
              · intro wS hSw
                go_simp
              show wpAnyH _ _ _ _ _ _ _ (Act.put _ (some 65) _) _
              simp only [Act.put, List.setIfInBounds_toArray, List.set_cons_zero, List.set_cons_succ]
              refine wpAnyH_ready (rs := [6]) (by kernel_rfl) (by simp) ?_
              refine AllReadyH.cons rfl (fun K hK => ?_) AllReadyH.nil
              go_simp
              ((with_reducible refine (HSO.out _ hH6).mono ?_))
              rintro e w7 ⟨v7, cs2, us7, rfl, hrun7, hown7, _, hb7⟩
              obtain ⟨A9, c9, rfl, _⟩ := hown7.sl
              have hH7 : Below Wz.heap.size Wz w7 := hH6.trans (hb7.mono hH6.size)
              have hmore := HMORE.out cs2 cs _ _ hrun7 hrun6
              have hge1 : decide ((cs2.length : Int) ≤ (cs.length : Int)) = true := decide_eq_true (by omega)
              have hge2 : decide (cs2.length ≤ cs.length) = true := decide_eq_true hmore
              go_simp
              refine hK.out _ _ hH7 (fun hHeld => ?_)
              clear hK K hHeld
              have hHeld := hH7
              refine wpAnyH_take (i := 7) (v := .int .i64 (cs2.length : Int)) rfl (by kernel_rfl) (by kernel_rfl) (by kernel_rfl) (fun _ _ _ h => h) (Or.inl ⟨by rfl, ?_⟩) (by assumption) ?_
              · intro wS hSw
                go_simp
              show wpAnyH _ _ _ _ _ _ _ (Act.put _ (some 69) _) _
              simp only [Act.put, List.setIfInBounds_toArray, List.set_cons_zero, List.set_cons_succ]
              refine wpAnyH_take (i := 8) (v := .bool true) rfl (by kernel_rfl) (by kernel_rfl) (by kernel_rfl) (fun _ _ _ h => h) (Or.inl ⟨by rfl, ?_⟩) (by assumption) ?_
              · intro wS hSw
                go_simp
              show wpAnyH _ _ _ _ _ _ _ (Act.put _ (some 70) _) _
              simp only [Act.put, List.setIfInBounds_toArray, List.set_cons_zero, List.set_cons_succ]
              refine wpAnyH_take (i := 9) (v := .bool true) rfl (by kernel_rfl) (by kernel_rfl) (by kernel_rfl) (fun _ _ _ h => h) (Or.inl ⟨by rfl, ?_⟩) (by assumption) ?_
              · intro wS hSw
                go_simp
              show wpAnyH _ _ _ _ _ _ _ (Act.put _ (some 71) _) _
              simp only [Act.put, List.setIfInBounds_toArray, List.set_cons_zero, List.set_cons_succ]
              refine wpAnyH_ready (rs := [10]) (by kernel_rfl) (by simp) ?_
              refine AllReadyH.cons rfl (fun K hK => ?_) AllReadyH.nil
              go_simp
              ((with_reducible refine (awake38_any _ (HRZ.out.below hH7)).mono ?_))
              rintro e w8 ⟨rfl, hb8⟩
              have hH8 : Below Wz.heap.size Wz w8 := hH7.trans (hb8.mono hH7.size)
              go_simp
              refine hK.out _ _ hH8 (fun hHeld => ?_)
              clear hK K hHeld
              have hHeld := hH8
              refine wpAnyH_take (i := 11) (v := .bool true) rfl (by kernel_rfl) (by kernel_rfl) (by kernel_rfl) (fun _ _ _ h => h) (Or.inl ⟨by rfl, ?_⟩) (by assumption) ?_
              · intro wS hSw
                go_simp
              show wpAnyH _ _ _ _ _ _ _ (Act.put _ (some 73) _) _
              simp only [Act.put, List.setIfInBounds_toArray, List.set_cons_zero, List.set_cons_succ]
              refine wpAnyH_take (i := 12) (v := .bool true) rfl (by kernel_rfl) (by kernel_rfl) (by kernel_rfl) (fun _ _ _ h => h) (Or.inl ⟨by rfl, ?_⟩) (by assumption) ?_
              · intro wS hSw
                go_simp
              show wpAnyH _ _ _ _ _ _ _ (Act.put _ (some 4) _) _
              simp only [Act.put, List.setIfInBounds_toArray, List.set_cons_zero, List.set_cons_succ]
              refine wpAnyH_done (by kernel_rfl) ?_ _
              have HB8 := Lib.hid (HBZ.out.trans (hH8.mono HBZ.out.size))
              go_wp2_with fail
              go_ret
              exact ⟨rfl, HB8.out⟩
        · have hui' : (u.inc != 0) = true := by simp [hui]
          clear hui
          go_wp2_with fail
          ((with_reducible refine (awake38_any _ HR2.out).mono ?_))
          rintro e w6 ⟨rfl, hb6⟩
          have HB6 := Lib.hid (HB2.out.trans (hb6.mono HB2.out.size))
          clear hb6
          go_wp2_with fail
          go_ret
          exact ⟨rfl, HB6.out⟩
      · have HB2 := Lib.hid (HBC1.out.trans (hb2.mono HBC1.out.size))
        have HR2 := Lib.hid (HR1.out.below hb2)
        clear hb2 p0 p1 p2 p3 p4 p5 p6
        go_wp2_with fail
        ((with_reducible refine (awake38_any _ HR2.out).mono ?_))
        rintro e w6 ⟨rfl, hb6⟩
        have HB6 := Lib.hid (HB2.out.trans (hb6.mono HB2.out.size))
        clear hb6
        go_wp2_with fail
        go_ret
        exact ⟨rfl, HB6.out⟩
    · have HB2 := Lib.hid (HBC.out.trans (hb1.mono HBC.out.size))
      have HR2 := Lib.hid (HRC.out.below hb1)
      clear hb1 c0 c1 c2 c3 c4 c5 c6 HN
      go_wp2_with fail
      ((with_reducible refine (awake38_any _ HR2.out).mono ?_))
      rintro e w6 ⟨rfl, hb6⟩
      have HB6 := Lib.hid (HB2.out.trans (hb6.mono HB2.out.size))
      clear hb6
      go_wp2_with fail
      go_ret
      exact ⟨rfl, HB6.out⟩
end
end Go.Proofs.YtimijjhdgihobaaDoor
