/-
  Append of a table at a change that it takes.
-/
import Derived.Test.YtppbmnlneoinhaaDoorApp
import Derived.Deep.RegionHeld3
import Derived.Deep.RegionLaw
import Derived.Deep.DeepCutAuto
namespace Go.Proofs.YtppbmnlneoinhaaDoor
open Go.RowKit Go.Maps

theorem asc_snoc {L : List ChgT} {c : ChgT} (h : Asc L) (hl : late L c = false) : Asc (L ++ [c]) := by
  have key : ∀ (a : Nat) (d : ChgT), L[a]? = some d → d.tick ≤ c.tick := by
    intro a d hd
    have ha := (List.getElem?_eq_some_iff.1 hd).1
    obtain ⟨z, hz⟩ : ∃ z, L[L.length - 1]? = some z := ⟨L[L.length - 1], by simp⟩
    have h1 := h a (L.length - 1) d z (by omega) hd hz
    rw [late_last hz] at hl
    simp at hl
    omega
  intro a b x y hab hx hy
  by_cases hb : b < L.length
  · rw [List.getElem?_append_left hb] at hy
    rw [List.getElem?_append_left (by omega)] at hx
    exact h a b x y hab hx hy
  · rw [List.getElem?_append_right (by omega)] at hy
    have hb0 : b - L.length = 0 := by
      have := (List.getElem?_eq_some_iff.1 hy).1
      simp at this
      omega
    rw [hb0] at hy
    simp at hy
    subst hy
    by_cases ha : a < L.length
    · rw [List.getElem?_append_left ha] at hx
      exact key a x hx
    · rw [List.getElem?_append_right (by omega)] at hx
      have ha0 : a - L.length = 0 := by omega
      rw [ha0] at hx
      simp at hx
      subst hx
      exact Int.le_refl _

/-- the table while Append stands between its two appends. -/
structure MidT (W : World) (p cb m gp : Nat) (F : Option Nat → Value) (L : List ChgT) (c : ChgT) (eb : Nat) (wx : World) : Prop where
  fam : ∃ F1, FamAt cellsC 3 57 wx (p + 1) (tloc p cb) (tok m) F1 (updI (tlist L) none (L ++ [c])) ∧ (∀ i, i ≠ none → F1 i = F i) ∧ ((F none).ownBlock = (F1 none).ownBlock ∨ ∀ g, (F1 none).ownBlock = some g → W.heap.size ≤ g) ∧ (∀ i, tok m i → (F1 i).ownBlock ≠ some eb)
  c0 : wx.cell? ⟨p, 0, none⟩ = some (.pointer (some ⟨gp, 0, none⟩))
  c2 : wx.cell? ⟨p, 2, none⟩ = some (.slice (some ⟨cb, 0, none⟩) m m)
  e0 : wx.cell? ⟨eb, 0, none⟩ = some (.int .i64 c.tick)
  e1 : wx.cell? ⟨eb, 0 + 1, none⟩ = some (.int .i64 c.edge)
  e2 : wx.cell? ⟨eb, 0 + 2, none⟩ = some (.int .i64 c.time)
  only : Only (tabB p cb m F) W wx
  lt : eb < wx.heap.size
  keeps : ∀ k j u, (F none).ownBlock = some k → (L.flatMap cellsC)[j]? = some u → wx.cell? ⟨k, j, none⟩ = some u

section
variable {W : World} {B gp n : Nat} {E : List EdgeT} {p cb : Nat} {F : Option Nat → Value} {L : List ChgT} {c : ChgT} {eb : Nat}
theorem mid_mk {w4 : World} {g cap : Nat} (T : TabAt W B gp n E p cb F L) (hg4 : W.drew.grownBy w4 (F none).ownBlock) (hat4 : (F none).ownBlock = some g ∨ W.drew.heap.size ≤ g)
    (hk4 : ∀ k j u, (F none).ownBlock = some k → (L.flatMap cellsC)[j]? = some u → w4.cell? ⟨k, j, none⟩ = some u) (t3 : Below (p + 1) W.drew w4)
    (t4 : FamAt cellsC 3 57 (w4.setCell ⟨p, 1, none⟩ (.slice (some ⟨g, 0, none⟩) (L.length + 1) cap)) (p + 1) (tloc p cb) (tok E.length) (updI F none (.slice (some ⟨g, 0, none⟩) (L.length + 1) cap)) (updI (tlist L) none (L ++ [c])))
    (x0 : (w4.setCell ⟨p, 1, none⟩ (.slice (some ⟨g, 0, none⟩) (L.length + 1) cap)).cell? ⟨eb, 0, none⟩ = some (.int .i64 c.tick)) (x1 : (w4.setCell ⟨p, 1, none⟩ (.slice (some ⟨g, 0, none⟩) (L.length + 1) cap)).cell? ⟨eb, 0 + 1, none⟩ = some (.int .i64 c.edge)) (x2 : (w4.setCell ⟨p, 1, none⟩ (.slice (some ⟨g, 0, none⟩) (L.length + 1) cap)).cell? ⟨eb, 0 + 2, none⟩ = some (.int .i64 c.time))
    (heb : eb < W.heap.size ∧ ∀ i, tok E.length i → (F i).ownBlock ≠ some eb) :
    MidT W p cb E.length gp F L c eb (w4.setCell ⟨p, 1, none⟩ (.slice (some ⟨g, 0, none⟩) (L.length + 1) cap)) := by
  have hS := hg4.size
  have hS' : W.heap.size ≤ w4.heap.size := hS
  refine ⟨⟨_, t4, fun i hi => updI_other hi, ?_, fun i hi => ?_⟩, ?_, ?_, x0, x1, x2, ?_, by simp; omega, fun k j u hk hj => ?_⟩
  · rw [updI_same]
    rcases hat4 with h | h
    · exact .inl h
    · right
      intro g' hg'
      have e : g = g' := by simpa [Value.ownBlock] using hg'
      subst e
      exact h
  · by_cases q : i = none
    · subst q
      rw [updI_same]
      intro e
      have e : g = eb := by simpa [Value.ownBlock] using e
      subst e
      rcases hat4 with h | h
      · exact heb.2 none trivial h
      · have h : W.heap.size ≤ g := h
        omega
    · rw [updI_other q]
      exact heb.2 i hi
  · refine (World.cell?_setCell_other w4 _ ⟨p, 0, none⟩ _ (by simp)).trans ((t3.cell (p := ⟨p, 0, none⟩) (Nat.lt_succ_self _)).trans T.c0)
  · refine (World.cell?_setCell_other w4 _ ⟨p, 2, none⟩ _ (by simp)).trans ((t3.cell (p := ⟨p, 2, none⟩) (Nat.lt_succ_self _)).trans T.c2)
  · have h1 : Only (tabB p cb E.length F) W.drew w4 := Only.of_grown hg4 (fun j hj => .inr (.inr ⟨none, trivial, hj⟩))
    have h2 : Only (tabB p cb E.length F) W W.drew := Only.refl.drew
    exact (h2.trans h1 (fun _ _ q => q)).setCell (fun _ => .inl rfl) _
  · refine (World.cell?_setCell_other w4 _ ⟨k, j, none⟩ _ ?_).trans (hk4 k j u hk hj)
    intro q
    injection q with q1 q2
    have h1 := (T.fam.own none trivial).ge_base k hk
    have h1 : p + 1 ≤ k := h1
    omega

/-- what a change that is taken leaves. -/
def AppOk (w : World) (B gp n : Nat) (E : List EdgeT) (p cb : Nat) (F : Option Nat → Value) (L : List ChgT) (c : ChgT) (e : Ending) (w' : World) : Prop :=
  e = .returned (.int .i64 0) ∧ ∃ F', TabAt w' B gp n E p cb F' (L ++ [c]) ∧ Only (tabB p cb E.length F) w w' ∧ (∀ b, tabB p cb E.length F' b → tabB p cb E.length F b ∨ w.heap.size ≤ b) ∧
    ∀ k j u, (F none).ownBlock = some k → (L.flatMap cellsC)[j]? = some u → w'.cell? ⟨k, j, none⟩ = some u

theorem tlist_snoc {x : Nat} (hc : c.edge = (x : Int)) : updI (updI (tlist L) none (L ++ [c])) (some x) (tlist L (some x) ++ [c]) = tlist (L ++ [c]) := by
  funext i
  cases i with
  | none => rw [updI_other (by simp), updI_same]; rfl
  | some j =>
    by_cases q : j = x
    · subst q
      rw [updI_same]
      show _ = (L ++ [c]).filter _
      rw [List.filter_append]
      simp [tlist, hc]
    · rw [updI_other (by simpa using q), updI_other (by simp)]
      show _ = (L ++ [c]).filter _
      rw [List.filter_append]
      have : (c.edge == (j : Int)) = false := by
        simp only [beq_eq_false_iff_ne, ne_eq]
        omega
      simp [tlist, this]

theorem fin_mk {w wx w4 : World} {F1 : Option Nat → Value} {x g cap : Nat} (T : TabAt W B gp n E p cb F L) (hw : Below w.heap.size w W) (M : MidT W p cb E.length gp F L c eb wx) (hx : x < E.length) (hc : c.edge = (x : Int)) (hok : okC E.length c) (hl : late L c = false)
    (hF1 : ∀ i, i ≠ none → F1 i = F i) (hF2 : (F none).ownBlock = (F1 none).ownBlock ∨ ∀ g, (F1 none).ownBlock = some g → W.heap.size ≤ g)
    (hg4 : wx.drew.grownBy w4 (F1 (some x)).ownBlock) (hat4 : (F1 (some x)).ownBlock = some g ∨ wx.drew.heap.size ≤ g) (t3 : Below (p + 1) wx.drew w4)
    (t4 : FamAt cellsC 3 57 (w4.setCell ⟨cb, x, none⟩ (.slice (some ⟨g, 0, none⟩) ((tlist L (some x)).length + 1) cap)) (p + 1) (tloc p cb) (tok E.length) (updI F1 (some x) (.slice (some ⟨g, 0, none⟩) ((tlist L (some x)).length + 1) cap)) (updI (updI (tlist L) none (L ++ [c])) (some x) (updI (tlist L) none (L ++ [c]) (some x) ++ [c]))) :
    AppOk w B gp n E p cb F L c (.returned (.int .i64 0)) (w4.setCell ⟨cb, x, none⟩ (.slice (some ⟨g, 0, none⟩) ((tlist L (some x)).length + 1) cap)) := by
  have hz1 := hw.size
  have hz2 := M.only.size
  have hz3 : wx.heap.size ≤ w4.heap.size := hg4.size
  have hcp := T.cbp
  have hlow := T.low
  have hp := T.size
  have h2 : Only (tabB p cb E.length F) wx w4 := by
    have : Only (tabB p cb E.length F) wx.drew w4 := Only.of_grown hg4 (fun j hj => .inr (.inr ⟨some x, hx, by rw [← hF1 _ (by simp)]; exact hj⟩))
    exact (Only.refl.drew (S := tabB p cb E.length F)).trans this (fun _ _ q => q)
  have hW4 : Only (tabB p cb E.length F) W w4 := M.only.trans h2 (fun _ _ q => q)
  have hWf := hW4.setCell (a := ⟨cb, x, none⟩) (fun _ => .inr (.inl rfl)) (.slice (some ⟨g, 0, none⟩) ((tlist L (some x)).length + 1) cap)
  have hwf := (Only.of_below (S := tabB p cb E.length F) hw).trans hWf (fun _ _ q => q)
  have hB : Below B W (w4.setCell ⟨cb, x, none⟩ (.slice (some ⟨g, 0, none⟩) ((tlist L (some x)).length + 1) cap)) := hWf.below (by omega) (fun b hb => (T.lt hb).1)
  refine ⟨rfl, updI F1 (some x) (.slice (some ⟨g, 0, none⟩) ((tlist L (some x)).length + 1) cap), ⟨T.graph.below hB, T.low, T.cbp, ?_, ?_, ?_, asc_snoc T.asc hl, ?_⟩, hwf, fun b hb => ?_, fun k j u hk hj => ?_⟩
  · exact (World.cell?_setCell_other w4 _ ⟨p, 0, none⟩ _ (fun q => by injection q with q; omega)).trans ((t3.cell (p := ⟨p, 0, none⟩) (Nat.lt_succ_self _)).trans M.c0)
  · exact (World.cell?_setCell_other w4 _ ⟨p, 2, none⟩ _ (fun q => by injection q with q; omega)).trans ((t3.cell (p := ⟨p, 2, none⟩) (Nat.lt_succ_self _)).trans M.c2)
  · rw [updI_other (show some x ≠ none by simp), tlist_snoc hc] at t4
    exact t4
  · intro d hd
    rw [List.mem_append] at hd
    rcases hd with hd | hd
    · exact T.oks d hd
    · have : d = c := by simpa using hd
      rw [this]
      exact hok
  · rcases hb with hb | hb | ⟨i, hi, e⟩
    · exact .inl (.inl hb)
    · exact .inl (.inr (.inl hb))
    · by_cases q : i = some x
      · subst q
        rw [updI_same] at e
        have e : g = b := by simpa [Value.ownBlock] using e
        subst e
        rcases hat4 with h | h
        · left
          exact .inr (.inr ⟨some x, hx, by rw [← hF1 _ (by simp)]; exact h⟩)
        · right
          have h : wx.heap.size ≤ g := h
          omega
      · rw [updI_other q] at e
        by_cases q2 : i = none
        · subst q2
          rcases hF2 with h | h
          · left
            exact .inr (.inr ⟨none, trivial, h.trans e⟩)
          · right
            have := h b e
            omega
        · left
          exact .inr (.inr ⟨i, hi, by rw [← hF1 _ q2]; exact e⟩)
  · have h1 := M.keeps k j u hk hj
    have hkp : p + 1 ≤ k := (T.fam.own none trivial).ge_base k hk
    refine (World.cell?_setCell_other w4 _ ⟨k, j, none⟩ _ (fun q => by injection q with q; omega)).trans ?_
    have hklt : k < wx.heap.size := by
      have := (T.fam.own none trivial).lt_size k hk
      omega
    refine (grown_cell hg4 (a := ⟨k, j, none⟩) hklt ?_).trans h1
    intro q
    rw [hF1 _ (by simp)] at q
    exact T.fam.dist none (some x) trivial hx (by simp) k hk q
end

section
variable {w : World} {B gp n : Nat} {E : List EdgeT} {p cb : Nat} {F : Option Nat → Value} {L : List ChgT}
set_option maxRecDepth 100000 in
set_option maxHeartbeats 4000000 in
theorem append_ok (h : TabAt w B gp n E p cb F L) (c : ChgT) (hok : okC E.length c) (hlate : late L c = false) (hl : L.length ≤ 100000) :
    Calls Tryd.prog 20 #[.pointer (some ⟨p, 0, none⟩), .agg #[.int .i64 c.tick, .int .i64 c.edge, .int .i64 c.time]] w (AppOk w B gp n E p cb F L c) := by
  have hb0 := (Below.refl w.heap.size w).alloc (Nat.le_refl _) (.cells #[.int .i64 c.tick, .int .i64 c.edge, .int .i64 c.time] 57)
  have hv := valid_any _ (h.below hb0) c
  have hz : (w.alloc (.cells #[.int .i64 c.tick, .int .i64 c.edge, .int .i64 c.time] 57)).heap.size = w.heap.size + 1 := by simp
  have dok : decide (okC E.length c) = true := by simpa using hok
  rw [dok] at hv
  obtain ⟨x, hx⟩ : ∃ x : Nat, c.edge = (x : Int) := ⟨c.edge.toNat, by have := hok.1.2.2.1; omega⟩
  have hxm : x < E.length := by have := hok.1.2.2.2; omega
  have HFB := Lib.hid (fun b (hb : tabB p cb E.length F b) => (h.lt hb).2)
  have hps := h.size
  have hcps := h.cbp
  have HOK := Lib.hid hok
  have HLATE := Lib.hid hlate
  have HV := Lib.hid hv
  have HT0 := Lib.hid (h.below hb0)
  have HB0 := Lib.hid hb0
  have HZ := Lib.hid hz
  obtain ⟨tick, edge, time⟩ := c
  have hx : edge = (x : Int) := hx
  subst hx
  clear hv h hok dok hb0 hz
  have hxj : (x : Int) < (E.length : Int) := by omega
  have hx0 : (0 : Int) ≤ (x : Int) := by omega
  obtain ⟨m, hm⟩ : ∃ m, m = E.length := ⟨_, rfl⟩
  have HM := Lib.hid hm
  clear hm
  go_enter Tryd.func20, Tryd.ntmps20
  go_wp2_with fail
  refine HV.out.mono ?_
  rintro e w1 ⟨rfl, hb1⟩
  have T1 := HT0.out.below hb1
  have c1 := T1.fam.cell none trivial
  obtain ⟨A, cp, hF, hsl⟩ := (T1.fam.own none trivial).sl
  rw [hF] at c1
  have c1 : w1.cell? ⟨p, 1, none⟩ = some (.slice A L.length cp) := c1
  have HSL := Lib.hid hsl
  have HT1 := Lib.hid T1
  have HFN := Lib.hid hF
  have e0 : w1.cell? ⟨w.heap.size, 0, none⟩ = some (.int .i64 tick) := (hb1.cell (p := ⟨w.heap.size, 0, none⟩) (by rw [HZ.out]; exact Nat.lt_succ_self _)).trans (by rw [World.cell?_alloc_at (hn := rfl)]; rfl)
  have e1 : w1.cell? ⟨w.heap.size, 0 + 1, none⟩ = some (.int .i64 (x : Int)) := (hb1.cell (p := ⟨w.heap.size, 0 + 1, none⟩) (by rw [HZ.out]; exact Nat.lt_succ_self _)).trans (by rw [World.cell?_alloc_at (hn := rfl)]; rfl)
  have e2 : w1.cell? ⟨w.heap.size, 0 + 2, none⟩ = some (.int .i64 time) := (hb1.cell (p := ⟨w.heap.size, 0 + 2, none⟩) (by rw [HZ.out]; exact Nat.lt_succ_self _)).trans (by rw [World.cell?_alloc_at (hn := rfl)]; rfl)
  have HB := Lib.hid (HB0.out.trans (hb1.mono (Nat.le_trans (Nat.le_succ _) (Nat.le_of_eq HZ.out.symm))))
  have hz1 : w.heap.size < w1.heap.size := Nat.le_trans (Nat.le_of_eq HZ.out.symm) hb1.size
  have HE := Lib.hid (And.intro e0 (And.intro e1 e2))
  clear hb1 T1 hF hsl
  clear e1 e2
  go_upto_region 4 with (fail)
  go_cut [30] (fun v wx => v = .bool false ∧ ∃ q, wx = w1.drewN q)
  case first =>
    by_cases hL0 : L.length = 0
    · have d0 : decide (0 < L.length) = false := by rw [hL0]; rfl
      go_quiet (fail)
      go_wp2_with fail
      go_meet
      case rel => exact ⟨rfl, _, rfl⟩
    · obtain ⟨d, hd⟩ : ∃ d, L[L.length - 1]? = some d := ⟨L[L.length - 1], by simp⟩
      have hdt := HLATE.out
      rw [late_last hd] at hdt
      have dt : decide (tick < d.tick) = false := hdt
      obtain ⟨b, o, rfl, hbz, q0, q1, q2⟩ := chg_at (cs := L) HSL.out hd
      obtain ⟨k, hk⟩ : ∃ k, L.length = k + 1 := ⟨L.length - 1, by omega⟩
      rw [show L.length - 1 = k by omega] at q0
      have hkz : (k : Int) < (L.length : Int) := by omega
      have hk0 : (0 : Int) ≤ (k : Int) := by omega
      have dk : decide (0 < L.length) = true := by simp; omega
      have hw1 : IntKind.i64.wrap ((L.length : Int) - 1) = (k : Int) := by rw [IntWalk.i64_in _ (by omega)]; omega
      clear hd hdt q1 q2 hL0 hk
      go_quiet (fail)
      go_wp2_with fail
      go_meet
      case rel => exact ⟨rfl, _, rfl⟩
  case rest =>
    obtain ⟨rfl, q, rfl⟩ := hcut
    clear c1 e0
    obtain ⟨W, hW⟩ : ∃ W, W = w1.drewN q := ⟨_, rfl⟩
    have HT := Lib.hid (HT1.out.drewN q)
    obtain ⟨e0, e1, e2⟩ : (w1.drewN q).cell? ⟨w.heap.size, 0, none⟩ = some (.int .i64 tick) ∧ (w1.drewN q).cell? ⟨w.heap.size, 0 + 1, none⟩ = some (.int .i64 (x : Int)) ∧ (w1.drewN q).cell? ⟨w.heap.size, 0 + 2, none⟩ = some (.int .i64 time) := HE.out
    have hzW : w.heap.size < (w1.drewN q).heap.size := hz1
    have HBW := Lib.hid (below_drewN HB.out q)
    rw [← hW] at HT HBW e0 e1 e2 hzW ⊢
    clear hW HT1 HB HE HSL HFN hz1 HV HT0 HB0
    have HFAM := Lib.hid HT.out.fam
    have hfam := HT.out.fam
    have HOWN := Lib.hid (show OwnR cellsC 3 W.drew (p + 1) 57 (F none) L from hfam.own none trivial)
    have HL := Lib.hid hl
    obtain ⟨eb, heb⟩ : ∃ eb, eb = w.heap.size := ⟨_, rfl⟩
    rw [← heb] at e0 e1 e2 hzW ⊢
    have HEB := Lib.hid (show eb < W.heap.size ∧ ∀ i, tok E.length i → (F i).ownBlock ≠ some eb from ⟨hzW, fun i hi q => by have := HFB.out eb (.inr (.inr ⟨i, hi, q⟩)); omega⟩)
    have hpe : p ≠ eb := by omega
    have HEP := Lib.hid hpe
    have hce : cb ≠ eb := by omega
    have HCE := Lib.hid hce
    have hcp : cb ≠ p := by omega
    have HCP := Lib.hid hcp
    have HE0 := Lib.hid (And.intro e0 (And.intro e1 e2))
    have hpz : p < W.heap.size := HT.out.size
    have e0' : (W.alloc (.cells #[.int .i64 tick, .int .i64 (x : Int), .int .i64 time] 57)).cell? ⟨eb, 0, none⟩ = some (.int .i64 tick) := (World.cell?_alloc_lt W _ ⟨eb, 0, none⟩ hzW).trans e0
    have e1' : (W.alloc (.cells #[.int .i64 tick, .int .i64 (x : Int), .int .i64 time] 57)).cell? ⟨eb, 0 + 1, none⟩ = some (.int .i64 (x : Int)) := (World.cell?_alloc_lt W _ ⟨eb, 0 + 1, none⟩ hzW).trans e1
    have e2' : (W.alloc (.cells #[.int .i64 tick, .int .i64 (x : Int), .int .i64 time] 57)).cell? ⟨eb, 0 + 2, none⟩ = some (.int .i64 time) := (World.cell?_alloc_lt W _ ⟨eb, 0 + 2, none⟩ hzW).trans e2
    clear heb hfam hl
    go_upto_region 6 with (fail)
    go_cut [4] (fun v wx => v = .int .i64 0 ∧ MidT W p cb E.length gp F L ⟨tick, (x : Int), time⟩ eb wx)
    case first =>
      refine wp_region_held_drew (S := (fun w' => w'.cell? ⟨eb, 0, none⟩ = some (.int .i64 tick) ∧ w'.cell? ⟨eb, 0 + 1, none⟩ = some (.int .i64 (x : Int)) ∧ w'.cell? ⟨eb, 0 + 2, none⟩ = some (.int .i64 time))) (by kernel_rfl) ⟨e0, e1, e2⟩ (fun hHeld => ?_)
      refine wpAnyH_take (i := 0) (v := .pointer (some ⟨p, 0, none⟩)) rfl (by kernel_rfl) (by kernel_rfl) (by kernel_rfl) (fun _ _ _ h => h) (Or.inl ⟨by rfl, ?_⟩) (by assumption) ?_
      · intro w hSw
        obtain ⟨s1, s2, s3⟩ := hSw
        go_simp
      show wpAnyH _ _ _ _ _ _ _ (Act.put _ (some 31) _) _
      simp only [Act.put, List.setIfInBounds_toArray, List.set_cons_zero, List.set_cons_succ]
      refine wpAnyH_take (i := 1) (v := .pointer (some ⟨p, 0, none⟩)) rfl (by kernel_rfl) (by kernel_rfl) (by kernel_rfl) (fun _ _ _ h => h) (Or.inl ⟨by rfl, ?_⟩) (by assumption) ?_
      · intro w hSw
        obtain ⟨s1, s2, s3⟩ := hSw
        go_simp
      show wpAnyH _ _ _ _ _ _ _ (Act.put _ (some 32) _) _
      simp only [Act.put, List.setIfInBounds_toArray, List.set_cons_zero, List.set_cons_succ]
      refine wpAnyH_take (i := 2) (v := .pointer (some ⟨p, 0, none⟩)) rfl (by kernel_rfl) (by kernel_rfl) (by kernel_rfl) (fun _ _ _ h => h) (Or.inl ⟨by rfl, ?_⟩) (by assumption) ?_
      · intro w hSw
        obtain ⟨s1, s2, s3⟩ := hSw
        go_simp
      show wpAnyH _ _ _ _ _ _ _ (Act.put _ (some 33) _) _
      simp only [Act.put, List.setIfInBounds_toArray, List.set_cons_zero, List.set_cons_succ]
      refine wpAnyH_take (i := 3) (v := .pointer (some ⟨p, 1, none⟩)) rfl (by kernel_rfl) (by kernel_rfl) (by kernel_rfl) (fun _ _ _ h => h) (Or.inl ⟨by rfl, ?_⟩) (by assumption) ?_
      · intro w hSw
        obtain ⟨s1, s2, s3⟩ := hSw
        go_simp
      show wpAnyH _ _ _ _ _ _ _ (Act.put _ (some 34) _) _
      simp only [Act.put, List.setIfInBounds_toArray, List.set_cons_zero, List.set_cons_succ]
      refine wpAnyH_take (i := 5) (v := .agg #[.int .i64 tick, .int .i64 (x : Int), .int .i64 time]) rfl (by kernel_rfl) (by kernel_rfl) (by kernel_rfl) (fun _ _ _ h => h) (Or.inl ⟨by rfl, ?_⟩) (by assumption) ?_
      · intro w hSw
        obtain ⟨s1, s2, s3⟩ := hSw
        go_simp
      show wpAnyH _ _ _ _ _ _ _ (Act.put _ (some 36) _) _
      simp only [Act.put, List.setIfInBounds_toArray, List.set_cons_zero, List.set_cons_succ]
      refine wpAnyH_ready (rs := [4, 6]) (by kernel_rfl) (by simp) ?_
      refine AllReadyH.cons rfl (fun K hK => ?_) (AllReadyH.cons rfl (fun K hK => ?_) AllReadyH.nil)
      · have r0 := HFAM.out.cell none trivial
        have r0' : W.drew.cell? ⟨p, 1, none⟩ = some (F none) := r0
        go_simp
        refine hK.out _ _ ⟨e0, e1, e2⟩ (fun hHeld => ?_)
        clear hK K
        refine wpAnyH_ready (rs := [6]) (by kernel_rfl) (by simp) ?_
        refine AllReadyH.cons rfl (fun K hK => ?_) AllReadyH.nil
        go_simp
        refine hK.out _ _ ⟨e0', e1', e2'⟩ (fun hHeld => ?_)
        clear hK K
        refine wpAnyH_ready (rs := [7]) (by kernel_rfl) (by simp) ?_
        refine AllReadyH.cons rfl (fun K hK => ?_) AllReadyH.nil
        refine step_append_keep _ (by rfl) (.tmp 35) (.tmp 37) 23 (by rfl) (p + 1) 57 Tryd.underlying23 chg_info rfl (by decide) (by decide) cellsC_len (F none) L W.drew ⟨tick, (x : Int), time⟩ (cellsC_one _) _ rfl (by rfl) (by rfl) HOWN.out _ (by rfl) (by rfl) (by have := HL.out; omega) HFAM.out.room ?_
        intro g cap w4 h4 hg4 hat4 hk4
        obtain ⟨t1, t2, t3, t4⟩ := HFAM.out.drew.append (i := none) trivial h4 hg4 hat4
        have u0 : w4.cell? ⟨eb, 0, none⟩ = some (.int .i64 tick) := (grown_cell hg4 (a := ⟨eb, 0, none⟩) HEB.out.1 (HEB.out.2 none trivial)).trans HE0.out.1
        have u1 : w4.cell? ⟨eb, 0 + 1, none⟩ = some (.int .i64 (x : Int)) := (grown_cell hg4 (a := ⟨eb, 0 + 1, none⟩) HEB.out.1 (HEB.out.2 none trivial)).trans HE0.out.2.1
        have u2 : w4.cell? ⟨eb, 0 + 2, none⟩ = some (.int .i64 time) := (grown_cell hg4 (a := ⟨eb, 0 + 2, none⟩) HEB.out.1 (HEB.out.2 none trivial)).trans HE0.out.2.2
        refine hK.out _ _ ⟨u0, u1, u2⟩ (fun hHeld => ?_)
        clear hK K
        refine wpAnyH_take (i := 8) (v := .pointer (some ⟨p, 0, none⟩)) rfl (by kernel_rfl) (by kernel_rfl) (by kernel_rfl) (fun _ _ _ h => h) (Or.inl ⟨by rfl, ?_⟩) (by assumption) ?_
        · intro w hSw
          obtain ⟨s1, s2, s3⟩ := hSw
          go_simp
        refine wpAnyH_take (i := 9) (v := .pointer (some ⟨p, 1, none⟩)) rfl (by kernel_rfl) (by kernel_rfl) (by kernel_rfl) (fun _ _ _ h => h) (Or.inl ⟨by rfl, ?_⟩) (by assumption) ?_
        · intro w hSw
          obtain ⟨s1, s2, s3⟩ := hSw
          go_simp
        refine wpAnyH_ready (rs := [10]) (by kernel_rfl) (by simp) ?_
        refine AllReadyH.cons rfl (fun K hK => ?_) AllReadyH.nil
        have t1' : w4.cell? ⟨p, 1, none⟩ = some (F none) := t1
        have t2' : w4.frozen? ⟨p, 1, none⟩ = false := t2
        have hpe := HEP.out
        have x0 : (w4.setCell ⟨p, 1, none⟩ (.slice (some ⟨g, 0, none⟩) (L.length + 1) cap)).cell? ⟨eb, 0, none⟩ = some (.int .i64 tick) := (World.cell?_setCell_other w4 _ _ _ (fun q => by injection q with q; exact hpe q)).trans u0
        have x1 : (w4.setCell ⟨p, 1, none⟩ (.slice (some ⟨g, 0, none⟩) (L.length + 1) cap)).cell? ⟨eb, 0 + 1, none⟩ = some (.int .i64 (x : Int)) := (World.cell?_setCell_other w4 _ _ _ (fun q => by injection q with q; exact hpe q)).trans u1
        have x2 : (w4.setCell ⟨p, 1, none⟩ (.slice (some ⟨g, 0, none⟩) (L.length + 1) cap)).cell? ⟨eb, 0 + 2, none⟩ = some (.int .i64 time) := (World.cell?_setCell_other w4 _ _ _ (fun q => by injection q with q; exact hpe q)).trans u2
        go_simp
        refine hK.out _ _ ⟨x0, x1, x2⟩ (fun hHeld => ?_)
        clear hK K
        refine wpAnyH_done (by kernel_rfl) ?_ _
        go_wp2_with fail
        go_meet
        case rel => exact ⟨rfl, mid_mk HT.out hg4 hat4 hk4 t3 t4 x0 x1 x2 HEB.out⟩
      · go_simp
        refine hK.out _ _ ⟨e0', e1', e2'⟩ (fun hHeld => ?_)
        clear hK K
        have r0' : W.cell? ⟨p, 1, none⟩ = some (F none) := HFAM.out.cell none trivial
        refine wpAnyH_ready (rs := [4]) (by kernel_rfl) (by simp) ?_
        refine AllReadyH.cons rfl (fun K hK => ?_) AllReadyH.nil
        go_simp
        refine hK.out _ _ ⟨e0', e1', e2'⟩ (fun hHeld => ?_)
        clear hK K
        refine wpAnyH_ready (rs := [7]) (by kernel_rfl) (by simp) ?_
        refine AllReadyH.cons rfl (fun K hK => ?_) AllReadyH.nil
        refine step_append_keep _ (by rfl) (.tmp 35) (.tmp 37) 23 (by rfl) (p + 1) 57 Tryd.underlying23 chg_info rfl (by decide) (by decide) cellsC_len (F none) L W.drew ⟨tick, (x : Int), time⟩ (cellsC_one _) _ rfl (by rfl) (by rfl) HOWN.out _ (by rfl) (by rfl) (by have := HL.out; omega) HFAM.out.room ?_
        intro g cap w4 h4 hg4 hat4 hk4
        obtain ⟨t1, t2, t3, t4⟩ := HFAM.out.drew.append (i := none) trivial h4 hg4 hat4
        have u0 : w4.cell? ⟨eb, 0, none⟩ = some (.int .i64 tick) := (grown_cell hg4 (a := ⟨eb, 0, none⟩) HEB.out.1 (HEB.out.2 none trivial)).trans HE0.out.1
        have u1 : w4.cell? ⟨eb, 0 + 1, none⟩ = some (.int .i64 (x : Int)) := (grown_cell hg4 (a := ⟨eb, 0 + 1, none⟩) HEB.out.1 (HEB.out.2 none trivial)).trans HE0.out.2.1
        have u2 : w4.cell? ⟨eb, 0 + 2, none⟩ = some (.int .i64 time) := (grown_cell hg4 (a := ⟨eb, 0 + 2, none⟩) HEB.out.1 (HEB.out.2 none trivial)).trans HE0.out.2.2
        refine hK.out _ _ ⟨u0, u1, u2⟩ (fun hHeld => ?_)
        clear hK K
        refine wpAnyH_take (i := 8) (v := .pointer (some ⟨p, 0, none⟩)) rfl (by kernel_rfl) (by kernel_rfl) (by kernel_rfl) (fun _ _ _ h => h) (Or.inl ⟨by rfl, ?_⟩) (by assumption) ?_
        · intro w hSw
          obtain ⟨s1, s2, s3⟩ := hSw
          go_simp
        refine wpAnyH_take (i := 9) (v := .pointer (some ⟨p, 1, none⟩)) rfl (by kernel_rfl) (by kernel_rfl) (by kernel_rfl) (fun _ _ _ h => h) (Or.inl ⟨by rfl, ?_⟩) (by assumption) ?_
        · intro w hSw
          obtain ⟨s1, s2, s3⟩ := hSw
          go_simp
        refine wpAnyH_ready (rs := [10]) (by kernel_rfl) (by simp) ?_
        refine AllReadyH.cons rfl (fun K hK => ?_) AllReadyH.nil
        have t1' : w4.cell? ⟨p, 1, none⟩ = some (F none) := t1
        have t2' : w4.frozen? ⟨p, 1, none⟩ = false := t2
        have hpe := HEP.out
        have x0 : (w4.setCell ⟨p, 1, none⟩ (.slice (some ⟨g, 0, none⟩) (L.length + 1) cap)).cell? ⟨eb, 0, none⟩ = some (.int .i64 tick) := (World.cell?_setCell_other w4 _ _ _ (fun q => by injection q with q; exact hpe q)).trans u0
        have x1 : (w4.setCell ⟨p, 1, none⟩ (.slice (some ⟨g, 0, none⟩) (L.length + 1) cap)).cell? ⟨eb, 0 + 1, none⟩ = some (.int .i64 (x : Int)) := (World.cell?_setCell_other w4 _ _ _ (fun q => by injection q with q; exact hpe q)).trans u1
        have x2 : (w4.setCell ⟨p, 1, none⟩ (.slice (some ⟨g, 0, none⟩) (L.length + 1) cap)).cell? ⟨eb, 0 + 2, none⟩ = some (.int .i64 time) := (World.cell?_setCell_other w4 _ _ _ (fun q => by injection q with q; exact hpe q)).trans u2
        go_simp
        refine hK.out _ _ ⟨x0, x1, x2⟩ (fun hHeld => ?_)
        clear hK K
        refine wpAnyH_done (by kernel_rfl) ?_ _
        go_wp2_with fail
        go_meet
        case rel => exact ⟨rfl, mid_mk HT.out hg4 hat4 hk4 t3 t4 x0 x1 x2 HEB.out⟩
    case rest =>
      obtain ⟨rfl, hmid⟩ := hcut
      obtain ⟨F1, hf1, hf2, hf3, hf4⟩ := hmid.fam
      have HMID := Lib.hid hmid
      clear e0 e1 e2 e0' e1' e2' HOWN HFAM HEB HE0 hzW
      have hm := HM.out
      rw [← hm] at hxm hxj hmid hf1
      have c2 := hmid.c2
      have e0 : wc.cell? ⟨eb, 0, none⟩ = some (.int .i64 tick) := hmid.e0
      have e1 : wc.cell? ⟨eb, 0 + 1, none⟩ = some (.int .i64 (x : Int)) := hmid.e1
      have e2 : wc.cell? ⟨eb, 0 + 2, none⟩ = some (.int .i64 time) := hmid.e2
      have hzW : eb < wc.heap.size := hmid.lt
      have hpW : p < wc.heap.size := hf1.room
      have HEB := Lib.hid (show eb < wc.heap.size ∧ ∀ i, tok m i → (F1 i).ownBlock ≠ some eb from ⟨hzW, by rw [hm]; exact hf4⟩)
      have HFAM := Lib.hid hf1
      have HOWN := Lib.hid (show OwnR cellsC 3 wc.drew (p + 1) 57 (F1 (some x)) (tlist L (some x)) from by have := hf1.own (some x) hxm; rw [updI_other (by simp)] at this; exact this)
      have HL' := Lib.hid (show (tlist L (some x)).length ≤ 100000 from Nat.le_trans (List.length_filter_le _ _) HL.out)
      clear HL
      have HL := HL'
      clear HL'
      have HE0 := Lib.hid (And.intro c2 (And.intro e0 (And.intro e1 e2)))
      have c2' : (wc.alloc (.cells #[.int .i64 tick, .int .i64 (x : Int), .int .i64 time] 57)).cell? ⟨p, 2, none⟩ = some (.slice (some ⟨cb, 0, none⟩) m m) := (World.cell?_alloc_lt wc _ ⟨p, 2, none⟩ hpW).trans c2
      have e0' : (wc.alloc (.cells #[.int .i64 tick, .int .i64 (x : Int), .int .i64 time] 57)).cell? ⟨eb, 0, none⟩ = some (.int .i64 tick) := (World.cell?_alloc_lt wc _ ⟨eb, 0, none⟩ hzW).trans e0
      have e1' : (wc.alloc (.cells #[.int .i64 tick, .int .i64 (x : Int), .int .i64 time] 57)).cell? ⟨eb, 0 + 1, none⟩ = some (.int .i64 (x : Int)) := (World.cell?_alloc_lt wc _ ⟨eb, 0 + 1, none⟩ hzW).trans e1
      have e2' : (wc.alloc (.cells #[.int .i64 tick, .int .i64 (x : Int), .int .i64 time] 57)).cell? ⟨eb, 0 + 2, none⟩ = some (.int .i64 time) := (World.cell?_alloc_lt wc _ ⟨eb, 0 + 2, none⟩ hzW).trans e2
      have hfin := fun (w4 : World) (g cap : Nat) (hg4 : wc.drew.grownBy w4 (F1 (some x)).ownBlock) (hat4 : (F1 (some x)).ownBlock = some g ∨ wc.drew.heap.size ≤ g) (t3 : Below (p + 1) wc.drew w4) t4 => fin_mk (cap := cap) HT.out HBW.out HMID.out (x := x) (by omega) rfl HOK.out HLATE.out hf2 hf3 hg4 hat4 t3 t4
      rw [← hm] at hfin
      have HFIN := Lib.hid hfin
      clear hfin hf1 hf2 hf3 hf4 hmid HMID hm
      go_upto_region 7 with (fail)
      refine wp_region_held_drew (S := (fun w' => w'.cell? ⟨p, 2, none⟩ = some (.slice (some ⟨cb, 0, none⟩) m m) ∧ w'.cell? ⟨eb, 0, none⟩ = some (.int .i64 tick) ∧ w'.cell? ⟨eb, 0 + 1, none⟩ = some (.int .i64 (x : Int)) ∧ w'.cell? ⟨eb, 0 + 2, none⟩ = some (.int .i64 time))) (by kernel_rfl) ⟨c2, e0, e1, e2⟩ (fun hHeld => ?_)
      refine wpAnyH_take (i := 0) (v := .pointer (some ⟨p, 0, none⟩)) rfl (by kernel_rfl) (by kernel_rfl) (by kernel_rfl) (fun _ _ _ h => h) (Or.inl ⟨by rfl, ?_⟩) (by assumption) ?_
      · intro w hSw
        obtain ⟨s0, s1, s2, s3⟩ := hSw
        go_simp
      show wpAnyH _ _ _ _ _ _ _ (Act.put _ (some 41) _) _
      simp only [Act.put, List.setIfInBounds_toArray, List.set_cons_zero, List.set_cons_succ]
      refine wpAnyH_take (i := 1) (v := .pointer (some ⟨p, 0, none⟩)) rfl (by kernel_rfl) (by kernel_rfl) (by kernel_rfl) (fun _ _ _ h => h) (Or.inl ⟨by rfl, ?_⟩) (by assumption) ?_
      · intro w hSw
        obtain ⟨s0, s1, s2, s3⟩ := hSw
        go_simp
      show wpAnyH _ _ _ _ _ _ _ (Act.put _ (some 42) _) _
      simp only [Act.put, List.setIfInBounds_toArray, List.set_cons_zero, List.set_cons_succ]
      refine wpAnyH_take (i := 2) (v := .pointer (some ⟨p, 2, none⟩)) rfl (by kernel_rfl) (by kernel_rfl) (by kernel_rfl) (fun _ _ _ h => h) (Or.inl ⟨by rfl, ?_⟩) (by assumption) ?_
      · intro w hSw
        obtain ⟨s0, s1, s2, s3⟩ := hSw
        go_simp
      show wpAnyH _ _ _ _ _ _ _ (Act.put _ (some 43) _) _
      simp only [Act.put, List.setIfInBounds_toArray, List.set_cons_zero, List.set_cons_succ]
      refine wpAnyH_take (i := 3) (v := .slice (some ⟨cb, 0, none⟩) m m) rfl (by kernel_rfl) (by kernel_rfl) (by kernel_rfl) (fun _ _ _ h => h) (Or.inl ⟨by rfl, ?_⟩) (by assumption) ?_
      · intro w hSw
        obtain ⟨s0, s1, s2, s3⟩ := hSw
        go_simp
      show wpAnyH _ _ _ _ _ _ _ (Act.put _ (some 44) _) _
      simp only [Act.put, List.setIfInBounds_toArray, List.set_cons_zero, List.set_cons_succ]
      refine wpAnyH_take (i := 4) (v := .pointer (some ⟨eb, 1, none⟩)) rfl (by kernel_rfl) (by kernel_rfl) (by kernel_rfl) (fun _ _ _ h => h) (Or.inl ⟨by rfl, ?_⟩) (by assumption) ?_
      · intro w hSw
        obtain ⟨s0, s1, s2, s3⟩ := hSw
        go_simp
      show wpAnyH _ _ _ _ _ _ _ (Act.put _ (some 45) _) _
      simp only [Act.put, List.setIfInBounds_toArray, List.set_cons_zero, List.set_cons_succ]
      refine wpAnyH_take (i := 5) (v := .int .i64 (x : Int)) rfl (by kernel_rfl) (by kernel_rfl) (by kernel_rfl) (fun _ _ _ h => h) (Or.inl ⟨by rfl, ?_⟩) (by assumption) ?_
      · intro w hSw
        obtain ⟨s0, s1, s2, s3⟩ := hSw
        go_simp
      show wpAnyH _ _ _ _ _ _ _ (Act.put _ (some 46) _) _
      simp only [Act.put, List.setIfInBounds_toArray, List.set_cons_zero, List.set_cons_succ]
      refine wpAnyH_take (i := 6) (v := .pointer (some ⟨p, 0, none⟩)) rfl (by kernel_rfl) (by kernel_rfl) (by kernel_rfl) (fun _ _ _ h => h) (Or.inl ⟨by rfl, ?_⟩) (by assumption) ?_
      · intro w hSw
        obtain ⟨s0, s1, s2, s3⟩ := hSw
        go_simp
      show wpAnyH _ _ _ _ _ _ _ (Act.put _ (some 47) _) _
      simp only [Act.put, List.setIfInBounds_toArray, List.set_cons_zero, List.set_cons_succ]
      refine wpAnyH_take (i := 7) (v := .pointer (some ⟨p, 0, none⟩)) rfl (by kernel_rfl) (by kernel_rfl) (by kernel_rfl) (fun _ _ _ h => h) (Or.inl ⟨by rfl, ?_⟩) (by assumption) ?_
      · intro w hSw
        obtain ⟨s0, s1, s2, s3⟩ := hSw
        go_simp
      show wpAnyH _ _ _ _ _ _ _ (Act.put _ (some 48) _) _
      simp only [Act.put, List.setIfInBounds_toArray, List.set_cons_zero, List.set_cons_succ]
      refine wpAnyH_take (i := 8) (v := .pointer (some ⟨p, 2, none⟩)) rfl (by kernel_rfl) (by kernel_rfl) (by kernel_rfl) (fun _ _ _ h => h) (Or.inl ⟨by rfl, ?_⟩) (by assumption) ?_
      · intro w hSw
        obtain ⟨s0, s1, s2, s3⟩ := hSw
        go_simp
      show wpAnyH _ _ _ _ _ _ _ (Act.put _ (some 49) _) _
      simp only [Act.put, List.setIfInBounds_toArray, List.set_cons_zero, List.set_cons_succ]
      refine wpAnyH_take (i := 9) (v := .slice (some ⟨cb, 0, none⟩) m m) rfl (by kernel_rfl) (by kernel_rfl) (by kernel_rfl) (fun _ _ _ h => h) (Or.inl ⟨by rfl, ?_⟩) (by assumption) ?_
      · intro w hSw
        obtain ⟨s0, s1, s2, s3⟩ := hSw
        go_simp
      show wpAnyH _ _ _ _ _ _ _ (Act.put _ (some 50) _) _
      simp only [Act.put, List.setIfInBounds_toArray, List.set_cons_zero, List.set_cons_succ]
      refine wpAnyH_take (i := 10) (v := .pointer (some ⟨eb, 1, none⟩)) rfl (by kernel_rfl) (by kernel_rfl) (by kernel_rfl) (fun _ _ _ h => h) (Or.inl ⟨by rfl, ?_⟩) (by assumption) ?_
      · intro w hSw
        obtain ⟨s0, s1, s2, s3⟩ := hSw
        go_simp
      show wpAnyH _ _ _ _ _ _ _ (Act.put _ (some 51) _) _
      simp only [Act.put, List.setIfInBounds_toArray, List.set_cons_zero, List.set_cons_succ]
      refine wpAnyH_take (i := 11) (v := .int .i64 (x : Int)) rfl (by kernel_rfl) (by kernel_rfl) (by kernel_rfl) (fun _ _ _ h => h) (Or.inl ⟨by rfl, ?_⟩) (by assumption) ?_
      · intro w hSw
        obtain ⟨s0, s1, s2, s3⟩ := hSw
        go_simp
      show wpAnyH _ _ _ _ _ _ _ (Act.put _ (some 52) _) _
      simp only [Act.put, List.setIfInBounds_toArray, List.set_cons_zero, List.set_cons_succ]
      refine wpAnyH_take (i := 12) (v := .pointer (some ⟨cb, x, none⟩)) rfl (by kernel_rfl) (by kernel_rfl) (by kernel_rfl) (fun _ _ _ h => h) (Or.inl ⟨by rfl, ?_⟩) (by assumption) ?_
      · intro w hSw
        obtain ⟨s0, s1, s2, s3⟩ := hSw
        go_simp
      show wpAnyH _ _ _ _ _ _ _ (Act.put _ (some 53) _) _
      simp only [Act.put, List.setIfInBounds_toArray, List.set_cons_zero, List.set_cons_succ]
      refine wpAnyH_take (i := 14) (v := .agg #[.int .i64 tick, .int .i64 (x : Int), .int .i64 time]) rfl (by kernel_rfl) (by kernel_rfl) (by kernel_rfl) (fun _ _ _ h => h) (Or.inl ⟨by rfl, ?_⟩) (by assumption) ?_
      · intro w hSw
        obtain ⟨s0, s1, s2, s3⟩ := hSw
        go_simp
      show wpAnyH _ _ _ _ _ _ _ (Act.put _ (some 55) _) _
      simp only [Act.put, List.setIfInBounds_toArray, List.set_cons_zero, List.set_cons_succ]
      refine wpAnyH_ready (rs := [13, 15]) (by kernel_rfl) (by simp) ?_
      refine AllReadyH.cons rfl (fun K hK => ?_) (AllReadyH.cons rfl (fun K hK => ?_) AllReadyH.nil)
      · have r0' : wc.drew.cell? ⟨cb, x, none⟩ = some (F1 (some x)) := HFAM.out.cell (some x) hxm
        go_simp
        refine hK.out _ _ ⟨c2, e0, e1, e2⟩ (fun hHeld => ?_)
        clear hK K
        refine wpAnyH_ready (rs := [15]) (by kernel_rfl) (by simp) ?_
        refine AllReadyH.cons rfl (fun K hK => ?_) AllReadyH.nil
        go_simp
        refine hK.out _ _ ⟨c2', e0', e1', e2'⟩ (fun hHeld => ?_)
        clear hK K
        refine wpAnyH_ready (rs := [16]) (by kernel_rfl) (by simp) ?_
        refine AllReadyH.cons rfl (fun K hK => ?_) AllReadyH.nil
        refine step_append_keep _ (by rfl) (.tmp 54) (.tmp 56) 23 (by rfl) (p + 1) 57 Tryd.underlying23 chg_info rfl (by decide) (by decide) cellsC_len (F1 (some x)) (tlist L (some x)) wc.drew ⟨tick, (x : Int), time⟩ (cellsC_one _) _ rfl (by rfl) (by rfl) HOWN.out _ (by rfl) (by rfl) (by have := HL.out; omega) HFAM.out.room ?_
        intro g cap w4 h4 hg4 hat4 hk4
        obtain ⟨t1, t2, t3, t4⟩ := HFAM.out.drew.append (i := some x) hxm (by rw [updI_other (by simp)]; exact h4) hg4 hat4
        have u0 : w4.cell? ⟨p, 2, none⟩ = some (.slice (some ⟨cb, 0, none⟩) m m) := (t3.cell (p := ⟨p, 2, none⟩) (Nat.lt_succ_self _)).trans HE0.out.1
        have u1 : w4.cell? ⟨eb, 0, none⟩ = some (.int .i64 tick) := (grown_cell hg4 (a := ⟨eb, 0, none⟩) HEB.out.1 (HEB.out.2 (some x) hxm)).trans HE0.out.2.1
        have u2 : w4.cell? ⟨eb, 0 + 1, none⟩ = some (.int .i64 (x : Int)) := (grown_cell hg4 (a := ⟨eb, 0 + 1, none⟩) HEB.out.1 (HEB.out.2 (some x) hxm)).trans HE0.out.2.2.1
        have u3 : w4.cell? ⟨eb, 0 + 2, none⟩ = some (.int .i64 time) := (grown_cell hg4 (a := ⟨eb, 0 + 2, none⟩) HEB.out.1 (HEB.out.2 (some x) hxm)).trans HE0.out.2.2.2
        refine hK.out _ _ ⟨u0, u1, u2, u3⟩ (fun hHeld => ?_)
        clear hK K
        refine wpAnyH_take (i := 17) (v := .pointer (some ⟨cb, x, none⟩)) rfl (by kernel_rfl) (by kernel_rfl) (by kernel_rfl) (fun _ _ _ h => h) (Or.inl ⟨by rfl, ?_⟩) (by assumption) ?_
        · intro w hSw
          obtain ⟨s0, s1, s2, s3⟩ := hSw
          go_simp
        refine wpAnyH_ready (rs := [18]) (by kernel_rfl) (by simp) ?_
        refine AllReadyH.cons rfl (fun K hK => ?_) AllReadyH.nil
        have t1' : w4.cell? ⟨cb, x, none⟩ = some (F1 (some x)) := t1
        have t2' : w4.frozen? ⟨cb, x, none⟩ = false := t2
        have hce := HCE.out
        have hcp := HCP.out
        have x0 : (w4.setCell ⟨cb, x, none⟩ (.slice (some ⟨g, 0, none⟩) ((tlist L (some x)).length + 1) cap)).cell? ⟨p, 2, none⟩ = some (.slice (some ⟨cb, 0, none⟩) m m) := (World.cell?_setCell_other w4 _ _ _ (fun q => by injection q with q; exact hcp q)).trans u0
        have x1 : (w4.setCell ⟨cb, x, none⟩ (.slice (some ⟨g, 0, none⟩) ((tlist L (some x)).length + 1) cap)).cell? ⟨eb, 0, none⟩ = some (.int .i64 tick) := (World.cell?_setCell_other w4 _ _ _ (fun q => by injection q with q; exact hce q)).trans u1
        have x2 : (w4.setCell ⟨cb, x, none⟩ (.slice (some ⟨g, 0, none⟩) ((tlist L (some x)).length + 1) cap)).cell? ⟨eb, 0 + 1, none⟩ = some (.int .i64 (x : Int)) := (World.cell?_setCell_other w4 _ _ _ (fun q => by injection q with q; exact hce q)).trans u2
        have x3 : (w4.setCell ⟨cb, x, none⟩ (.slice (some ⟨g, 0, none⟩) ((tlist L (some x)).length + 1) cap)).cell? ⟨eb, 0 + 2, none⟩ = some (.int .i64 time) := (World.cell?_setCell_other w4 _ _ _ (fun q => by injection q with q; exact hce q)).trans u3
        go_simp
        refine hK.out _ _ ⟨x0, x1, x2, x3⟩ (fun hHeld => ?_)
        clear hK K
        refine wpAnyH_done (by kernel_rfl) ?_ _
        go_wp2_with fail
        go_ret
        exact HFIN.out _ _ _ hg4 hat4 t3 t4
      · go_simp
        refine hK.out _ _ ⟨c2', e0', e1', e2'⟩ (fun hHeld => ?_)
        clear hK K
        have r0' : (wc.alloc (.cells #[.int .i64 tick, .int .i64 (x : Int), .int .i64 time] 57)).cell? ⟨cb, x, none⟩ = some (F1 (some x)) := (HFAM.out.alloc (.cells #[.int .i64 tick, .int .i64 (x : Int), .int .i64 time] 57)).cell (some x) hxm
        refine wpAnyH_ready (rs := [13]) (by kernel_rfl) (by simp) ?_
        refine AllReadyH.cons rfl (fun K hK => ?_) AllReadyH.nil
        go_simp
        refine hK.out _ _ ⟨c2', e0', e1', e2'⟩ (fun hHeld => ?_)
        clear hK K
        refine wpAnyH_ready (rs := [16]) (by kernel_rfl) (by simp) ?_
        refine AllReadyH.cons rfl (fun K hK => ?_) AllReadyH.nil
        refine step_append_keep _ (by rfl) (.tmp 54) (.tmp 56) 23 (by rfl) (p + 1) 57 Tryd.underlying23 chg_info rfl (by decide) (by decide) cellsC_len (F1 (some x)) (tlist L (some x)) wc.drew ⟨tick, (x : Int), time⟩ (cellsC_one _) _ rfl (by rfl) (by rfl) HOWN.out _ (by rfl) (by rfl) (by have := HL.out; omega) HFAM.out.room ?_
        intro g cap w4 h4 hg4 hat4 hk4
        obtain ⟨t1, t2, t3, t4⟩ := HFAM.out.drew.append (i := some x) hxm (by rw [updI_other (by simp)]; exact h4) hg4 hat4
        have u0 : w4.cell? ⟨p, 2, none⟩ = some (.slice (some ⟨cb, 0, none⟩) m m) := (t3.cell (p := ⟨p, 2, none⟩) (Nat.lt_succ_self _)).trans HE0.out.1
        have u1 : w4.cell? ⟨eb, 0, none⟩ = some (.int .i64 tick) := (grown_cell hg4 (a := ⟨eb, 0, none⟩) HEB.out.1 (HEB.out.2 (some x) hxm)).trans HE0.out.2.1
        have u2 : w4.cell? ⟨eb, 0 + 1, none⟩ = some (.int .i64 (x : Int)) := (grown_cell hg4 (a := ⟨eb, 0 + 1, none⟩) HEB.out.1 (HEB.out.2 (some x) hxm)).trans HE0.out.2.2.1
        have u3 : w4.cell? ⟨eb, 0 + 2, none⟩ = some (.int .i64 time) := (grown_cell hg4 (a := ⟨eb, 0 + 2, none⟩) HEB.out.1 (HEB.out.2 (some x) hxm)).trans HE0.out.2.2.2
        refine hK.out _ _ ⟨u0, u1, u2, u3⟩ (fun hHeld => ?_)
        clear hK K
        refine wpAnyH_take (i := 17) (v := .pointer (some ⟨cb, x, none⟩)) rfl (by kernel_rfl) (by kernel_rfl) (by kernel_rfl) (fun _ _ _ h => h) (Or.inl ⟨by rfl, ?_⟩) (by assumption) ?_
        · intro w hSw
          obtain ⟨s0, s1, s2, s3⟩ := hSw
          go_simp
        refine wpAnyH_ready (rs := [18]) (by kernel_rfl) (by simp) ?_
        refine AllReadyH.cons rfl (fun K hK => ?_) AllReadyH.nil
        have t1' : w4.cell? ⟨cb, x, none⟩ = some (F1 (some x)) := t1
        have t2' : w4.frozen? ⟨cb, x, none⟩ = false := t2
        have hce := HCE.out
        have hcp := HCP.out
        have x0 : (w4.setCell ⟨cb, x, none⟩ (.slice (some ⟨g, 0, none⟩) ((tlist L (some x)).length + 1) cap)).cell? ⟨p, 2, none⟩ = some (.slice (some ⟨cb, 0, none⟩) m m) := (World.cell?_setCell_other w4 _ _ _ (fun q => by injection q with q; exact hcp q)).trans u0
        have x1 : (w4.setCell ⟨cb, x, none⟩ (.slice (some ⟨g, 0, none⟩) ((tlist L (some x)).length + 1) cap)).cell? ⟨eb, 0, none⟩ = some (.int .i64 tick) := (World.cell?_setCell_other w4 _ _ _ (fun q => by injection q with q; exact hce q)).trans u1
        have x2 : (w4.setCell ⟨cb, x, none⟩ (.slice (some ⟨g, 0, none⟩) ((tlist L (some x)).length + 1) cap)).cell? ⟨eb, 0 + 1, none⟩ = some (.int .i64 (x : Int)) := (World.cell?_setCell_other w4 _ _ _ (fun q => by injection q with q; exact hce q)).trans u2
        have x3 : (w4.setCell ⟨cb, x, none⟩ (.slice (some ⟨g, 0, none⟩) ((tlist L (some x)).length + 1) cap)).cell? ⟨eb, 0 + 2, none⟩ = some (.int .i64 time) := (World.cell?_setCell_other w4 _ _ _ (fun q => by injection q with q; exact hce q)).trans u3
        go_simp
        refine hK.out _ _ ⟨x0, x1, x2, x3⟩ (fun hHeld => ?_)
        clear hK K
        refine wpAnyH_done (by kernel_rfl) ?_ _
        go_wp2_with fail
        go_ret
        exact HFIN.out _ _ _ hg4 hat4 t3 t4
/-- what Append leaves, whatever the change. -/
def AppAny (w : World) (B gp n : Nat) (E : List EdgeT) (p cb : Nat) (F : Option Nat → Value) (L : List ChgT) (c : ChgT) (e : Ending) (w' : World) : Prop :=
  e = .returned (.int .i64 (errC E.length L c)) ∧ ∃ F', TabAt w' B gp n E p cb F' (putL E.length L c) ∧ Only (tabB p cb E.length F) w w' ∧ (∀ b, tabB p cb E.length F' b → tabB p cb E.length F b ∨ w.heap.size ≤ b) ∧
    ∀ k j u, (F none).ownBlock = some k → (L.flatMap cellsC)[j]? = some u → w'.cell? ⟨k, j, none⟩ = some u
theorem append_any (h : TabAt w B gp n E p cb F L) (c : ChgT) (hl : L.length ≤ 100000) :
    Calls Tryd.prog 20 #[.pointer (some ⟨p, 0, none⟩), .agg #[.int .i64 c.tick, .int .i64 c.edge, .int .i64 c.time]] w (AppAny w B gp n E p cb F L c) := by
  by_cases he : errC E.length L c = 0
  · have hok : okC E.length c := by
      by_cases q : okC E.length c
      · exact q
      · rw [errC_bad q] at he
        cases he
    have hlt : late L c = false := by
      cases q : late L c with
      | false => rfl
      | true =>
        rw [errC_late hok q] at he
        cases he
    refine (append_ok h c hok hlt hl).mono ?_
    rintro e w' ⟨rfl, F', h1, h2, h3, h4⟩
    refine ⟨by rw [he], F', by rw [putL_ok he]; exact h1, h2, h3, h4⟩
  · refine (append_bad h c he hl).mono ?_
    rintro e w' ⟨rfl, hb⟩
    refine ⟨rfl, F, by rw [putL_bad he]; exact h.below hb, Only.of_below hb, fun b hb => .inl hb, fun k j u hk hj => ?_⟩
    have h1 := (h.fam.own none trivial).lt_size k hk
    have h2 := World.ownsRow.cells (h.fam.own none trivial) hk j u hj
    rw [add_none, Nat.zero_add] at h2
    exact (hb.cell (p := ⟨k, j, none⟩) h1).trans h2
end
end Go.Proofs.YtppbmnlneoinhaaDoor
