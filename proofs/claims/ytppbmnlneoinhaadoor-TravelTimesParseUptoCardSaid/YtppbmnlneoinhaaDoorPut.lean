/-
  The reference's Put.
-/
import Derived.Test.YtppbmnlneoinhaaDoorRefN
import Derived.Test.YtppbmnlneoinhaaDoorApp
import Derived.Deep.RegionHeld3
import Derived.Deep.DeepCutAuto
namespace Go.Proofs.YtppbmnlneoinhaaDoor
open Go.RowKit Go.Maps

/-- what Put returns. -/
def RetPut (w : World) (E : List EdgeT) (L : List ChgT) (FA : Option Addr) (fc : Nat) (LA : Option Addr) (c : ChgT) (e : Ending) (w' : World) : Prop :=
  ∃ (LA' : Option Addr) (lc' : Nat), e = .returned (.tuple #[.agg #[.slice FA E.length fc, .slice LA' (putL E.length L c).length lc'], .int .i64 (errC E.length L c)]) ∧ RoadsAt w' E (putL E.length L c) FA LA' lc' ∧ ((LA' = LA ∧ errC E.length L c ≠ 0) ∨ ∀ b o, LA' = some ⟨b, o, none⟩ → w.heap.size ≤ b) ∧ Below w.heap.size w w'

/-- the table's box holds the new list. -/
def PutMid (w : World) (E : List EdgeT) (L : List ChgT) (FA : Option Addr) (fc : Nat) (c : ChgT) (rb ob : Nat) (wx : World) : Prop :=
  ∃ (A6 : Option Addr) (c6 : Nat), wx.cell? ⟨rb, 0, none⟩ = some (.slice FA E.length fc) ∧ wx.cell? ⟨rb, 0 + 1, none⟩ = some (.slice A6 (L.length + 1) c6) ∧ (∃ u, wx.cell? ⟨ob, 0, none⟩ = some u) ∧ (∃ u, wx.cell? ⟨ob, 0 + 1, none⟩ = some u) ∧ wx.frozen? ⟨ob, 0, none⟩ = false ∧ wx.frozen? ⟨ob, 0 + 1, none⟩ = false ∧
    ChgsAt wx wx.heap.size A6 (L ++ [c]) ∧ (A6 = none → c6 = 0) ∧ (∀ b o, A6 = some ⟨b, o, none⟩ → w.heap.size + 3 ≤ b) ∧ Below w.heap.size w wx ∧ ob < wx.heap.size

set_option maxHeartbeats 2000000 in
theorem put_bad (w : World) {E : List EdgeT} {L : List ChgT} {FA LA : Option Addr} {lc : Nat} (h : RoadsAt w E L FA LA lc) (fc : Nat) (c : ChgT) (hbad : ¬ okC E.length c) :
    Calls Tryd.prog 22 #[.agg #[.slice FA E.length fc, .slice LA L.length lc], .agg #[.int .i64 c.tick, .int .i64 c.edge, .int .i64 c.time]] w (RetPut w E L FA fc LA c) := by
  have he := errC_bad hbad L
  have hp : putL E.length L c = L := putL_bad (by rw [he]; decide)
  unfold RetPut
  rw [he, hp]
  obtain ⟨tick, edge, time⟩ := c
  obtain ⟨m, hm⟩ : ∃ m, m = E.length := ⟨_, rfl⟩
  rw [← hm] at hbad
  have HRES := Lib.hid (fun W (hb : Below w.heap.size w W) => show ∃ (LA' : Option Addr) (lc' : Nat), Ending.returned (.tuple #[.agg #[.slice FA m fc, .slice LA L.length lc], .int .i64 1]) = .returned (.tuple #[.agg #[.slice FA E.length fc, .slice LA' L.length lc'], .int .i64 1]) ∧ RoadsAt W E L FA LA' lc' ∧ ((LA' = LA ∧ (1 : Int) ≠ 0) ∨ ∀ b o, LA' = some ⟨b, o, none⟩ → w.heap.size ≤ b) ∧ Below w.heap.size w W from ⟨LA, lc, by rw [hm], h.below hb, .inl ⟨rfl, by decide⟩, hb⟩)
  have HB := Lib.hid (fun v1 v2 => (((Below.refl w.heap.size w).alloc (Nat.le_refl _) (.cells #[.slice FA m fc, .slice LA L.length lc] 28)).alloc (by simp) (.cells #[.int .i64 tick, .int .i64 edge, .int .i64 time] 57)).alloc (by simp; omega) (.cells #[v1, v2] 28))
  obtain ⟨Q, hQ⟩ : ∃ Q : Ending → World → Prop, Q = fun e w' => ∃ (LA' : Option Addr) (lc' : Nat), e = .returned (.tuple #[.agg #[.slice FA E.length fc, .slice LA' L.length lc'], .int .i64 1]) ∧ RoadsAt w' E L FA LA' lc' ∧ ((LA' = LA ∧ (1 : Int) ≠ 0) ∨ ∀ b o, LA' = some ⟨b, o, none⟩ → w.heap.size ≤ b) ∧ Below w.heap.size w w' := ⟨_, rfl⟩
  have HRQ := Lib.hid (show ∀ W, Below w.heap.size w W → Q (.returned (.tuple #[.agg #[.slice FA m fc, .slice LA L.length lc], .int .i64 1])) W from fun W hb => by rw [hQ]; exact HRES.out W hb)
  show Calls Tryd.prog 22 #[.agg #[.slice FA E.length fc, .slice LA L.length lc], .agg #[.int .i64 tick, .int .i64 edge, .int .i64 time]] w _
  rw [← hQ, ← hm]
  clear hQ HRES h he hp hm
  by_cases g0 : tick < 0
  · have d0 : decide (tick < 0) = true := by simpa using g0
    go_enter Tryd.func22, Tryd.ntmps22
    go_wp2_with fail
    refine bodyPost_ret (v := .tuple #[.agg #[.slice FA m fc, .slice LA L.length lc], .int .i64 1]) (by simp [results, Tryd.results22, go_sem]) rfl ?_
    exact HRQ.out _ (HB.out _ _)
  · have d0 : decide (tick < 0) = false := by simpa using g0
    by_cases g1 : (1099511627776 : Int) < tick
    · have d1 : decide ((1099511627776 : Int) < tick) = true := by simpa using g1
      go_enter Tryd.func22, Tryd.ntmps22
      go_wp2_with fail
      refine bodyPost_ret (v := .tuple #[.agg #[.slice FA m fc, .slice LA L.length lc], .int .i64 1]) (by simp [results, Tryd.results22, go_sem]) rfl ?_
      exact HRQ.out _ (HB.out _ _)
    · have d1 : decide ((1099511627776 : Int) < tick) = false := by simpa using g1
      by_cases g2 : edge < 0
      · have d2 : decide (edge < 0) = true := by simpa using g2
        go_enter Tryd.func22, Tryd.ntmps22
        go_wp2_with fail
        refine bodyPost_ret (v := .tuple #[.agg #[.slice FA m fc, .slice LA L.length lc], .int .i64 1]) (by simp [results, Tryd.results22, go_sem]) rfl ?_
        exact HRQ.out _ (HB.out _ _)
      · have d2 : decide (edge < 0) = false := by simpa using g2
        by_cases g3 : (m : Int) ≤ edge
        · have d3 : decide ((m : Int) ≤ edge) = true := by simpa using g3
          go_enter Tryd.func22, Tryd.ntmps22
          go_wp2_with fail
          refine bodyPost_ret (v := .tuple #[.agg #[.slice FA m fc, .slice LA L.length lc], .int .i64 1]) (by simp [results, Tryd.results22, go_sem]) rfl ?_
          exact HRQ.out _ (HB.out _ _)
        · have d3 : decide ((m : Int) ≤ edge) = false := by simpa using g3
          have g4 : (time < 1 ∨ 1048576 < time) ∧ time ≠ 4611686018427387904 := by
            unfold okC at hbad
            dsimp only at hbad
            omega
          have d6 : (time != 4611686018427387904) = true := by simpa using g4.2
          have d7 : (time == 4611686018427387904) = false := by simpa using g4.2
          by_cases g5 : time < 1
          · have d5 : decide (time < 1) = true := by simpa using g5
            go_enter Tryd.func22, Tryd.ntmps22
            go_wp2_with fail
            refine bodyPost_ret (v := .tuple #[.agg #[.slice FA m fc, .slice LA L.length lc], .int .i64 1]) (by simp [results, Tryd.results22, go_sem]) rfl ?_
            exact HRQ.out _ (HB.out _ _)
          · have d5 : decide (time < 1) = false := by simpa using g5
            have d8 : decide ((1048576 : Int) < time) = true := by simp; omega
            go_enter Tryd.func22, Tryd.ntmps22
            go_wp2_with fail
            refine bodyPost_ret (v := .tuple #[.agg #[.slice FA m fc, .slice LA L.length lc], .int .i64 1]) (by simp [results, Tryd.results22, go_sem]) rfl ?_
            exact HRQ.out _ (HB.out _ _)
theorem mid_of {w W w6 : World} {E : List EdgeT} {L : List ChgT} {FA : Option Addr} {fc lc : Nat} {LA : Option Addr} {c : ChgT} {rb ob : Nat} {A6 : Option Addr} {c6 : Nat}
    (hz : w.heap.size + 3 = W.heap.size) (hrb : rb = w.heap.size) (hob : ob = w.heap.size + 2) (hbW : Below w.heap.size w W) (r0 : W.cell? ⟨rb, 0, none⟩ = some (.slice FA E.length fc)) (r1 : W.cell? ⟨rb, 1, none⟩ = some (.slice LA L.length lc))
    (o0 : ∃ u, W.cell? ⟨ob, 0, none⟩ = some u) (o1 : ∃ u, W.cell? ⟨ob, 0 + 1, none⟩ = some u) (f0 : W.frozen? ⟨ob, 0, none⟩ = false) (f1 : W.frozen? ⟨ob, 0 + 1, none⟩ = false)
    (hO6 : OwnC w6 W.heap.size 57 (.slice A6 (L ++ [c]).length c6) (L ++ [c])) (hB6 : Below W.heap.size W w6) :
    PutMid w E L FA fc c rb ob (w6.setCell ⟨rb, 1, none⟩ (.slice A6 (L ++ [c]).length c6)) := by
  obtain ⟨A7, c7, e7, hsl⟩ := OwnR.sl hO6
  injection e7 with e8 e9 e10
  subst e8 e10
  obtain ⟨_, _, _, hn⟩ := OwnR.caps hO6
  have hz6 := hB6.size
  have hx : ∀ b j, b ≠ rb → b < W.heap.size → (w6.setCell ⟨rb, 1, none⟩ (.slice A6 (L ++ [c]).length c6)).cell? ⟨b, j, none⟩ = W.cell? ⟨b, j, none⟩ := fun b j hb hl =>
    (World.cell?_setCell_other w6 _ ⟨b, j, none⟩ _ (fun q => by injection q with q; exact hb q.symm)).trans (hB6.cell (p := ⟨b, j, none⟩) hl)
  have hfx : ∀ b j, b < W.heap.size → (w6.setCell ⟨rb, 1, none⟩ (.slice A6 (L ++ [c]).length c6)).frozen? ⟨b, j, none⟩ = W.frozen? ⟨b, j, none⟩ := fun b j hl => by
    rw [World.frozen?_setCell]
    exact hB6.frozen (p := ⟨b, j, none⟩) hl
  have r1' : w6.cell? ⟨rb, 1, none⟩ = some (.slice LA L.length lc) := (hB6.cell (p := ⟨rb, 1, none⟩) (show rb < W.heap.size by omega)).trans r1
  refine ⟨A6, c6, ?_, ?_, ?_, ?_, ?_, ?_, ?_, hn, ?_, ?_, by simp; omega⟩
  · exact (World.cell?_setCell_other w6 _ ⟨rb, 0, none⟩ _ (by simp)).trans ((hB6.cell (p := ⟨rb, 0, none⟩) (show rb < W.heap.size by omega)).trans r0)
  · exact (World.cell?_setCell_same' w6 ⟨rb, 1, none⟩ (.slice A6 (L ++ [c]).length c6) (by rw [r1']; rfl)).trans (by rw [List.length_append]; rfl)
  · obtain ⟨u, hu⟩ := o0
    exact ⟨u, (hx ob 0 (by omega) (by omega)).trans hu⟩
  · obtain ⟨u, hu⟩ := o1
    exact ⟨u, (hx ob (0 + 1) (by omega) (by omega)).trans hu⟩
  · exact (hfx ob 0 (by omega)).trans f0
  · exact (hfx ob (0 + 1) (by omega)).trans f1
  · intro j u hj
    obtain ⟨b, o, e, hb, hc⟩ := hsl j u hj
    have hge := hO6.ge_base b (by rw [e]; rfl)
    refine ⟨b, o, e, by simpa using hb, ?_⟩
    exact (World.cell?_setCell_other w6 _ ⟨b, o + j, none⟩ _ (fun q => by injection q with q; omega)).trans hc
  · intro b o e
    have hge := hO6.ge_base b (by rw [e]; rfl)
    omega
  · exact (hbW.trans (hB6.mono (by omega))).setCell (p := ⟨rb, 1, none⟩) (by show w.heap.size ≤ rb; omega) _

set_option maxRecDepth 100000 in
set_option maxHeartbeats 4000000 in
theorem put_good (w : World) {E : List EdgeT} {L : List ChgT} {FA LA : Option Addr} {lc : Nat} (h : RoadsAt w E L FA LA lc) (fc : Nat) (c : ChgT) (hok : okC E.length c) (hl : L.length ≤ 100000) :
    Calls Tryd.prog 22 #[.agg #[.slice FA E.length fc, .slice LA L.length lc], .agg #[.int .i64 c.tick, .int .i64 c.edge, .int .i64 c.time]] w (RetPut w E L FA fc LA c) := by
  obtain ⟨tick, edge, time⟩ := c
  obtain ⟨m, hm⟩ : ∃ m, m = E.length := ⟨_, rfl⟩
  have HM := Lib.hid hm
  have HOK := Lib.hid hok
  have hok' := hok
  unfold okC at hok'
  dsimp only at hok'
  rw [← hm] at hok'
  have g0 : decide (tick < 0) = false := by simp; omega
  have g1 : decide ((1099511627776 : Int) < tick) = false := by simp; omega
  have g2 : decide (edge < 0) = false := by simp; omega
  have g3 : decide ((m : Int) ≤ edge) = false := by simp; omega
  have g5 : decide (time < 1) = false := by simp; omega
  have HT := Lib.hid hok'.2
  have HH := Lib.hid h
  show Calls Tryd.prog 22 #[.agg #[.slice FA E.length fc, .slice LA L.length lc], .agg #[.int .i64 tick, .int .i64 edge, .int .i64 time]] w _
  rw [← hm]
  obtain ⟨W, hW⟩ : ∃ W, W = ((w.alloc (.cells #[.slice FA m fc, .slice LA L.length lc] 28)).alloc (.cells #[.int .i64 tick, .int .i64 edge, .int .i64 time] 57)).alloc (.cells #[.slice none 0 0, .slice none 0 0] 28) := ⟨_, rfl⟩
  have hz : w.heap.size + 3 = W.heap.size := by rw [hW]; simp
  have hBW : Below w.heap.size w W := by rw [hW]; exact (((Below.refl w.heap.size w).alloc (Nat.le_refl _) _).alloc (by simp) _).alloc (by simp; omega) _
  have r0 : W.cell? ⟨w.heap.size, 0, none⟩ = some (.slice FA m fc) := by
    rw [hW, World.cell?_alloc_lt _ _ _ (by simp; omega), World.cell?_alloc_lt _ _ _ (by simp), World.cell?_alloc_at (hn := rfl)]
    rfl
  have r1 : W.cell? ⟨w.heap.size, 0 + 1, none⟩ = some (.slice LA L.length lc) := by
    rw [hW, World.cell?_alloc_lt _ _ _ (by simp; omega), World.cell?_alloc_lt _ _ _ (by simp), World.cell?_alloc_at (hn := rfl)]
    rfl
  have e0 : W.cell? ⟨w.heap.size + 1, 0, none⟩ = some (.int .i64 tick) := by
    rw [hW, World.cell?_alloc_lt _ _ _ (by simp), World.cell?_alloc_at (hn := by simp)]
    rfl
  have e1 : W.cell? ⟨w.heap.size + 1, 0 + 1, none⟩ = some (.int .i64 edge) := by
    rw [hW, World.cell?_alloc_lt _ _ _ (by simp), World.cell?_alloc_at (hn := by simp)]
    rfl
  have e2 : W.cell? ⟨w.heap.size + 1, 0 + 2, none⟩ = some (.int .i64 time) := by
    rw [hW, World.cell?_alloc_lt _ _ _ (by simp), World.cell?_alloc_at (hn := by simp)]
    rfl
  have o0 : W.cell? ⟨w.heap.size + 1 + 1, 0, none⟩ = some (.slice none 0 0) := by
    rw [hW, World.cell?_alloc_at (hn := by simp)]
    rfl
  have o1 : W.cell? ⟨w.heap.size + 1 + 1, 0 + 1, none⟩ = some (.slice none 0 0) := by
    rw [hW, World.cell?_alloc_at (hn := by simp)]
    rfl
  have f0 : W.frozen? ⟨w.heap.size + 1 + 1, 0, none⟩ = false := by rw [hW, World.frozen?_alloc_at (hn := by simp)]
  have f1 : W.frozen? ⟨w.heap.size + 1 + 1, 0 + 1, none⟩ = false := by rw [hW, World.frozen?_alloc_at (hn := by simp)]
  have f2 : W.frozen? ⟨w.heap.size, 1, none⟩ = false := by rw [hW, World.frozen?_alloc_past (hn := by simp; omega), World.frozen?_alloc_past (hn := by simp), World.frozen?_alloc_at (hn := rfl)]
  have HW := Lib.hid hW
  have HZ := Lib.hid hz
  have HBW := Lib.hid hBW
  have HLIST := Lib.hid (show ∀ X, Below W.heap.size W X → ChgsAt X W.heap.size LA L from fun X hX => (h.list.below (hBW.trans (hX.mono (by omega)))).more (by omega))
  have HN := Lib.hid h.nil
  have hzl : w.heap.size < W.heap.size := by omega
  have hzl1 : w.heap.size + 1 < W.heap.size := by omega
  have hzl2 : w.heap.size + 1 + 1 < W.heap.size := by omega
  clear hok hok' hm h hW hz hBW
  go_enter Tryd.func22, Tryd.ntmps22
  go_upto_region 1 with (fail)
  rw [← HW.out]
  go_cut [41] (fun v wx => v = .bool false ∧ wx = W)
  case first =>
    rcases HT.out with ⟨h1, h2⟩ | h1
    · have g6 : decide ((1048576 : Int) < time) = false := by simp; omega
      go_wp2_with fail
      go_meet
      case rel => exact ⟨rfl, rfl⟩
    · subst h1
      go_wp2_with fail
      go_meet
      case rel => exact ⟨rfl, rfl⟩
  case rest =>
    obtain ⟨rfl, rfl⟩ := hcut
    go_upto_region 3 with (fail)
    go_cut [60] (fun v wx => v = .bool (late L ⟨tick, edge, time⟩) ∧ ∃ q, wx = wc.drewN q)
    case first =>
      by_cases hL0 : L.length = 0
      · have hnil : L = [] := List.eq_nil_of_length_eq_zero hL0
        have HLT := Lib.hid (show late L ⟨tick, edge, time⟩ = false by rw [hnil]; rfl)
        have d0 : decide (0 < L.length) = false := by rw [hL0]; rfl
        clear hL0 hnil
        go_quiet (fail)
        go_wp2_with fail
        go_meet
        case rel => exact ⟨by rw [HLT.out], _, rfl⟩
      · obtain ⟨d, hd⟩ : ∃ d, L[L.length - 1]? = some d := ⟨L[L.length - 1], by simp⟩
        have HLT := Lib.hid (late_last (c := ⟨tick, edge, time⟩) hd)
        obtain ⟨b, o, rfl, hbz, q0, q1, q2⟩ := chg_at (cs := L) (HLIST.out wc (Below.refl _ _)) hd
        obtain ⟨k, hk⟩ : ∃ k, L.length = k + 1 := ⟨L.length - 1, by omega⟩
        rw [show L.length - 1 = k by omega] at q0
        have hkz : (k : Int) < (L.length : Int) := by omega
        have hk0 : (0 : Int) ≤ (k : Int) := by omega
        have dk : decide (0 < L.length) = true := by simp; omega
        have hw1 : IntKind.i64.wrap ((L.length : Int) - 1) = (k : Int) := by rw [IntWalk.i64_in _ (by omega)]; omega
        clear hd q1 q2 hL0 hk
        go_quiet (fail)
        go_wp2_with fail
        go_meet
        case rel => exact ⟨by rw [HLT.out], _, rfl⟩
    case rest =>
      obtain ⟨rfl, q, rfl⟩ := hcut
      cases hlt : late L ⟨tick, edge, time⟩ with
      | true =>
        have he := errC_late HOK.out hlt
        have hp : putL E.length L ⟨tick, edge, time⟩ = L := putL_bad (by rw [he]; decide)
        have HRES := Lib.hid (fun X (hb : Below w.heap.size w X) => show RetPut w E L FA fc LA ⟨tick, edge, time⟩ (.returned (.tuple #[.agg #[.slice FA m fc, .slice LA L.length lc], .int .i64 8])) X from ⟨LA, lc, by rw [he, hp, HM.out], by rw [hp]; exact HH.out.below hb, .inl ⟨rfl, by rw [he]; decide⟩, hb⟩)
        have HB2 := Lib.hid (below_drewN HBW.out q)
        clear hlt he hp
        go_wp2_with fail
        refine bodyPost_ret (v := .tuple #[.agg #[.slice FA m fc, .slice LA L.length lc], .int .i64 8]) (by simp [results, Tryd.results22, go_sem, o0, o1]) rfl ?_
        exact HRES.out _ ((HB2.out.setCell (p := ⟨w.heap.size + 1 + 1, 0, none⟩) (by show w.heap.size ≤ w.heap.size + 1 + 1; omega) _).setCell (p := ⟨w.heap.size + 1 + 1, 0 + 1, none⟩) (by show w.heap.size ≤ w.heap.size + 1 + 1; omega) _)
      | false =>
        have he := errC_ok HOK.out hlt
        have hp : putL E.length L ⟨tick, edge, time⟩ = L ++ [ChgT.mk tick edge time] := putL_ok he
        have HRES := Lib.hid (fun X (A6 : Option Addr) (c6 : Nat) (hs : ChgsAt X X.heap.size A6 (L ++ [(ChgT.mk tick edge time)])) (hn : A6 = none → c6 = 0) (hfr : ∀ b o, A6 = some ⟨b, o, none⟩ → w.heap.size ≤ b) (hb : Below w.heap.size w X) => show RetPut w E L FA fc LA (ChgT.mk tick edge time) (.returned (.tuple #[.agg #[.slice FA m fc, .slice A6 (L.length + 1) c6], .int .i64 0])) X from ⟨A6, c6, by rw [he, hp, HM.out, List.length_append]; rfl, by rw [hp]; exact ⟨(HH.out.below hb).first, hs, hn⟩, .inr hfr, hb⟩)
        clear hlt he hp
        obtain ⟨W, hWq⟩ : ∃ W, W = wc.drewN q := ⟨_, rfl⟩
        obtain ⟨rb, hrb⟩ : ∃ rb, rb = w.heap.size := ⟨_, rfl⟩
        obtain ⟨eb, heb⟩ : ∃ eb, eb = w.heap.size + 1 := ⟨_, rfl⟩
        obtain ⟨ob, hob⟩ : ∃ ob, ob = w.heap.size + 1 + 1 := ⟨_, rfl⟩
        have hLz : w.heap.size + 3 = W.heap.size := by rw [hWq]; exact HZ.out
        have hLB : Below w.heap.size w W := by rw [hWq]; exact below_drewN HBW.out q
        have hLS : ∀ X, Below W.heap.size W X → X.cell? ⟨eb, 0, none⟩ = some (.int .i64 tick) ∧ X.cell? ⟨eb, 0 + 1, none⟩ = some (.int .i64 edge) ∧ X.cell? ⟨eb, 0 + 2, none⟩ = some (.int .i64 time) := fun X hX => by
          have hl : eb < W.heap.size := by omega
          have k : ∀ j, X.cell? ⟨eb, j, none⟩ = wc.cell? ⟨eb, j, none⟩ := fun j => (hX.cell (p := ⟨eb, j, none⟩) hl).trans (by rw [hWq]; rfl)
          rw [k, k, k, heb]
          exact ⟨e0, e1, e2⟩
        have hLD : ∀ X, Below W.heap.size W X → X.cell? ⟨rb, 1, none⟩ = some (.slice LA L.length lc) := fun X hX => by
          have hl : rb < W.heap.size := by omega
          have k : X.cell? ⟨rb, 1, none⟩ = wc.cell? ⟨rb, 1, none⟩ := (hX.cell (p := ⟨rb, 1, none⟩) hl).trans (by rw [hWq]; rfl)
          rw [k, hrb]
          exact r1
        have hLF : ∀ X, Below W.heap.size W X → X.frozen? ⟨rb, 1, none⟩ = false := fun X hX => by
          have hl : rb < W.heap.size := by omega
          have k : X.frozen? ⟨rb, 1, none⟩ = wc.frozen? ⟨rb, 1, none⟩ := (hX.frozen (p := ⟨rb, 1, none⟩) hl).trans (by rw [hWq]; rfl)
          rw [k, hrb]
          exact f2
        have hLL : ∀ X, Below W.heap.size W X → ChgsAt X W.heap.size LA L := fun X hX => by
          have : Below wc.heap.size wc X := by
            rw [hWq] at hX
            exact (below_drewN (Below.refl _ _) q).trans hX
          have h2 := HLIST.out X this
          rw [hWq]
          exact h2
        have hmid : ∀ (A6 : Option Addr) (c6 : Nat) (w6 : World), OwnC w6 W.heap.size 57 (.slice A6 (L ++ [ChgT.mk tick edge time]).length c6) (L ++ [ChgT.mk tick edge time]) → Below W.heap.size W w6 → PutMid w E L FA fc ⟨tick, edge, time⟩ rb ob (w6.setCell ⟨rb, 1, none⟩ (.slice A6 (L.length + 1) c6)) := fun A6 c6 w6 hO hB => by
          have key : (L ++ [ChgT.mk tick edge time]).length = L.length + 1 := by rw [List.length_append]; rfl
          rw [← key]
          refine mid_of (LA := LA) (lc := lc) hLz hrb (by omega) hLB ?_ (hLD W (Below.refl _ _)) ?_ ?_ ?_ ?_ hO hB
          · rw [hWq, hrb, ← HM.out]; exact r0
          · rw [hWq, hob]; exact ⟨_, o0⟩
          · rw [hWq, hob]; exact ⟨_, o1⟩
          · rw [hWq, hob]; exact f0
          · rw [hWq, hob]; exact f1
        have hLSS : ∀ X v, Below W.heap.size W X → (X.setCell ⟨rb, 1, none⟩ v).cell? ⟨eb, 0, none⟩ = some (.int .i64 tick) ∧ (X.setCell ⟨rb, 1, none⟩ v).cell? ⟨eb, 0 + 1, none⟩ = some (.int .i64 edge) ∧ (X.setCell ⟨rb, 1, none⟩ v).cell? ⟨eb, 0 + 2, none⟩ = some (.int .i64 time) := fun X v hX => by
          have k : ∀ j, (X.setCell ⟨rb, 1, none⟩ v).cell? ⟨eb, j, none⟩ = X.cell? ⟨eb, j, none⟩ := fun j => World.cell?_setCell_other X _ ⟨eb, j, none⟩ _ (fun q => by injection q with q; omega)
          rw [k, k, k]
          exact hLS X hX
        obtain ⟨S0, hS0⟩ : ∃ S0 : World → Prop, S0 = fun X => X.cell? ⟨eb, 0, none⟩ = some (.int .i64 tick) ∧ X.cell? ⟨eb, 0 + 1, none⟩ = some (.int .i64 edge) ∧ X.cell? ⟨eb, 0 + 2, none⟩ = some (.int .i64 time) := ⟨_, rfl⟩
        have HS := Lib.hid (show ∀ X, Below W.heap.size W X → S0 X from by rw [hS0]; exact hLS)
        have HSS := Lib.hid (show ∀ X v, Below W.heap.size W X → S0 (X.setCell ⟨rb, 1, none⟩ v) from by rw [hS0]; exact hLSS)
        have HSU := Lib.hid (show ∀ X, S0 X → X.cell? ⟨eb, 0, none⟩ = some (.int .i64 tick) ∧ X.cell? ⟨eb, 0 + 1, none⟩ = some (.int .i64 edge) ∧ X.cell? ⟨eb, 0 + 2, none⟩ = some (.int .i64 time) from by rw [hS0]; exact fun X h => h)
        have HLD := Lib.hid hLD
        have HLF := Lib.hid hLF
        have HMID := Lib.hid hmid
        have HLL := Lib.hid hLL
        have HOB := Lib.hid hob
        have HEB := Lib.hid heb
        have HRB := Lib.hid hrb
        rw [← hWq, ← hob, ← heb, ← hrb]
        clear hS0 hLS hLSS hLD hLF hLL hmid hob heb hrb hWq hLB r0 r1 e0 e1 e2 o0 o1 f0 f1 f2 HLIST HZ HBW HW hzl hzl1 hzl2 hLz
        have HLIST := HLL
        clear HLL
        go_upto_region 5 with (fail)
        go_cut [5] (fun v wx => v = .int .i64 0 ∧ PutMid w E L FA fc ⟨tick, edge, time⟩ rb ob wx)
        case first =>
          obtain ⟨wd, hwd⟩ : ∃ wd, wd = W.drew := ⟨_, rfl⟩
          have HDW := Lib.hid (show Below W.heap.size W wd from by rw [hwd]; exact below_drewN (Below.refl _ _) 1)
          refine wp_region_held_drew (S := S0) (by kernel_rfl) (by rw [← hwd]; exact HS.out _ HDW.out) (fun hHeld => ?_)
          rw [← hwd]
          clear hwd hHeld
          have hB := HDW.out
          have hHeld := HS.out _ hB
          refine wpAnyH_take (i := 1) (v := .pointer (some ⟨rb, 1, none⟩)) rfl (by kernel_rfl) (by kernel_rfl) (by kernel_rfl) (fun _ _ _ h => h) (Or.inl ⟨by rfl, ?_⟩) (by assumption) ?_
          · intro w hSw
            obtain ⟨s1, s2, s3⟩ := HSU.out w hSw
            go_simp
          show wpAnyH _ _ _ _ _ _ _ (Act.put _ (some 63) _) _
          simp only [Act.put, List.setIfInBounds_toArray, List.set_cons_zero, List.set_cons_succ]
          refine wpAnyH_take (i := 4) (v := .agg #[.int .i64 tick, .int .i64 edge, .int .i64 time]) rfl (by kernel_rfl) (by kernel_rfl) (by kernel_rfl) (fun _ _ _ h => h) (Or.inl ⟨by rfl, ?_⟩) (by assumption) ?_
          · intro w hSw
            obtain ⟨s1, s2, s3⟩ := HSU.out w hSw
            go_simp
          show wpAnyH _ _ _ _ _ _ _ (Act.put _ (some 66) _) _
          simp only [Act.put, List.setIfInBounds_toArray, List.set_cons_zero, List.set_cons_succ]
          clear hHeld
          refine wpAnyH_ready (rs := [0, 2, 5]) (by kernel_rfl) (by simp) ?_
          refine AllReadyH.cons rfl (fun K hK => ?_) (AllReadyH.cons rfl (fun K hK => ?_) (AllReadyH.cons rfl (fun K hK => ?_) AllReadyH.nil))
          · go_simp
            refine hK.out _ _ (HS.out _ (hB.alloc hB.size _)) (fun hHeld => ?_)
            clear hK K
            have hE0 := OwnR.lit (cs := cellsC) wd cellsC_len W.heap.size 57 [] rfl hB.size (by simp) #[] rfl
            have hB0 := hB.alloc hB.size (.cells #[] 57)
            obtain ⟨X1, hX1⟩ : ∃ X1, X1 = wd.alloc (.cells #[] 57) := ⟨_, rfl⟩
            rw [← hX1] at hB0 hE0 ⊢
            clear hX1 hHeld hB
            have hB := hB0
            clear hB0
            have hE := hE0
            clear hE0
            refine wpAnyH_ready (rs := [2, 5]) (by kernel_rfl) (by simp) ?_
            refine AllReadyH.cons rfl (fun K hK => ?_) (AllReadyH.cons rfl (fun K hK => ?_) AllReadyH.nil)
            · have r0 := HLD.out _ hB
              go_simp
              refine hK.out _ _ (HS.out _ hB) (fun hHeld => ?_)
              clear hK K r0 hHeld
              refine wpAnyH_ready (rs := [3, 5]) (by kernel_rfl) (by simp) ?_
              refine AllReadyH.cons rfl (fun K hK => ?_) (AllReadyH.cons rfl (fun K hK => ?_) AllReadyH.nil)
              · refine step_append_recs _ (by rfl) cellsC_len (.tmp 62) (.tmp 64) 23 (by rfl) 57 Tryd.underlying23 chg_info rfl (by omega) (by omega) W.heap.size _ [] (by rfl) hE W.heap.size _ _ _ L (by rfl) (by rfl) HN.out (HLIST.out _ hB) (fun y _ => cellsC_one y) (by simp; omega) hB.size ?_
                intro v5 w5 hO hg5
                rw [List.nil_append] at hO
                have hB5 := hB.grown hg5 hB.size (fun j hj => OwnR.ge_base hE j hj)
                refine hK.out _ _ (HS.out _ hB5) (fun hHeld => ?_)
                clear hK K hHeld hB hE hg5
                have hB := hB5
                clear hB5
                refine wpAnyH_ready (rs := [5]) (by kernel_rfl) (by simp) ?_
                refine AllReadyH.cons rfl (fun K hK => ?_) AllReadyH.nil
                go_simp
                refine hK.out _ _ (HS.out _ (hB.alloc hB.size _)) (fun hHeld => ?_)
                clear hK K
                have hX0 := RecsAt.lit (cs := cellsC) w5 [ChgT.mk tick edge time] 57 rfl #[.int .i64 tick, .int .i64 edge, .int .i64 time] rfl
                have hO0 := OwnR.alloc hO (.cells #[.int .i64 tick, .int .i64 edge, .int .i64 time] 57)
                have hB0 := hB.alloc hB.size (.cells #[.int .i64 tick, .int .i64 edge, .int .i64 time] 57)
                obtain ⟨X2, hX2⟩ : ∃ X2, X2 = w5.alloc (.cells #[.int .i64 tick, .int .i64 edge, .int .i64 time] 57) := ⟨_, rfl⟩
                rw [← hX2] at hB0 hX0 hO0 ⊢
                clear hX2 hHeld hB hO
                have hB := hB0
                clear hB0
                have hX := hX0
                clear hX0
                have hO := hO0
                clear hO0
                refine wpAnyH_ready (rs := [6]) (by kernel_rfl) (by simp) ?_
                refine AllReadyH.cons rfl (fun K hK => ?_) AllReadyH.nil
                refine step_append_recs _ (by rfl) cellsC_len (.tmp 65) (.tmp 67) 23 (by rfl) 57 Tryd.underlying23 chg_info rfl (by omega) (by omega) W.heap.size _ L (by rfl) hO _ _ _ _ [ChgT.mk tick edge time] (by rfl) (by rfl) (by simp) hX (fun y _ => cellsC_one y) (by simp; omega) hB.size ?_
                intro v6 w6 hO6 hg6
                have hB6 := hB.grown hg6 hB.size (fun j hj => OwnR.ge_base hO j hj)
                refine hK.out _ _ (HS.out _ hB6) (fun hHeld => ?_)
                clear hK K hHeld
                obtain ⟨A6, c6, rfl, hsl6⟩ := OwnR.sl hO6
                have hHeld := HS.out _ hB6
                refine wpAnyH_take (i := 7) (v := .pointer (some ⟨rb, 1, none⟩)) rfl (by kernel_rfl) (by kernel_rfl) (by kernel_rfl) (fun _ _ _ h => h) (Or.inl ⟨by rfl, ?_⟩) (by assumption) ?_
                · intro w hSw
                  obtain ⟨s1, s2, s3⟩ := HSU.out w hSw
                  go_simp
                clear hHeld
                refine wpAnyH_ready (rs := [8]) (by kernel_rfl) (by simp) ?_
                refine AllReadyH.cons rfl (fun K hK => ?_) AllReadyH.nil
                have r0 := HLD.out _ hB6
                have r1 := HLF.out _ hB6
                go_simp
                refine hK.out _ _ (HSS.out _ _ hB6) (fun hHeld => ?_)
                clear hK K
                refine wpAnyH_done (by kernel_rfl) ?_ _
                go_wp2_with fail
                go_meet
                case rel => exact ⟨rfl, HMID.out _ _ _ hO6 hB6⟩
              · go_simp
                refine hK.out _ _ (HS.out _ (hB.alloc hB.size _)) (fun hHeld => ?_)
                clear hK K
                have hX0 := RecsAt.lit (cs := cellsC) X1 [ChgT.mk tick edge time] 57 rfl #[.int .i64 tick, .int .i64 edge, .int .i64 time] rfl
                have hXE : X1.heap.size ≠ wd.heap.size := Nat.ne_of_gt (OwnR.lt_size hE _ rfl)
                have hE0 := OwnR.alloc hE (.cells #[.int .i64 tick, .int .i64 edge, .int .i64 time] 57)
                have hB0 := hB.alloc hB.size (.cells #[.int .i64 tick, .int .i64 edge, .int .i64 time] 57)
                obtain ⟨X3, hX3⟩ : ∃ X3, X3 = X1.alloc (.cells #[.int .i64 tick, .int .i64 edge, .int .i64 time] 57) := ⟨_, rfl⟩
                rw [← hX3] at hB0 hE0 hX0 ⊢
                clear hX3 hHeld hB hE
                have hB := hB0
                clear hB0
                have hE := hE0
                clear hE0
                have hX := hX0
                clear hX0
                refine wpAnyH_ready (rs := [3]) (by kernel_rfl) (by simp) ?_
                refine AllReadyH.cons rfl (fun K hK => ?_) AllReadyH.nil
                refine step_append_recs _ (by rfl) cellsC_len (.tmp 62) (.tmp 64) 23 (by rfl) 57 Tryd.underlying23 chg_info rfl (by omega) (by omega) W.heap.size _ [] (by rfl) hE W.heap.size _ _ _ L (by rfl) (by rfl) HN.out (HLIST.out _ hB) (fun y _ => cellsC_one y) (by simp; omega) hB.size ?_
                intro v5 w5 hO hg5
                rw [List.nil_append] at hO
                have hB5 := hB.grown hg5 hB.size (fun j hj => OwnR.ge_base hE j hj)
                have hX5 : ChgsAt w5 w5.heap.size (some ⟨X1.heap.size, 0, none⟩) [ChgT.mk tick edge time] := fun j u hj => by
                  obtain ⟨b, o, e, hb, hc⟩ := hX j u hj
                  cases e
                  exact ⟨_, _, rfl, Nat.lt_of_lt_of_le hb hg5.size, (hg5.cell_far ⟨_, _, none⟩ hb (fun q => hXE (by simpa [Value.ownBlock] using q))).trans hc⟩
                refine hK.out _ _ (HS.out _ hB5) (fun hHeld => ?_)
                clear hK K hHeld hB hE hg5 hX hXE
                have hB := hB5
                clear hB5
                have hX := hX5
                clear hX5
                refine wpAnyH_ready (rs := [6]) (by kernel_rfl) (by simp) ?_
                refine AllReadyH.cons rfl (fun K hK => ?_) AllReadyH.nil
                refine step_append_recs _ (by rfl) cellsC_len (.tmp 65) (.tmp 67) 23 (by rfl) 57 Tryd.underlying23 chg_info rfl (by omega) (by omega) W.heap.size _ L (by rfl) hO _ _ _ _ [ChgT.mk tick edge time] (by rfl) (by rfl) (by simp) hX (fun y _ => cellsC_one y) (by simp; omega) hB.size ?_
                intro v6 w6 hO6 hg6
                have hB6 := hB.grown hg6 hB.size (fun j hj => OwnR.ge_base hO j hj)
                refine hK.out _ _ (HS.out _ hB6) (fun hHeld => ?_)
                clear hK K hHeld
                obtain ⟨A6, c6, rfl, hsl6⟩ := OwnR.sl hO6
                have hHeld := HS.out _ hB6
                refine wpAnyH_take (i := 7) (v := .pointer (some ⟨rb, 1, none⟩)) rfl (by kernel_rfl) (by kernel_rfl) (by kernel_rfl) (fun _ _ _ h => h) (Or.inl ⟨by rfl, ?_⟩) (by assumption) ?_
                · intro w hSw
                  obtain ⟨s1, s2, s3⟩ := HSU.out w hSw
                  go_simp
                clear hHeld
                refine wpAnyH_ready (rs := [8]) (by kernel_rfl) (by simp) ?_
                refine AllReadyH.cons rfl (fun K hK => ?_) AllReadyH.nil
                have r0 := HLD.out _ hB6
                have r1 := HLF.out _ hB6
                go_simp
                refine hK.out _ _ (HSS.out _ _ hB6) (fun hHeld => ?_)
                clear hK K
                refine wpAnyH_done (by kernel_rfl) ?_ _
                go_wp2_with fail
                go_meet
                case rel => exact ⟨rfl, HMID.out _ _ _ hO6 hB6⟩
            · go_simp
              refine hK.out _ _ (HS.out _ (hB.alloc hB.size _)) (fun hHeld => ?_)
              clear hK K
              have hX0 := RecsAt.lit (cs := cellsC) X1 [ChgT.mk tick edge time] 57 rfl #[.int .i64 tick, .int .i64 edge, .int .i64 time] rfl
              have hXE : X1.heap.size ≠ wd.heap.size := Nat.ne_of_gt (OwnR.lt_size hE _ rfl)
              have hE0 := OwnR.alloc hE (.cells #[.int .i64 tick, .int .i64 edge, .int .i64 time] 57)
              have hB0 := hB.alloc hB.size (.cells #[.int .i64 tick, .int .i64 edge, .int .i64 time] 57)
              obtain ⟨X4, hX4⟩ : ∃ X4, X4 = X1.alloc (.cells #[.int .i64 tick, .int .i64 edge, .int .i64 time] 57) := ⟨_, rfl⟩
              rw [← hX4] at hB0 hE0 hX0 ⊢
              clear hX4 hHeld hB hE
              have hB := hB0
              clear hB0
              have hE := hE0
              clear hE0
              have hX := hX0
              clear hX0
              refine wpAnyH_ready (rs := [2]) (by kernel_rfl) (by simp) ?_
              refine AllReadyH.cons rfl (fun K hK => ?_) AllReadyH.nil
              have r0 := HLD.out _ hB
              go_simp
              refine hK.out _ _ (HS.out _ hB) (fun hHeld => ?_)
              clear hK K r0 hHeld
              refine wpAnyH_ready (rs := [3]) (by kernel_rfl) (by simp) ?_
              refine AllReadyH.cons rfl (fun K hK => ?_) AllReadyH.nil
              refine step_append_recs _ (by rfl) cellsC_len (.tmp 62) (.tmp 64) 23 (by rfl) 57 Tryd.underlying23 chg_info rfl (by omega) (by omega) W.heap.size _ [] (by rfl) hE W.heap.size _ _ _ L (by rfl) (by rfl) HN.out (HLIST.out _ hB) (fun y _ => cellsC_one y) (by simp; omega) hB.size ?_
              intro v5 w5 hO hg5
              rw [List.nil_append] at hO
              have hB5 := hB.grown hg5 hB.size (fun j hj => OwnR.ge_base hE j hj)
              have hX5 : ChgsAt w5 w5.heap.size (some ⟨X1.heap.size, 0, none⟩) [ChgT.mk tick edge time] := fun j u hj => by
                obtain ⟨b, o, e, hb, hc⟩ := hX j u hj
                cases e
                exact ⟨_, _, rfl, Nat.lt_of_lt_of_le hb hg5.size, (hg5.cell_far ⟨_, _, none⟩ hb (fun q => hXE (by simpa [Value.ownBlock] using q))).trans hc⟩
              refine hK.out _ _ (HS.out _ hB5) (fun hHeld => ?_)
              clear hK K hHeld hB hE hg5 hX hXE
              have hB := hB5
              clear hB5
              have hX := hX5
              clear hX5
              refine wpAnyH_ready (rs := [6]) (by kernel_rfl) (by simp) ?_
              refine AllReadyH.cons rfl (fun K hK => ?_) AllReadyH.nil
              refine step_append_recs _ (by rfl) cellsC_len (.tmp 65) (.tmp 67) 23 (by rfl) 57 Tryd.underlying23 chg_info rfl (by omega) (by omega) W.heap.size _ L (by rfl) hO _ _ _ _ [ChgT.mk tick edge time] (by rfl) (by rfl) (by simp) hX (fun y _ => cellsC_one y) (by simp; omega) hB.size ?_
              intro v6 w6 hO6 hg6
              have hB6 := hB.grown hg6 hB.size (fun j hj => OwnR.ge_base hO j hj)
              refine hK.out _ _ (HS.out _ hB6) (fun hHeld => ?_)
              clear hK K hHeld
              obtain ⟨A6, c6, rfl, hsl6⟩ := OwnR.sl hO6
              have hHeld := HS.out _ hB6
              refine wpAnyH_take (i := 7) (v := .pointer (some ⟨rb, 1, none⟩)) rfl (by kernel_rfl) (by kernel_rfl) (by kernel_rfl) (fun _ _ _ h => h) (Or.inl ⟨by rfl, ?_⟩) (by assumption) ?_
              · intro w hSw
                obtain ⟨s1, s2, s3⟩ := HSU.out w hSw
                go_simp
              clear hHeld
              refine wpAnyH_ready (rs := [8]) (by kernel_rfl) (by simp) ?_
              refine AllReadyH.cons rfl (fun K hK => ?_) AllReadyH.nil
              have r0 := HLD.out _ hB6
              have r1 := HLF.out _ hB6
              go_simp
              refine hK.out _ _ (HSS.out _ _ hB6) (fun hHeld => ?_)
              clear hK K
              refine wpAnyH_done (by kernel_rfl) ?_ _
              go_wp2_with fail
              go_meet
              case rel => exact ⟨rfl, HMID.out _ _ _ hO6 hB6⟩
          · have r0 := HLD.out _ hB
            go_simp
            refine hK.out _ _ (HS.out _ hB) (fun hHeld => ?_)
            clear hK K r0 hHeld
            refine wpAnyH_ready (rs := [0, 5]) (by kernel_rfl) (by simp) ?_
            refine AllReadyH.cons rfl (fun K hK => ?_) (AllReadyH.cons rfl (fun K hK => ?_) AllReadyH.nil)
            · go_simp
              refine hK.out _ _ (HS.out _ (hB.alloc hB.size _)) (fun hHeld => ?_)
              clear hK K
              have hE0 := OwnR.lit (cs := cellsC) wd cellsC_len W.heap.size 57 [] rfl hB.size (by simp) #[] rfl
              have hB0 := hB.alloc hB.size (.cells #[] 57)
              obtain ⟨X5, hX5⟩ : ∃ X5, X5 = wd.alloc (.cells #[] 57) := ⟨_, rfl⟩
              rw [← hX5] at hB0 hE0 ⊢
              clear hX5 hHeld hB
              have hB := hB0
              clear hB0
              have hE := hE0
              clear hE0
              refine wpAnyH_ready (rs := [3, 5]) (by kernel_rfl) (by simp) ?_
              refine AllReadyH.cons rfl (fun K hK => ?_) (AllReadyH.cons rfl (fun K hK => ?_) AllReadyH.nil)
              · refine step_append_recs _ (by rfl) cellsC_len (.tmp 62) (.tmp 64) 23 (by rfl) 57 Tryd.underlying23 chg_info rfl (by omega) (by omega) W.heap.size _ [] (by rfl) hE W.heap.size _ _ _ L (by rfl) (by rfl) HN.out (HLIST.out _ hB) (fun y _ => cellsC_one y) (by simp; omega) hB.size ?_
                intro v5 w5 hO hg5
                rw [List.nil_append] at hO
                have hB5 := hB.grown hg5 hB.size (fun j hj => OwnR.ge_base hE j hj)
                refine hK.out _ _ (HS.out _ hB5) (fun hHeld => ?_)
                clear hK K hHeld hB hE hg5
                have hB := hB5
                clear hB5
                refine wpAnyH_ready (rs := [5]) (by kernel_rfl) (by simp) ?_
                refine AllReadyH.cons rfl (fun K hK => ?_) AllReadyH.nil
                go_simp
                refine hK.out _ _ (HS.out _ (hB.alloc hB.size _)) (fun hHeld => ?_)
                clear hK K
                have hX0 := RecsAt.lit (cs := cellsC) w5 [ChgT.mk tick edge time] 57 rfl #[.int .i64 tick, .int .i64 edge, .int .i64 time] rfl
                have hO0 := OwnR.alloc hO (.cells #[.int .i64 tick, .int .i64 edge, .int .i64 time] 57)
                have hB0 := hB.alloc hB.size (.cells #[.int .i64 tick, .int .i64 edge, .int .i64 time] 57)
                obtain ⟨X6, hX6⟩ : ∃ X6, X6 = w5.alloc (.cells #[.int .i64 tick, .int .i64 edge, .int .i64 time] 57) := ⟨_, rfl⟩
                rw [← hX6] at hB0 hX0 hO0 ⊢
                clear hX6 hHeld hB hO
                have hB := hB0
                clear hB0
                have hX := hX0
                clear hX0
                have hO := hO0
                clear hO0
                refine wpAnyH_ready (rs := [6]) (by kernel_rfl) (by simp) ?_
                refine AllReadyH.cons rfl (fun K hK => ?_) AllReadyH.nil
                refine step_append_recs _ (by rfl) cellsC_len (.tmp 65) (.tmp 67) 23 (by rfl) 57 Tryd.underlying23 chg_info rfl (by omega) (by omega) W.heap.size _ L (by rfl) hO _ _ _ _ [ChgT.mk tick edge time] (by rfl) (by rfl) (by simp) hX (fun y _ => cellsC_one y) (by simp; omega) hB.size ?_
                intro v6 w6 hO6 hg6
                have hB6 := hB.grown hg6 hB.size (fun j hj => OwnR.ge_base hO j hj)
                refine hK.out _ _ (HS.out _ hB6) (fun hHeld => ?_)
                clear hK K hHeld
                obtain ⟨A6, c6, rfl, hsl6⟩ := OwnR.sl hO6
                have hHeld := HS.out _ hB6
                refine wpAnyH_take (i := 7) (v := .pointer (some ⟨rb, 1, none⟩)) rfl (by kernel_rfl) (by kernel_rfl) (by kernel_rfl) (fun _ _ _ h => h) (Or.inl ⟨by rfl, ?_⟩) (by assumption) ?_
                · intro w hSw
                  obtain ⟨s1, s2, s3⟩ := HSU.out w hSw
                  go_simp
                clear hHeld
                refine wpAnyH_ready (rs := [8]) (by kernel_rfl) (by simp) ?_
                refine AllReadyH.cons rfl (fun K hK => ?_) AllReadyH.nil
                have r0 := HLD.out _ hB6
                have r1 := HLF.out _ hB6
                go_simp
                refine hK.out _ _ (HSS.out _ _ hB6) (fun hHeld => ?_)
                clear hK K
                refine wpAnyH_done (by kernel_rfl) ?_ _
                go_wp2_with fail
                go_meet
                case rel => exact ⟨rfl, HMID.out _ _ _ hO6 hB6⟩
              · go_simp
                refine hK.out _ _ (HS.out _ (hB.alloc hB.size _)) (fun hHeld => ?_)
                clear hK K
                have hX0 := RecsAt.lit (cs := cellsC) X5 [ChgT.mk tick edge time] 57 rfl #[.int .i64 tick, .int .i64 edge, .int .i64 time] rfl
                have hXE : X5.heap.size ≠ wd.heap.size := Nat.ne_of_gt (OwnR.lt_size hE _ rfl)
                have hE0 := OwnR.alloc hE (.cells #[.int .i64 tick, .int .i64 edge, .int .i64 time] 57)
                have hB0 := hB.alloc hB.size (.cells #[.int .i64 tick, .int .i64 edge, .int .i64 time] 57)
                obtain ⟨X7, hX7⟩ : ∃ X7, X7 = X5.alloc (.cells #[.int .i64 tick, .int .i64 edge, .int .i64 time] 57) := ⟨_, rfl⟩
                rw [← hX7] at hB0 hE0 hX0 ⊢
                clear hX7 hHeld hB hE
                have hB := hB0
                clear hB0
                have hE := hE0
                clear hE0
                have hX := hX0
                clear hX0
                refine wpAnyH_ready (rs := [3]) (by kernel_rfl) (by simp) ?_
                refine AllReadyH.cons rfl (fun K hK => ?_) AllReadyH.nil
                refine step_append_recs _ (by rfl) cellsC_len (.tmp 62) (.tmp 64) 23 (by rfl) 57 Tryd.underlying23 chg_info rfl (by omega) (by omega) W.heap.size _ [] (by rfl) hE W.heap.size _ _ _ L (by rfl) (by rfl) HN.out (HLIST.out _ hB) (fun y _ => cellsC_one y) (by simp; omega) hB.size ?_
                intro v5 w5 hO hg5
                rw [List.nil_append] at hO
                have hB5 := hB.grown hg5 hB.size (fun j hj => OwnR.ge_base hE j hj)
                have hX5 : ChgsAt w5 w5.heap.size (some ⟨X5.heap.size, 0, none⟩) [ChgT.mk tick edge time] := fun j u hj => by
                  obtain ⟨b, o, e, hb, hc⟩ := hX j u hj
                  cases e
                  exact ⟨_, _, rfl, Nat.lt_of_lt_of_le hb hg5.size, (hg5.cell_far ⟨_, _, none⟩ hb (fun q => hXE (by simpa [Value.ownBlock] using q))).trans hc⟩
                refine hK.out _ _ (HS.out _ hB5) (fun hHeld => ?_)
                clear hK K hHeld hB hE hg5 hX hXE
                have hB := hB5
                clear hB5
                have hX := hX5
                clear hX5
                refine wpAnyH_ready (rs := [6]) (by kernel_rfl) (by simp) ?_
                refine AllReadyH.cons rfl (fun K hK => ?_) AllReadyH.nil
                refine step_append_recs _ (by rfl) cellsC_len (.tmp 65) (.tmp 67) 23 (by rfl) 57 Tryd.underlying23 chg_info rfl (by omega) (by omega) W.heap.size _ L (by rfl) hO _ _ _ _ [ChgT.mk tick edge time] (by rfl) (by rfl) (by simp) hX (fun y _ => cellsC_one y) (by simp; omega) hB.size ?_
                intro v6 w6 hO6 hg6
                have hB6 := hB.grown hg6 hB.size (fun j hj => OwnR.ge_base hO j hj)
                refine hK.out _ _ (HS.out _ hB6) (fun hHeld => ?_)
                clear hK K hHeld
                obtain ⟨A6, c6, rfl, hsl6⟩ := OwnR.sl hO6
                have hHeld := HS.out _ hB6
                refine wpAnyH_take (i := 7) (v := .pointer (some ⟨rb, 1, none⟩)) rfl (by kernel_rfl) (by kernel_rfl) (by kernel_rfl) (fun _ _ _ h => h) (Or.inl ⟨by rfl, ?_⟩) (by assumption) ?_
                · intro w hSw
                  obtain ⟨s1, s2, s3⟩ := HSU.out w hSw
                  go_simp
                clear hHeld
                refine wpAnyH_ready (rs := [8]) (by kernel_rfl) (by simp) ?_
                refine AllReadyH.cons rfl (fun K hK => ?_) AllReadyH.nil
                have r0 := HLD.out _ hB6
                have r1 := HLF.out _ hB6
                go_simp
                refine hK.out _ _ (HSS.out _ _ hB6) (fun hHeld => ?_)
                clear hK K
                refine wpAnyH_done (by kernel_rfl) ?_ _
                go_wp2_with fail
                go_meet
                case rel => exact ⟨rfl, HMID.out _ _ _ hO6 hB6⟩
            · go_simp
              refine hK.out _ _ (HS.out _ (hB.alloc hB.size _)) (fun hHeld => ?_)
              clear hK K
              have hX0 := RecsAt.lit (cs := cellsC) wd [ChgT.mk tick edge time] 57 rfl #[.int .i64 tick, .int .i64 edge, .int .i64 time] rfl
              have hB0 := hB.alloc hB.size (.cells #[.int .i64 tick, .int .i64 edge, .int .i64 time] 57)
              obtain ⟨X8, hX8⟩ : ∃ X8, X8 = wd.alloc (.cells #[.int .i64 tick, .int .i64 edge, .int .i64 time] 57) := ⟨_, rfl⟩
              rw [← hX8] at hB0 hX0 ⊢
              clear hX8 hHeld hB
              have hB := hB0
              clear hB0
              have hX := hX0
              clear hX0
              refine wpAnyH_ready (rs := [0]) (by kernel_rfl) (by simp) ?_
              refine AllReadyH.cons rfl (fun K hK => ?_) AllReadyH.nil
              go_simp
              refine hK.out _ _ (HS.out _ (hB.alloc hB.size _)) (fun hHeld => ?_)
              clear hK K
              have hE0 := OwnR.lit (cs := cellsC) X8 cellsC_len W.heap.size 57 [] rfl hB.size (by simp) #[] rfl
              have hXE : wd.heap.size ≠ X8.heap.size := fun q => by
                obtain ⟨b, o, e, hb, _⟩ := hX 0 _ rfl
                injection e with e
                injection e with e
                omega
              have hX0 := (hX.alloc (Nat.le_refl _) (.cells #[] 57)).more (show X8.heap.size ≤ (X8.alloc (.cells #[] 57)).heap.size by simp)
              have hB0 := hB.alloc hB.size (.cells #[] 57)
              obtain ⟨X9, hX9⟩ : ∃ X9, X9 = X8.alloc (.cells #[] 57) := ⟨_, rfl⟩
              rw [← hX9] at hB0 hE0 hX0 ⊢
              clear hX9 hHeld hB hX
              have hB := hB0
              clear hB0
              have hE := hE0
              clear hE0
              have hX := hX0
              clear hX0
              refine wpAnyH_ready (rs := [3]) (by kernel_rfl) (by simp) ?_
              refine AllReadyH.cons rfl (fun K hK => ?_) AllReadyH.nil
              refine step_append_recs _ (by rfl) cellsC_len (.tmp 62) (.tmp 64) 23 (by rfl) 57 Tryd.underlying23 chg_info rfl (by omega) (by omega) W.heap.size _ [] (by rfl) hE W.heap.size _ _ _ L (by rfl) (by rfl) HN.out (HLIST.out _ hB) (fun y _ => cellsC_one y) (by simp; omega) hB.size ?_
              intro v5 w5 hO hg5
              rw [List.nil_append] at hO
              have hB5 := hB.grown hg5 hB.size (fun j hj => OwnR.ge_base hE j hj)
              have hX5 : ChgsAt w5 w5.heap.size (some ⟨wd.heap.size, 0, none⟩) [ChgT.mk tick edge time] := fun j u hj => by
                obtain ⟨b, o, e, hb, hc⟩ := hX j u hj
                cases e
                exact ⟨_, _, rfl, Nat.lt_of_lt_of_le hb hg5.size, (hg5.cell_far ⟨_, _, none⟩ hb (fun q => hXE (by simpa [Value.ownBlock] using q))).trans hc⟩
              refine hK.out _ _ (HS.out _ hB5) (fun hHeld => ?_)
              clear hK K hHeld hB hE hg5 hX hXE
              have hB := hB5
              clear hB5
              have hX := hX5
              clear hX5
              refine wpAnyH_ready (rs := [6]) (by kernel_rfl) (by simp) ?_
              refine AllReadyH.cons rfl (fun K hK => ?_) AllReadyH.nil
              refine step_append_recs _ (by rfl) cellsC_len (.tmp 65) (.tmp 67) 23 (by rfl) 57 Tryd.underlying23 chg_info rfl (by omega) (by omega) W.heap.size _ L (by rfl) hO _ _ _ _ [ChgT.mk tick edge time] (by rfl) (by rfl) (by simp) hX (fun y _ => cellsC_one y) (by simp; omega) hB.size ?_
              intro v6 w6 hO6 hg6
              have hB6 := hB.grown hg6 hB.size (fun j hj => OwnR.ge_base hO j hj)
              refine hK.out _ _ (HS.out _ hB6) (fun hHeld => ?_)
              clear hK K hHeld
              obtain ⟨A6, c6, rfl, hsl6⟩ := OwnR.sl hO6
              have hHeld := HS.out _ hB6
              refine wpAnyH_take (i := 7) (v := .pointer (some ⟨rb, 1, none⟩)) rfl (by kernel_rfl) (by kernel_rfl) (by kernel_rfl) (fun _ _ _ h => h) (Or.inl ⟨by rfl, ?_⟩) (by assumption) ?_
              · intro w hSw
                obtain ⟨s1, s2, s3⟩ := HSU.out w hSw
                go_simp
              clear hHeld
              refine wpAnyH_ready (rs := [8]) (by kernel_rfl) (by simp) ?_
              refine AllReadyH.cons rfl (fun K hK => ?_) AllReadyH.nil
              have r0 := HLD.out _ hB6
              have r1 := HLF.out _ hB6
              go_simp
              refine hK.out _ _ (HSS.out _ _ hB6) (fun hHeld => ?_)
              clear hK K
              refine wpAnyH_done (by kernel_rfl) ?_ _
              go_wp2_with fail
              go_meet
              case rel => exact ⟨rfl, HMID.out _ _ _ hO6 hB6⟩
          · go_simp
            refine hK.out _ _ (HS.out _ (hB.alloc hB.size _)) (fun hHeld => ?_)
            clear hK K
            have hX0 := RecsAt.lit (cs := cellsC) wd [ChgT.mk tick edge time] 57 rfl #[.int .i64 tick, .int .i64 edge, .int .i64 time] rfl
            have hB0 := hB.alloc hB.size (.cells #[.int .i64 tick, .int .i64 edge, .int .i64 time] 57)
            obtain ⟨X10, hX10⟩ : ∃ X10, X10 = wd.alloc (.cells #[.int .i64 tick, .int .i64 edge, .int .i64 time] 57) := ⟨_, rfl⟩
            rw [← hX10] at hB0 hX0 ⊢
            clear hX10 hHeld hB
            have hB := hB0
            clear hB0
            have hX := hX0
            clear hX0
            refine wpAnyH_ready (rs := [0, 2]) (by kernel_rfl) (by simp) ?_
            refine AllReadyH.cons rfl (fun K hK => ?_) (AllReadyH.cons rfl (fun K hK => ?_) AllReadyH.nil)
            · go_simp
              refine hK.out _ _ (HS.out _ (hB.alloc hB.size _)) (fun hHeld => ?_)
              clear hK K
              have hE0 := OwnR.lit (cs := cellsC) X10 cellsC_len W.heap.size 57 [] rfl hB.size (by simp) #[] rfl
              have hXE : wd.heap.size ≠ X10.heap.size := fun q => by
                obtain ⟨b, o, e, hb, _⟩ := hX 0 _ rfl
                injection e with e
                injection e with e
                omega
              have hX0 := (hX.alloc (Nat.le_refl _) (.cells #[] 57)).more (show X10.heap.size ≤ (X10.alloc (.cells #[] 57)).heap.size by simp)
              have hB0 := hB.alloc hB.size (.cells #[] 57)
              obtain ⟨X11, hX11⟩ : ∃ X11, X11 = X10.alloc (.cells #[] 57) := ⟨_, rfl⟩
              rw [← hX11] at hB0 hE0 hX0 ⊢
              clear hX11 hHeld hB hX
              have hB := hB0
              clear hB0
              have hE := hE0
              clear hE0
              have hX := hX0
              clear hX0
              refine wpAnyH_ready (rs := [2]) (by kernel_rfl) (by simp) ?_
              refine AllReadyH.cons rfl (fun K hK => ?_) AllReadyH.nil
              have r0 := HLD.out _ hB
              go_simp
              refine hK.out _ _ (HS.out _ hB) (fun hHeld => ?_)
              clear hK K r0 hHeld
              refine wpAnyH_ready (rs := [3]) (by kernel_rfl) (by simp) ?_
              refine AllReadyH.cons rfl (fun K hK => ?_) AllReadyH.nil
              refine step_append_recs _ (by rfl) cellsC_len (.tmp 62) (.tmp 64) 23 (by rfl) 57 Tryd.underlying23 chg_info rfl (by omega) (by omega) W.heap.size _ [] (by rfl) hE W.heap.size _ _ _ L (by rfl) (by rfl) HN.out (HLIST.out _ hB) (fun y _ => cellsC_one y) (by simp; omega) hB.size ?_
              intro v5 w5 hO hg5
              rw [List.nil_append] at hO
              have hB5 := hB.grown hg5 hB.size (fun j hj => OwnR.ge_base hE j hj)
              have hX5 : ChgsAt w5 w5.heap.size (some ⟨wd.heap.size, 0, none⟩) [ChgT.mk tick edge time] := fun j u hj => by
                obtain ⟨b, o, e, hb, hc⟩ := hX j u hj
                cases e
                exact ⟨_, _, rfl, Nat.lt_of_lt_of_le hb hg5.size, (hg5.cell_far ⟨_, _, none⟩ hb (fun q => hXE (by simpa [Value.ownBlock] using q))).trans hc⟩
              refine hK.out _ _ (HS.out _ hB5) (fun hHeld => ?_)
              clear hK K hHeld hB hE hg5 hX hXE
              have hB := hB5
              clear hB5
              have hX := hX5
              clear hX5
              refine wpAnyH_ready (rs := [6]) (by kernel_rfl) (by simp) ?_
              refine AllReadyH.cons rfl (fun K hK => ?_) AllReadyH.nil
              refine step_append_recs _ (by rfl) cellsC_len (.tmp 65) (.tmp 67) 23 (by rfl) 57 Tryd.underlying23 chg_info rfl (by omega) (by omega) W.heap.size _ L (by rfl) hO _ _ _ _ [ChgT.mk tick edge time] (by rfl) (by rfl) (by simp) hX (fun y _ => cellsC_one y) (by simp; omega) hB.size ?_
              intro v6 w6 hO6 hg6
              have hB6 := hB.grown hg6 hB.size (fun j hj => OwnR.ge_base hO j hj)
              refine hK.out _ _ (HS.out _ hB6) (fun hHeld => ?_)
              clear hK K hHeld
              obtain ⟨A6, c6, rfl, hsl6⟩ := OwnR.sl hO6
              have hHeld := HS.out _ hB6
              refine wpAnyH_take (i := 7) (v := .pointer (some ⟨rb, 1, none⟩)) rfl (by kernel_rfl) (by kernel_rfl) (by kernel_rfl) (fun _ _ _ h => h) (Or.inl ⟨by rfl, ?_⟩) (by assumption) ?_
              · intro w hSw
                obtain ⟨s1, s2, s3⟩ := HSU.out w hSw
                go_simp
              clear hHeld
              refine wpAnyH_ready (rs := [8]) (by kernel_rfl) (by simp) ?_
              refine AllReadyH.cons rfl (fun K hK => ?_) AllReadyH.nil
              have r0 := HLD.out _ hB6
              have r1 := HLF.out _ hB6
              go_simp
              refine hK.out _ _ (HSS.out _ _ hB6) (fun hHeld => ?_)
              clear hK K
              refine wpAnyH_done (by kernel_rfl) ?_ _
              go_wp2_with fail
              go_meet
              case rel => exact ⟨rfl, HMID.out _ _ _ hO6 hB6⟩
            · have r0 := HLD.out _ hB
              go_simp
              refine hK.out _ _ (HS.out _ hB) (fun hHeld => ?_)
              clear hK K r0 hHeld
              refine wpAnyH_ready (rs := [0]) (by kernel_rfl) (by simp) ?_
              refine AllReadyH.cons rfl (fun K hK => ?_) AllReadyH.nil
              go_simp
              refine hK.out _ _ (HS.out _ (hB.alloc hB.size _)) (fun hHeld => ?_)
              clear hK K
              have hE0 := OwnR.lit (cs := cellsC) X10 cellsC_len W.heap.size 57 [] rfl hB.size (by simp) #[] rfl
              have hXE : wd.heap.size ≠ X10.heap.size := fun q => by
                obtain ⟨b, o, e, hb, _⟩ := hX 0 _ rfl
                injection e with e
                injection e with e
                omega
              have hX0 := (hX.alloc (Nat.le_refl _) (.cells #[] 57)).more (show X10.heap.size ≤ (X10.alloc (.cells #[] 57)).heap.size by simp)
              have hB0 := hB.alloc hB.size (.cells #[] 57)
              obtain ⟨X12, hX12⟩ : ∃ X12, X12 = X10.alloc (.cells #[] 57) := ⟨_, rfl⟩
              rw [← hX12] at hB0 hE0 hX0 ⊢
              clear hX12 hHeld hB hX
              have hB := hB0
              clear hB0
              have hE := hE0
              clear hE0
              have hX := hX0
              clear hX0
              refine wpAnyH_ready (rs := [3]) (by kernel_rfl) (by simp) ?_
              refine AllReadyH.cons rfl (fun K hK => ?_) AllReadyH.nil
              refine step_append_recs _ (by rfl) cellsC_len (.tmp 62) (.tmp 64) 23 (by rfl) 57 Tryd.underlying23 chg_info rfl (by omega) (by omega) W.heap.size _ [] (by rfl) hE W.heap.size _ _ _ L (by rfl) (by rfl) HN.out (HLIST.out _ hB) (fun y _ => cellsC_one y) (by simp; omega) hB.size ?_
              intro v5 w5 hO hg5
              rw [List.nil_append] at hO
              have hB5 := hB.grown hg5 hB.size (fun j hj => OwnR.ge_base hE j hj)
              have hX5 : ChgsAt w5 w5.heap.size (some ⟨wd.heap.size, 0, none⟩) [ChgT.mk tick edge time] := fun j u hj => by
                obtain ⟨b, o, e, hb, hc⟩ := hX j u hj
                cases e
                exact ⟨_, _, rfl, Nat.lt_of_lt_of_le hb hg5.size, (hg5.cell_far ⟨_, _, none⟩ hb (fun q => hXE (by simpa [Value.ownBlock] using q))).trans hc⟩
              refine hK.out _ _ (HS.out _ hB5) (fun hHeld => ?_)
              clear hK K hHeld hB hE hg5 hX hXE
              have hB := hB5
              clear hB5
              have hX := hX5
              clear hX5
              refine wpAnyH_ready (rs := [6]) (by kernel_rfl) (by simp) ?_
              refine AllReadyH.cons rfl (fun K hK => ?_) AllReadyH.nil
              refine step_append_recs _ (by rfl) cellsC_len (.tmp 65) (.tmp 67) 23 (by rfl) 57 Tryd.underlying23 chg_info rfl (by omega) (by omega) W.heap.size _ L (by rfl) hO _ _ _ _ [ChgT.mk tick edge time] (by rfl) (by rfl) (by simp) hX (fun y _ => cellsC_one y) (by simp; omega) hB.size ?_
              intro v6 w6 hO6 hg6
              have hB6 := hB.grown hg6 hB.size (fun j hj => OwnR.ge_base hO j hj)
              refine hK.out _ _ (HS.out _ hB6) (fun hHeld => ?_)
              clear hK K hHeld
              obtain ⟨A6, c6, rfl, hsl6⟩ := OwnR.sl hO6
              have hHeld := HS.out _ hB6
              refine wpAnyH_take (i := 7) (v := .pointer (some ⟨rb, 1, none⟩)) rfl (by kernel_rfl) (by kernel_rfl) (by kernel_rfl) (fun _ _ _ h => h) (Or.inl ⟨by rfl, ?_⟩) (by assumption) ?_
              · intro w hSw
                obtain ⟨s1, s2, s3⟩ := HSU.out w hSw
                go_simp
              clear hHeld
              refine wpAnyH_ready (rs := [8]) (by kernel_rfl) (by simp) ?_
              refine AllReadyH.cons rfl (fun K hK => ?_) AllReadyH.nil
              have r0 := HLD.out _ hB6
              have r1 := HLF.out _ hB6
              go_simp
              refine hK.out _ _ (HSS.out _ _ hB6) (fun hHeld => ?_)
              clear hK K
              refine wpAnyH_done (by kernel_rfl) ?_ _
              go_wp2_with fail
              go_meet
              case rel => exact ⟨rfl, HMID.out _ _ _ hO6 hB6⟩
        case rest =>
          obtain ⟨rfl, A6, c6, p0, p1, ⟨u0, p2⟩, ⟨u1, p3⟩, p4, p5, p6, p7, p8, p9, p10⟩ := hcut
          have hro : rb ≠ ob := by have := HRB.out; have := HOB.out; omega
          have HP6 := Lib.hid p6
          have HP7 := Lib.hid p7
          have HP8 := Lib.hid p8
          have HP9 := Lib.hid p9
          have hobz : w.heap.size ≤ ob := by have := HOB.out; omega
          have p0' : wc.cell? ⟨rb, 0, none⟩ = some (.slice FA m fc) := by rw [HM.out]; exact p0
          clear p6 p7 p8 p9 p0
          go_wp2_with fail
          refine bodyPost_ret (v := .tuple #[.agg #[.slice FA m fc, .slice A6 (L.length + 1) c6], .int .i64 0]) (by simp [results, Tryd.results22, go_sem, p2, p3]) rfl ?_
          refine HRES.out _ A6 c6 ?_ HP7.out (fun b o e => by have := HP8.out b o e; omega) ((HP9.out.setCell (p := ⟨ob, 0, none⟩) hobz _).setCell (p := ⟨ob, 0 + 1, none⟩) hobz _)
          intro j u hj
          obtain ⟨b, o, e, hb, hc⟩ := HP6.out j u hj
          have hge := HP8.out b o e
          have := HOB.out
          refine ⟨b, o, e, by simpa using hb, ?_⟩
          exact (World.cell?_setCell_other _ _ ⟨b, o + j, none⟩ _ (fun q => by injection q with q; omega)).trans ((World.cell?_setCell_other _ _ ⟨b, o + j, none⟩ _ (fun q => by injection q with q; omega)).trans hc)
theorem put_any (w : World) {E : List EdgeT} {L : List ChgT} {FA LA : Option Addr} {lc : Nat} (h : RoadsAt w E L FA LA lc) (fc : Nat) (c : ChgT) (hl : L.length ≤ 100000) :
    Calls Tryd.prog 22 #[.agg #[.slice FA E.length fc, .slice LA L.length lc], .agg #[.int .i64 c.tick, .int .i64 c.edge, .int .i64 c.time]] w (RetPut w E L FA fc LA c) := by
  by_cases hok : okC E.length c
  · exact put_good w h fc c hok hl
  · exact put_bad w h fc c hok
end Go.Proofs.YtppbmnlneoinhaaDoor
