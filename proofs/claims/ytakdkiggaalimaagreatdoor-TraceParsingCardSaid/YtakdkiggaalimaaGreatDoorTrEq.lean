/-
  trace.equalActions, trace.equalEvents (printed by gentreq.py).
-/
import Derived.Test.YtakdkiggaalimaaGreatDoorTrEI
namespace Go.Proofs.YtakdkiggaalimaaGreatDoor
open Go.RowKit Go.Maps
open Go.Lib (itoa)

theorem actc_iff (a b : ActM) : a.con = b.con ↔ a.kind = b.kind ∧ a.who = b.who ∧ a.n = b.n ∧ a.call = b.call ∧ a.other = b.other ∧ a.node = b.node ∧ a.srcs.map SrcM.con = b.srcs.map SrcM.con ∧ a.groups = b.groups := by
  unfold ActM.con
  simp
theorem ord_iff (a b : OrdC) : a = b ↔ a.unit = b.unit ∧ a.epoch = b.epoch ∧ a.kind = b.kind ∧ a.incident = b.incident ∧ a.node = b.node := by
  cases a
  cases b
  simp
theorem sta_iff (a b : StaC) : a = b ↔ a.unit = b.unit ∧ a.seq = b.seq ∧ a.state = b.state ∧ a.node = b.node ∧ a.epoch = b.epoch := by
  cases a
  cases b
  simp
theorem evc_iff (a b : EvM) : a.con = b.con ↔ a.kind = b.kind ∧ a.tick = b.tick ∧ a.who = b.who ∧ a.call = b.call ∧ a.epoch = b.epoch ∧ a.n = b.n ∧ a.eterm = b.eterm ∧ a.ekind = b.ekind ∧ a.ebody = b.ebody ∧ a.ord.unit = b.ord.unit ∧ a.ord.epoch = b.ord.epoch ∧ a.ord.kind = b.ord.kind ∧ a.ord.incident = b.ord.incident ∧ a.ord.node = b.ord.node ∧ a.sta.unit = b.sta.unit ∧ a.sta.seq = b.sta.seq ∧ a.sta.state = b.sta.state ∧ a.sta.node = b.sta.node ∧ a.sta.epoch = b.sta.epoch ∧ a.act.con = b.act.con ∧ a.bytes = b.bytes := by
  unfold EvM.con
  simp only [EvC.mk.injEq, ord_iff, sta_iff, and_assoc]
theorem two_boxes (w : World) (cs ds : List Value) (t s : TypeId) : ∀ X, X = (w.alloc (.cells cs.toArray t)).alloc (.cells ds.toArray s) → (∀ j u, cs[j]? = some u → X.cell? ⟨w.heap.size, j, none⟩ = some u) ∧ (∀ j u, ds[j]? = some u → X.cell? ⟨w.heap.size + 1, j, none⟩ = some u) ∧ Below w.heap.size w X ∧ w.heap.size + 1 < X.heap.size := by
  rintro X rfl
  have e : (w.alloc (.cells cs.toArray t)).heap.size = w.heap.size + 1 := by simp
  refine ⟨fun j u h => ?_, fun j u h => ?_, ((Below.refl _ _).alloc (Nat.le_refl _) _).alloc (by simp) _, by simp⟩
  · rw [World.cell?_alloc_lt _ _ ⟨w.heap.size, j, none⟩ (by rw [e]; exact Nat.lt_succ_self _), new_cell]
    simpa using h
  · have h1 := new_cell (w.alloc (.cells cs.toArray t)) ds.toArray s j
    rw [e] at h1
    rw [h1]
    simpa using h
set_option maxRecDepth 100000 in
set_option maxHeartbeats 8000000 in
theorem eqAct_any (a b : ActM) (w : World) (BA BB : Nat) (ha : ActAt w BA a) (hb : ActAt w BB b) (hA : BA ≤ w.heap.size) (hB : BB ≤ w.heap.size) (ns : a.srcs.length ≤ 9223372036854775807) (nn : ∀ s ∈ a.srcs, s.nodes.length ≤ 9223372036854775807) (ng : a.groups.length ≤ 9223372036854775807) :
    Calls Tryz.prog 71 #[actV a, actV b] w fun e w' => e = .returned (.bool (tb (a.con = b.con))) ∧ Below w.heap.size w w' := by
  rw [tb_iff (actc_iff a b)]
  obtain ⟨W1, hW1⟩ : ∃ W1, W1 = (w.alloc (.cells (actCs a).toArray 33)).alloc (.cells (actCs b).toArray 33) := ⟨_, rfl⟩
  obtain ⟨h1, h2, hb1, hz1⟩ := two_boxes w (actCs a) (actCs b) 33 33 W1 hW1
  have HB1 := Lib.hid hb1
  have HZ0 := Lib.hid (show w.heap.size < W1.heap.size by omega)
  have HZ1 := Lib.hid hz1
  have HP6 := Lib.hid (And.intro (h1 6 _ rfl) (h2 6 _ rfl))
  have HP7 := Lib.hid (And.intro (h1 7 _ rfl) (h2 7 _ rfl))
  have HAB := Lib.hid (And.intro (ha.below (hb1.mono hA)) (And.intro (hb.below (hb1.mono hB)) (And.intro hb1.size (And.intro hA hB))))
  have HC6 : Hid (∀ X, Below W1.heap.size W1 X → Calls Tryz.prog 88 #[.slice a.sA a.srcs.length a.sc, .slice b.sA b.srcs.length b.sc, .func (.func 86) #[] #[]] X fun e w' => e = .returned (.bool (tb (a.srcs.map SrcM.con = b.srcs.map SrcM.con))) ∧ Below X.heap.size X w') := Lib.hid (fun X hX => by
    have hs := hX.size
    exact equalS_any a.sA b.sA a.sc b.sc a.srcs b.srcs X ((HAB.out.1.srcs.below (hX.mono (Nat.le_trans HAB.out.2.2.2.1 HAB.out.2.2.1))).more (by have := HAB.out.2.2; omega)) ((HAB.out.2.1.srcs.below (hX.mono (Nat.le_trans HAB.out.2.2.2.2 HAB.out.2.2.1))).more (by have := HAB.out.2.2; omega)) ns nn)
  have HC7 : Hid (∀ X, Below W1.heap.size W1 X → Calls Tryz.prog 87 #[.slice a.gA a.groups.length a.gc, .slice b.gA b.groups.length b.gc] X fun e w' => e = .returned (.bool (tb (a.groups = b.groups))) ∧ Below X.heap.size X w') := Lib.hid (fun X hX => by
    have hs := hX.size
    refine (equalI_any a.gA b.gA a.gc b.gc a.groups b.groups X BA BB (Sl.below HAB.out.1.groups (hX.mono (Nat.le_trans HAB.out.2.2.2.1 HAB.out.2.2.1))) (Sl.below HAB.out.2.1.groups (hX.mono (Nat.le_trans HAB.out.2.2.2.2 HAB.out.2.2.1))) ng).mono ?_
    rintro e w' ⟨rfl, n, rfl⟩
    exact ⟨rfl, below_dr (Below.refl _ _) n⟩)
  have p0 := h1 0 _ rfl
  have q0 := h2 0 _ rfl
  have p1 := h1 1 _ rfl
  have q1 := h2 1 _ rfl
  have p2 := h1 2 _ rfl
  have q2 := h2 2 _ rfl
  have p3 := h1 3 _ rfl
  have q3 := h2 3 _ rfl
  have p4 := h1 4 _ rfl
  have q4 := h2 4 _ rfl
  have p5 := h1 5 _ rfl
  have q5 := h2 5 _ rfl
  have p6 := h1 6 _ rfl
  have q6 := h2 6 _ rfl
  have p7 := h1 7 _ rfl
  have q7 := h2 7 _ rfl
  unfold actCs at hW1
  unfold actV
  clear hb1 hz1 h1 h2 ha hb hA hB ns nn ng
  by_cases g0 : a.kind = b.kind
  · have e0 : (a.kind == b.kind) = true := by simp [g0]
    have H0 := Lib.hid g0
    clear g0
    by_cases g1 : a.who = b.who
    · have e1 : (a.who == b.who) = true := by simp [g1]
      have H1 := Lib.hid g1
      clear g1
      by_cases g2 : a.n = b.n
      · have e2 : (a.n == b.n) = true := by simp [g2]
        have H2 := Lib.hid g2
        clear g2
        by_cases g3 : a.call = b.call
        · have e3 : (a.call == b.call) = true := by simp [g3]
          have H3 := Lib.hid g3
          clear g3
          by_cases g4 : a.other = b.other
          · have e4 : (a.other == b.other) = true := by simp [g4]
            have H4 := Lib.hid g4
            clear g4
            by_cases g5 : a.node = b.node
            · have e5 : (a.node == b.node) = true := by simp [g5]
              have H5 := Lib.hid g5
              clear g5
              by_cases g6 : a.srcs.map SrcM.con = b.srcs.map SrcM.con
              · rw [tb_true g6] at HC6
                have H6 := Lib.hid g6
                clear g6
                by_cases g7 : a.groups = b.groups
                · rw [tb_true g7] at HC7
                  have H7 := Lib.hid g7
                  clear g7
                  go_enter Tryz.func71, Tryz.ntmps71
                  go_wp2_with fail
                  rw [← hW1]
                  clear hW1
                  refine (HC6.out _ (Below.refl _ _)).mono ?_
                  rintro e V0 ⟨rfl, hbv⟩
                  have HBW0 := Lib.hid (show Below W1.heap.size W1 V0 from hbv)
                  clear hbv
                  replace p7 := (HBW0.out.cell (p := ⟨w.heap.size, 7, none⟩) HZ0.out).trans HP7.out.1
                  replace q7 := (HBW0.out.cell (p := ⟨w.heap.size + 1, 7, none⟩) HZ1.out).trans HP7.out.2
                  go_wp2_with fail
                  refine (HC7.out _ HBW0.out).mono ?_
                  rintro e V1 ⟨rfl, hbv⟩
                  have HBW1 := Lib.hid (show Below W1.heap.size W1 V1 from HBW0.out.trans (hbv.mono HBW0.out.size))
                  clear hbv
                  go_wp2_with fail
                  go_ret
                  exact ⟨ret_yes ⟨H0.out, H1.out, H2.out, H3.out, H4.out, H5.out, H6.out, H7.out⟩, HB1.out.trans (HBW1.out.mono HB1.out.size)⟩
                · rw [tb_false g7] at HC7
                  have HN : Hid (¬ (a.kind = b.kind ∧ a.who = b.who ∧ a.n = b.n ∧ a.call = b.call ∧ a.other = b.other ∧ a.node = b.node ∧ a.srcs.map SrcM.con = b.srcs.map SrcM.con ∧ a.groups = b.groups)) := fun h => g7 h.2.2.2.2.2.2.2
                  clear g7
                  go_enter Tryz.func71, Tryz.ntmps71
                  go_wp2_with fail
                  rw [← hW1]
                  clear hW1
                  refine (HC6.out _ (Below.refl _ _)).mono ?_
                  rintro e V0 ⟨rfl, hbv⟩
                  have HBW0 := Lib.hid (show Below W1.heap.size W1 V0 from hbv)
                  clear hbv
                  replace p7 := (HBW0.out.cell (p := ⟨w.heap.size, 7, none⟩) HZ0.out).trans HP7.out.1
                  replace q7 := (HBW0.out.cell (p := ⟨w.heap.size + 1, 7, none⟩) HZ1.out).trans HP7.out.2
                  go_wp2_with fail
                  refine (HC7.out _ HBW0.out).mono ?_
                  rintro e V1 ⟨rfl, hbv⟩
                  have HBW1 := Lib.hid (show Below W1.heap.size W1 V1 from HBW0.out.trans (hbv.mono HBW0.out.size))
                  clear hbv
                  go_wp2_with fail
                  go_ret
                  exact ⟨ret_no HN.out, HB1.out.trans (HBW1.out.mono HB1.out.size)⟩
              · rw [tb_false g6] at HC6
                have HN : Hid (¬ (a.kind = b.kind ∧ a.who = b.who ∧ a.n = b.n ∧ a.call = b.call ∧ a.other = b.other ∧ a.node = b.node ∧ a.srcs.map SrcM.con = b.srcs.map SrcM.con ∧ a.groups = b.groups)) := fun h => g6 h.2.2.2.2.2.2.1
                clear g6
                go_enter Tryz.func71, Tryz.ntmps71
                go_wp2_with fail
                rw [← hW1]
                clear hW1
                refine (HC6.out _ (Below.refl _ _)).mono ?_
                rintro e V0 ⟨rfl, hbv⟩
                have HBW0 := Lib.hid (show Below W1.heap.size W1 V0 from hbv)
                clear hbv
                go_wp2_with fail
                go_ret
                exact ⟨ret_no HN.out, HB1.out.trans (HBW0.out.mono HB1.out.size)⟩
            · have e5 : (a.node == b.node) = false := by simp [g5]
              have HN : Hid (¬ (a.kind = b.kind ∧ a.who = b.who ∧ a.n = b.n ∧ a.call = b.call ∧ a.other = b.other ∧ a.node = b.node ∧ a.srcs.map SrcM.con = b.srcs.map SrcM.con ∧ a.groups = b.groups)) := fun h => g5 h.2.2.2.2.2.1
              clear g5
              go_enter Tryz.func71, Tryz.ntmps71
              go_wp2_with fail
              rw [← hW1]
              clear hW1
              go_ret
              exact ⟨ret_no HN.out, HB1.out⟩
          · have e4 : (a.other == b.other) = false := by simp [g4]
            have HN : Hid (¬ (a.kind = b.kind ∧ a.who = b.who ∧ a.n = b.n ∧ a.call = b.call ∧ a.other = b.other ∧ a.node = b.node ∧ a.srcs.map SrcM.con = b.srcs.map SrcM.con ∧ a.groups = b.groups)) := fun h => g4 h.2.2.2.2.1
            clear g4
            go_enter Tryz.func71, Tryz.ntmps71
            go_wp2_with fail
            rw [← hW1]
            clear hW1
            go_ret
            exact ⟨ret_no HN.out, HB1.out⟩
        · have e3 : (a.call == b.call) = false := by simp [g3]
          have HN : Hid (¬ (a.kind = b.kind ∧ a.who = b.who ∧ a.n = b.n ∧ a.call = b.call ∧ a.other = b.other ∧ a.node = b.node ∧ a.srcs.map SrcM.con = b.srcs.map SrcM.con ∧ a.groups = b.groups)) := fun h => g3 h.2.2.2.1
          clear g3
          go_enter Tryz.func71, Tryz.ntmps71
          go_wp2_with fail
          rw [← hW1]
          clear hW1
          go_ret
          exact ⟨ret_no HN.out, HB1.out⟩
      · have e2 : (a.n == b.n) = false := by simp [g2]
        have HN : Hid (¬ (a.kind = b.kind ∧ a.who = b.who ∧ a.n = b.n ∧ a.call = b.call ∧ a.other = b.other ∧ a.node = b.node ∧ a.srcs.map SrcM.con = b.srcs.map SrcM.con ∧ a.groups = b.groups)) := fun h => g2 h.2.2.1
        clear g2
        go_enter Tryz.func71, Tryz.ntmps71
        go_wp2_with fail
        rw [← hW1]
        clear hW1
        go_ret
        exact ⟨ret_no HN.out, HB1.out⟩
    · have e1 : (a.who == b.who) = false := by simp [g1]
      have HN : Hid (¬ (a.kind = b.kind ∧ a.who = b.who ∧ a.n = b.n ∧ a.call = b.call ∧ a.other = b.other ∧ a.node = b.node ∧ a.srcs.map SrcM.con = b.srcs.map SrcM.con ∧ a.groups = b.groups)) := fun h => g1 h.2.1
      clear g1
      go_enter Tryz.func71, Tryz.ntmps71
      go_wp2_with fail
      rw [← hW1]
      clear hW1
      go_ret
      exact ⟨ret_no HN.out, HB1.out⟩
  · have e0 : (a.kind == b.kind) = false := by simp [g0]
    have HN : Hid (¬ (a.kind = b.kind ∧ a.who = b.who ∧ a.n = b.n ∧ a.call = b.call ∧ a.other = b.other ∧ a.node = b.node ∧ a.srcs.map SrcM.con = b.srcs.map SrcM.con ∧ a.groups = b.groups)) := fun h => g0 h.1
    clear g0
    go_enter Tryz.func71, Tryz.ntmps71
    go_wp2_with fail
    rw [← hW1]
    clear hW1
    go_ret
    exact ⟨ret_no HN.out, HB1.out⟩
/-- what the comparison of two events asks. -/
structure EqPre (a b : EvM) (w : World) (BA BB : Nat) : Prop where
  ha : EvAt w BA a
  hb : EvAt w BB b
  hA : BA ≤ w.heap.size
  hB : BB ≤ w.heap.size
  ns : a.act.srcs.length ≤ 9223372036854775807
  nn : ∀ s ∈ a.act.srcs, s.nodes.length ≤ 9223372036854775807
  ng : a.act.groups.length ≤ 9223372036854775807
end Go.Proofs.YtakdkiggaalimaaGreatDoor
