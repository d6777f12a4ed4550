/-
  samaritanlaw38.DispatchReserve: the walk.
-/
import Derived.Test.YtimijjhdgihobaaDoorMre
import Derived.Test.YtimijjhdgihobaaDoorDtQq
import Derived.Test.YtimijjhdgihobaaDoorMrf
import Derived.Test.YtimijjhdgihobaaDoorMapBq
import Derived.Test.YtimijjhdgihobaaDoorMqzc
namespace Go.Proofs.YtimijjhdgihobaaDoor
section
open Go.RowKit Go.Maps

theorem bool_zeroR (w : World) : (zeroValue 4).run Tryd.prog w = .ok (.bool false) w := by kernel_rfl
open Classical in
/-- the IDs of those who stay, among the first k. -/
noncomputable def staysS (rsv : Int) (us : List UnitT) (k : Nat) (v : Value) : Bool := decide (∃ (j : Nat) (u : UnitT), j < k ∧ StayU rsv us j u ∧ v = .int .i64 u.id)
open Classical in
theorem staysS_zero (rsv : Int) (us : List UnitT) : (fun _ : Value => false) = staysS rsv us 0 := by
  funext v
  unfold staysS
  symm
  rw [decide_eq_false_iff_not]
  rintro ⟨j, _, hj, _⟩
  omega
open Classical in
theorem staysS_put {rsv : Int} {us : List UnitT} {k : Nat} {u : UnitT} (h : StayU rsv us k u) : updB (staysS rsv us k) (.int .i64 u.id) true = staysS rsv us (k + 1) := by
  funext v
  unfold updB staysS
  split
  · rename_i e
    symm
    rw [decide_eq_true_eq]
    exact ⟨k, u, by omega, h, e⟩
  · rename_i e
    refine decide_eq_decide.2 ⟨fun ⟨j, q, hj, hs, hv⟩ => ⟨j, q, by omega, hs, hv⟩, fun ⟨j, q, hj, hs, hv⟩ => ⟨j, q, ?_, hs, hv⟩⟩
    by_cases hjk : j = k
    · subst hjk
      have := hs.1
      rw [h.1] at this
      injection this with this
      subst this
      exact absurd hv e
    · omega
open Classical in
theorem staysS_skip {rsv : Int} {us : List UnitT} {k : Nat} {u : UnitT} (hu : us[k]? = some u) (h : ¬ StayU rsv us k u) : staysS rsv us k = staysS rsv us (k + 1) := by
  funext v
  unfold staysS
  refine decide_eq_decide.2 ⟨fun ⟨j, q, hj, hs, hv⟩ => ⟨j, q, by omega, hs, hv⟩, fun ⟨j, q, hj, hs, hv⟩ => ⟨j, q, ?_, hs, hv⟩⟩
  by_cases hjk : j = k
  · subst hjk
    have := hs.1
    rw [hu] at this
    injection this with this
    subst this
    exact absurd hs h
  · omega
open Classical in
theorem staysS_no {rsv : Int} {us : List UnitT} {c : ChoT} (h : Harmless rsv us c) (k : Nat) : staysS rsv us k (.int .i64 c.unit) = false := by
  unfold staysS
  rw [decide_eq_false_iff_not]
  rintro ⟨j, u, _, hs, hv⟩
  injection hv with _ hv
  exact h j u hs hv.symm
/-- how many free units of each district there are among the first k. -/
def seenM (us : List UnitT) (k : Nat) (h : Int) : Int := (cntH h (us.take k) : Int)
theorem seenM_zero (us : List UnitT) : (fun _ : Int => (0 : Int)) = seenM us 0 := by
  funext h
  simp [seenM, cntH]
theorem seenM_put {us : List UnitT} {k : Nat} {u : UnitT} (hu : us[k]? = some u) (hs : u.state = 1) : upd (seenM us k) u.home (seenM us k u.home + 1) = seenM us (k + 1) := by
  funext h
  unfold upd seenM
  rw [take_snoc' hu, cntH_snoc]
  by_cases e : h = u.home
  · subst e
    rw [if_pos rfl, if_pos ⟨hs, rfl⟩]
    omega
  · rw [if_neg e, if_neg (fun q => e q.2.symm)]
    omega
theorem seenM_skip {us : List UnitT} {k : Nat} {u : UnitT} (hu : us[k]? = some u) (hs : u.state ≠ 1) : seenM us k = seenM us (k + 1) := by
  funext h
  unfold seenM
  rw [take_snoc' hu, cntH_snoc, if_neg (fun q => hs q.1)]
  omega
theorem seenM_le (us : List UnitT) (k : Nat) (h : Int) : 0 ≤ seenM us k h ∧ seenM us k h ≤ (us.length : Int) := by
  unfold seenM
  have h1 := cntH_le h (us.take k)
  have h2 : (us.take k).length ≤ us.length := by rw [List.length_take]; omega
  omega
set_option maxRecDepth 100000 in
set_option maxHeartbeats 16000000 in
theorem reserve_any (w : World) (s : StT) (hs : StIn w w.heap.size s) (hw : StWf s) (hr : Ready w) :
    Calls Tryd.prog 4 #[.agg #[.int .i64 s.z, .slice s.eA s.E.length s.ec, .slice s.tA s.ts.length s.tc, .slice s.iA s.xs.length s.ic, .slice s.uA s.us.length s.uc, .slice s.pA s.ps.length s.pc, .int .i64 s.rsv]] w fun e w' => e = .returned (.bool true) ∧ Below w.heap.size w w' := by
  obtain ⟨W, hW⟩ : ∃ W, W = w.alloc (stObj s) := ⟨_, rfl⟩
  have hbel : Below w.heap.size w W := by rw [hW]; exact (Below.refl _ _).alloc (Nat.le_refl _) _
  have hz : w.heap.size < W.heap.size := by rw [hW]; simp
  have hbx : BoxS w.heap.size s W := by rw [hW]; exact box_new w s
  have HB := Lib.hid hbel
  have HIN := Lib.hid (hs.next hbel)
  have HBX := Lib.hid hbx
  have HWF := Lib.hid hw
  have HR := Lib.hid (hr.below hbel)
  obtain ⟨c0, c1, c2, c3, c4, c5, c6⟩ := hbx
  have HN := Lib.hid (net38_any s W HIN.out hw)
  have hW2 : W = w.alloc (.cells #[.int .i64 s.z, .slice s.eA s.E.length s.ec, .slice s.tA s.ts.length s.tc, .slice s.iA s.xs.length s.ic, .slice s.uA s.us.length s.uc, .slice s.pA s.ps.length s.pc, .int .i64 s.rsv] 30) := hW
  clear hbel hs hw hW hr
  go_enter Tryd.func4, Tryd.ntmps4
  go_upto_region 1 with fail
  rw [← hW2]
  clear hW2
  go_wp2_with fail
  ((with_reducible refine HN.out.mono ?_))
  rintro e w1 (⟨n, p, hn, hf, rfl, hg, hp, hb1⟩ | ⟨rfl, hb1⟩)
  · have HB1 := Lib.hid (HB.out.trans (hb1.mono HB.out.size))
    have hbx1 := HBX.out.below hz hb1
    have HIN1 := Lib.hid (HIN.out.next hb1)
    have HR1 := Lib.hid (HR.out.below hb1)
    have HG := Lib.hid hg
    have HF := Lib.hid hf
    have HOK := Lib.hid (hf.ok hn)
    have HBX1 := Lib.hid hbx1
    have hz1 : w.heap.size < w1.heap.size := Nat.lt_of_lt_of_le hz hb1.size
    clear c0 c1 c2 c3 c4 c5 c6 hn hf hg hp hb1 HN HBX
    obtain ⟨c0, c1, c2, c3, c4, c5, c6⟩ := hbx1
    have hne : ¬ w.heap.size = w1.heap.size := by omega
    have HB2 := HB1
    have HIN2 := HIN1
    have HR2 := HR1
    have HG2 := HG
    have HBX2 := HBX1
    have hz2 := hz1
    clear HB1 HIN1 HR1 HG HBX1 hz1
    obtain ⟨w2, hw2⟩ : ∃ w2, w2 = w1 := ⟨_, rfl⟩
    subst hw2
    go_upto_region 6 with fail
    obtain ⟨W3, hW3⟩ : ∃ W3, W3 = w2.alloc (.cells #[.int .i64 s.z, .slice s.eA s.E.length s.ec, .slice s.tA s.ts.length s.tc, .slice none 0 0, .slice s.uA s.us.length s.uc, .slice s.pA s.ps.length s.pc, .int .i64 s.rsv] 30) := ⟨_, rfl⟩
    have hb23 : Below w2.heap.size w2 W3 := by rw [hW3]; exact below_newH _ _
    have hcp : CopyAt w2.heap.size s w2 (.slice none 0 0) (passI (fun x => decide (3 ≤ x.urg)) s.xs 0) W3 := by
      have hbk := blk_new w2 [.int .i64 s.z, .slice s.eA s.E.length s.ec, .slice s.tA s.ts.length s.tc, .slice none 0 0, .slice s.uA s.us.length s.uc, .slice s.pA s.ps.length s.pc, .int .i64 s.rsv] 30
      have hbk : Blk W3 w2.heap.size 30 [.int .i64 s.z, .slice s.eA s.E.length s.ec, .slice s.tA s.ts.length s.tc, .slice none 0 0, .slice s.uA s.us.length s.uc, .slice s.pA s.ps.length s.pc, .int .i64 s.rsv] := by rw [hW3]; exact hbk
      exact ⟨hb23, hbk.cell (j := 0) rfl, hbk.cell (j := 1) rfl, hbk.cell (j := 2) rfl, hbk.cell (j := 3) rfl, hbk.free 3, hbk.cell (j := 4) rfl, hbk.cell (j := 5) rfl, hbk.cell (j := 6) rfl, OwnR.nil _ _ _, hbk.lt⟩
    have HCP := Lib.hid hcp
    have hbx3 := HBX2.out.below hz2 hb23
    rw [← hW3]
    have hl1 := HWF.out.il
    clear c0 c1 c2 c3 c4 c5 c6 hb23 hcp hW3
    have c3 := hbx3.c3
    clear hbx3
    go_wp2_with fail
    go_loopw [23] (fun iv Y => ∃ (k : Nat) (v : Value), k ≤ s.xs.length ∧ iv = .int .i64 k ∧ CopyAt w2.heap.size s w2 v (passI (fun x => decide (3 ≤ x.urg)) s.xs k) Y) (fun iv _ => s.xs.length - (intOf iv).toNat)
    case atStart => exact ⟨0, _, Nat.zero_le _, rfl, HCP.out⟩
    case round =>
      clear HCP c3
      obtain ⟨k, v, hk, rfl, hcp⟩ := hrel
      have HCP := Lib.hid hcp
      clear hcp
      by_cases hlt : k < s.xs.length
      · have hlt' : (k : Int) < (s.xs.length : Int) := by omega
        obtain ⟨x, hx⟩ : ∃ x, s.xs[k]? = some x := ⟨_, List.getElem?_eq_getElem hlt⟩
        obtain ⟨b1, o1, hA1, hb1, q0, q1, q2, q3, q4, q5, q6, q7, q8, q9⟩ := inc_at (HIN2.out.i.below HCP.out.below) hx
        obtain ⟨iA, hiA⟩ : ∃ A, A = s.iA := ⟨_, rfl⟩
        rw [← hiA] at hA1 ⊢
        subst hA1
        have HIA := Lib.hid hiA
        have hpl := passI_len (fun x => decide (3 ≤ x.urg)) s.xs k
        have HPS := Lib.hid (passI_succ (p := fun x => decide (3 ≤ x.urg)) hx)
        have HX := Lib.hid hx
        obtain ⟨W0, hW0⟩ : ∃ W0, W0 = wr.alloc (.cells #[.int .i64 x.id, .int .i64 x.urg, .string x.code, .slice x.nA x.nodes.length x.nc, .int .i64 x.dist, .int .i64 x.since, .slice x.cA x.cl x.cc, .slice x.uA x.ul x.uc, .int .i64 x.merged, .bool x.closed] 38) := ⟨_, rfl⟩
        have HC0 : Hid (CopyAt w2.heap.size s w2 v (passI (fun x => decide (3 ≤ x.urg)) s.xs k) W0) := Lib.hid (by rw [hW0]; exact HCP.out.alloc _)
        have hbk : Blk W0 wr.heap.size 38 [.int .i64 x.id, .int .i64 x.urg, .string x.code, .slice x.nA x.nodes.length x.nc, .int .i64 x.dist, .int .i64 x.since, .slice x.cA x.cl x.cc, .slice x.uA x.ul x.uc, .int .i64 x.merged, .bool x.closed] := by rw [hW0]; exact blk_new wr [.int .i64 x.id, .int .i64 x.urg, .string x.code, .slice x.nA x.nodes.length x.nc, .int .i64 x.dist, .int .i64 x.since, .slice x.cA x.cl x.cc, .slice x.uA x.ul x.uc, .int .i64 x.merged, .bool x.closed] 38
        have hbw : b1 < wr.heap.size := Nat.lt_trans hb1 HCP.out.lt
        clear hx hiA
        go_upto_region 9 with fail
        rw [← hW0]
        clear hW0 q0 q1 q2 q3 q4 q5 q6 q7 q8 q9
        have r0 := hbk.cell (j := 0) rfl
        have r1 := hbk.cell (j := 1) rfl
        have r2 := hbk.cell (j := 2) rfl
        have r3 := hbk.cell (j := 3) rfl
        have r4 := hbk.cell (j := 4) rfl
        have r5 := hbk.cell (j := 5) rfl
        have r6 := hbk.cell (j := 6) rfl
        have r7 := hbk.cell (j := 7) rfl
        have r8 := hbk.cell (j := 8) rfl
        have r9 := hbk.cell (j := 9) rfl
        have hw0 : w2.heap.size + 1 ≤ W0.heap.size := HC0.out.lt
        have hv3 := HC0.out.c3
        clear hbk
        by_cases hle : 3 ≤ x.urg
        · have hp1 : (fun x : IncT => decide (3 ≤ x.urg)) x = true := decide_eq_true hle
          have HPF := Lib.hid (fun (g c : Nat) (w' : World) (hg : W0.grownBy w' v.ownBlock) (ho : OwnInc w' (w2.heap.size + 1) 38 (.slice (some ⟨g, 0, none⟩) ((passI (fun x => decide (3 ≤ x.urg)) s.xs k).length + 1) c) (passI (fun x => decide (3 ≤ x.urg)) s.xs k ++ [x])) => (show w'.cell? ⟨w2.heap.size, 3, none⟩ = some v ∧ w'.frozen? ⟨w2.heap.size, 3, none⟩ = false from by
            have hb := (HC0.out.put hg ho).1
            exact ⟨(hb.cell (p := ⟨w2.heap.size, 3, none⟩) (Nat.lt_succ_self _)).trans HC0.out.c3, (hb.frozen (p := ⟨w2.heap.size, 3, none⟩) (Nat.lt_succ_self _)).trans HC0.out.f3⟩))
          have HP1 := Lib.hid hp1
          clear hp1
          go_wp2_with (at_builtin; refine wpList_append_recL _ rfl (.tmp 31) (.tmp 33) 26 rfl (w2.heap.size + 1) 38 Tryd.underlying26 inc_info rfl (by omega) (by omega) cellsI_len v (passI (fun x => decide (3 ≤ x.urg)) s.xs k) W0 x (cellsI_one _) _ rfl rfl rfl HC0.out.own _ rfl rfl (by have := hl1; have := HOK.out.hl; omega) hw0 ?_; intro g cap w' hown' hg' hat'; obtain ⟨hc', hf'⟩ := HPF.out g cap w' hg' hown')
          go_roundw
          case rel =>
            refine ⟨k + 1, .slice (some ⟨g, 0, none⟩) ((passI (fun x => decide (3 ≤ x.urg)) s.xs k).length + 1) cap, by omega, by go_num, ?_⟩
            have h2 := (HC0.out.put hg' hown').2
            rw [HPS.out, if_pos HP1.out]
            exact h2
          case measure => simp [intOf]; omega
        · have hp1 : (fun x : IncT => decide (3 ≤ x.urg)) x = false := decide_eq_false hle
          have HP1 := Lib.hid hp1
          clear hp1
          go_wp2_with fail
          go_roundw
          case rel =>
            refine ⟨k + 1, v, by omega, by go_num, ?_⟩
            rw [HPS.out, if_neg (by have := HP1.out; simp only at this; rw [this]; decide)]
            exact HC0.out
          case measure => simp [intOf]; omega
      · obtain rfl : k = s.xs.length := by omega
        have hcp := HCP.out
        rw [passI_all] at hcp
        obtain ⟨ys, hys⟩ : ∃ ys, ys = s.xs.filter (fun x => decide (3 ≤ x.urg)) := ⟨_, rfl⟩
        rw [← hys] at hcp
        have hsub : ∀ y ∈ ys, y ∈ s.xs := fun y hy => by rw [hys] at hy; exact (List.mem_filter.1 hy).1
        have hyl : ys.length ≤ s.xs.length := by rw [hys]; exact List.length_filter_le _ _
        obtain ⟨A7, c7, rfl, hr7⟩ := hcp.own.sl
        have hn7 : A7 = none → c7 = 0 := hcp.own.caps.2.2.2
        have hb2r := hcp.below
        have hbx3 := HBX2.out.below hz2 hb2r
        have HCY := Lib.hid hcp
        have HSUB := Lib.hid (And.intro hsub (And.intro hyl (And.intro hr7 hn7)))
        have HRY := Lib.hid (HR2.out.below hb2r)
        have HBY := Lib.hid (HB2.out.trans (hb2r.mono HB2.out.size))
        have HINY := Lib.hid (HIN2.out.next hb2r)
        have HYS := Lib.hid hys
        have hzY : w.heap.size < wr.heap.size := Nat.lt_of_lt_of_le hz2 hb2r.size
        have HBXY := Lib.hid hbx3
        obtain ⟨wY, hwY⟩ : ∃ w', w' = wr := ⟨_, rfl⟩
        subst hwY
        have hmm := @run_makeMap Tryd.prog
        clear hcp hsub hyl hr7 hn7 hb2r hys HCP hbx3
        go_upto_region 14 with fail
        clear hmm
        obtain ⟨W5, hW5⟩ : ∃ W5, W5 = (wY.alloc (.map #[] 0)).alloc (.map #[] 0) := ⟨_, rfl⟩
        have HM0 : Hid (Below wY.heap.size wY W5 ∧ MapI Tryd.prog 3 3 W5 wY.heap.size 0 (seenM s.us 0) ∧ MapB Tryd.prog 3 4 W5 (wY.heap.size + 1) 0 (staysS s.rsv s.us 0)) := Lib.hid (by
          rw [hW5, ← seenM_zero, ← staysS_zero]
          refine ⟨(below_newH wY _).trans ((below_newH (wY.alloc (.map #[] 0)) _).mono (by simp)), MapI.made.alloc _, ?_⟩
          have h := MapB.made (P := Tryd.prog) (k := 3) (e := 4) (w := wY.alloc (.map #[] 0))
          have e : (wY.alloc (.map #[] 0)).heap.size = wY.heap.size + 1 := by simp
          rw [e] at h
          exact h)
        have hbx5 := HBXY.out.below hzY HM0.out.1
        have c4 := hbx5.c4
        rw [← hW5]
        clear hW5 hbx5
        go_wp2_with fail
        go_loopw [42] (fun iv Y => ∃ k : Nat, k ≤ s.us.length ∧ iv = .int .i64 k ∧ Below wY.heap.size wY Y ∧ MapI Tryd.prog 3 3 Y wY.heap.size k (seenM s.us k) ∧ MapB Tryd.prog 3 4 Y (wY.heap.size + 1) k (staysS s.rsv s.us k)) (fun iv _ => s.us.length - (intOf iv).toNat)
        case atStart => exact ⟨0, Nat.zero_le _, rfl, HM0.out⟩
        case round =>
          clear HM0 c4
          obtain ⟨k, hk, rfl, hb, hmi, hmb⟩ := hrel
          by_cases hlt : k < s.us.length
          · have hlt' : (k : Int) < (s.us.length : Int) := by omega
            obtain ⟨u, hu⟩ : ∃ u, s.us[k]? = some u := ⟨_, List.getElem?_eq_getElem hlt⟩
            obtain ⟨b1, o1, hA1, hb1, q0, q1, q2, q3, q4, q5, q6, q7, q8, q9⟩ := unit_at (HINY.out.u.below hb) hu
            obtain ⟨uA, huA⟩ : ∃ A, A = s.uA := ⟨_, rfl⟩
            rw [← huA] at hA1 ⊢
            subst hA1
            have HUA := Lib.hid huA
            have huw := HWF.out.uw u (List.mem_of_getElem? hu)
            have hwh := huw.home
            have hid := HF.out.ids u (List.mem_of_getElem? hu)
            have hwi : (Lit.int .i64 u.id).wf = true := WalkArith.wf_i64 (by omega)
            have hsz := hb.size
            have hbx6 := HBXY.out.below hzY hb
            have HBK := Lib.hid hb
            obtain ⟨W0, hW0⟩ : ∃ W0, W0 = wr.alloc (.cells #[.int .i64 u.id, .int .i64 u.kind, .int .i64 u.home, .int .i64 u.state, .int .i64 u.node, .int .i64 u.seq, .int .i64 u.heard, .int .i64 u.inc, .int .i64 u.epoch, .int .i64 u.acked] 44) := ⟨_, rfl⟩
            have hbk : Blk W0 wr.heap.size 44 [.int .i64 u.id, .int .i64 u.kind, .int .i64 u.home, .int .i64 u.state, .int .i64 u.node, .int .i64 u.seq, .int .i64 u.heard, .int .i64 u.inc, .int .i64 u.epoch, .int .i64 u.acked] := by rw [hW0]; exact blk_new wr [.int .i64 u.id, .int .i64 u.kind, .int .i64 u.home, .int .i64 u.state, .int .i64 u.node, .int .i64 u.seq, .int .i64 u.heard, .int .i64 u.inc, .int .i64 u.epoch, .int .i64 u.acked] 44
            have hb0 : Below wY.heap.size wY W0 := by rw [hW0]; exact hb.alloc hsz _
            have hmi0 : MapI Tryd.prog 3 3 W0 wY.heap.size k (seenM s.us k) := by rw [hW0]; exact hmi.alloc _
            have hmb0 : MapB Tryd.prog 3 4 W0 (wY.heap.size + 1) k (staysS s.rsv s.us k) := by rw [hW0]; exact hmb.alloc _
            have hc6 : W0.cell? ⟨w.heap.size, 6, none⟩ = some (.int .i64 s.rsv) := by rw [hW0]; exact (World.cell?_alloc_lt wr _ ⟨w.heap.size, 6, none⟩ (by simp only; omega)).trans hbx6.c6
            have hbw : b1 < wr.heap.size := by omega
            have hM1 : wY.heap.size < wr.heap.size := hmi.lt
            have hM2 : wY.heap.size + 1 < wr.heap.size := hmb.lt
            have HGC := Lib.hid (fun (w1 : World) (hg : W0.grownBy w1 (some (wY.heap.size + 1))) => (show w1.cell? ⟨wr.heap.size, 2, none⟩ = some (.int .i64 u.home) from (grown_cell hg (a := ⟨wr.heap.size, 2, none⟩) hbk.lt (fun e => by injection e with e; simp only at e; omega)).trans (hbk.cell (j := 2) rfl)))
            have HU := Lib.hid hu
            have HB0 := Lib.hid hb0
            clear hu huA hb hmi hmb huw hbx6 hb0
            go_upto_region 17 with fail
            rw [← hW0]
            clear hW0 q0 q1 q2 q3 q4 q5 q6 q7 q8 q9
            have r0 := hbk.cell (j := 0) rfl
            have r2 := hbk.cell (j := 2) rfl
            have r3 := hbk.cell (j := 3) rfl
            clear hbk
            have hul := HF.out.small.2.1
            by_cases hst : u.state = 1
            · have ds : (u.state == 1) = true := by simp [hst]
              obtain ⟨sq, hsq⟩ : ∃ sq, sq = seenM s.us k u.home := ⟨_, rfl⟩
              have hsl := seenM_le s.us k u.home
              rw [← hsq] at hsl
              have hwq : IntKind.i64.wrap (sq + 1) = sq + 1 := IntWalk.i64_in _ (by omega)
              have HSQ := Lib.hid hsq
              have HST := Lib.hid hst
              clear hst hsq
              by_cases hq : sq < s.rsv
              · have HSTAY : Hid (StayU s.rsv s.us k u) := Lib.hid ⟨HU.out, HST.out, by have := HSQ.out; unfold seenM at this; omega⟩
                go_wp2_with (first
                  | (at_lookup; refine wpList_look_int _ rfl _ _ 41 rfl 3 3 Tryd.underlying3 Tryd.underlying41 Tryd.underlying3 (int_zero' _) wY.heap.size k _ rfl (by first | exact hmi1 | exact hmi0) u.home rfl hwh ?_; rw [← HSQ.out]; intro q hq'; subst hq')
                  | (at_mapUpdate; refine wpList_put_bool _ rfl _ _ _ 42 rfl 3 4 (int_keyed Tryd.underlying3) Tryd.underlying42 Tryd.underlying4 (wY.heap.size + 1) k _ rfl hmb0 (by omega) (.int .i64 u.id) true rfl rfl ⟨_, keyOf_int_mk Tryd.underlying3 hwi⟩ ?_; intro w5 hmb1 hg1; have hmi1 := hmi0.kept hg1 (by intro e; injection e with e; omega); have r2' := HGC.out w5 hg1)
                  | (at_mapUpdate; refine wpList_put_int _ rfl _ _ _ 41 rfl 3 3 Tryd.underlying3 Tryd.underlying41 Tryd.underlying3 wY.heap.size k _ rfl hmi1 (by omega) u.home _ rfl rfl hwh (WalkArith.wf_i64 (by omega)) ?_; intro w6 hmi2 hg2))
                go_roundw
                case rel =>
                  refine ⟨k + 1, by omega, by go_num, (HB0.out.grown hg1 HB0.out.size (fun j hj => by cases hj; omega)).grown hg2 (by have := hg1.size; have := HB0.out.size; omega) (fun j hj => by cases hj; omega), ?_, ?_⟩
                  · rw [← seenM_put HU.out HST.out, ← HSQ.out]
                    exact hmi2
                  · rw [← staysS_put HSTAY.out]
                    exact hmb1.kept hg2 (by intro e; injection e with e; omega)
                case measure => simp [intOf]; omega
              · have HNS : Hid (¬ StayU s.rsv s.us k u) := Lib.hid (fun h => by have := h.2.2; have := HSQ.out; unfold seenM at this; omega)
                go_wp2_with (first
                  | (at_lookup; refine wpList_look_int _ rfl _ _ 41 rfl 3 3 Tryd.underlying3 Tryd.underlying41 Tryd.underlying3 (int_zero' _) wY.heap.size k _ rfl hmi0 u.home rfl hwh ?_; rw [← HSQ.out]; intro q hq'; subst hq')
                  | (at_mapUpdate; refine wpList_put_int _ rfl _ _ _ 41 rfl 3 3 Tryd.underlying3 Tryd.underlying41 Tryd.underlying3 wY.heap.size k _ rfl hmi0 (by omega) u.home _ rfl rfl hwh (WalkArith.wf_i64 (by omega)) ?_; intro w6 hmi2 hg2))
                go_roundw
                case rel =>
                  refine ⟨k + 1, by omega, by go_num, HB0.out.grown hg2 HB0.out.size (fun j hj => by cases hj; omega), ?_, ?_⟩
                  · rw [← seenM_put HU.out HST.out, ← HSQ.out]
                    exact hmi2
                  · rw [← staysS_skip HU.out HNS.out]
                    exact (hmb0.kept hg2 (by intro e; injection e with e; omega)).mono (by omega)
                case measure => simp [intOf]; omega
            · have ds : (u.state == 1) = false := by simp [hst]
              have HST := Lib.hid hst
              clear hst
              go_wp2_with fail
              go_roundw
              case rel =>
                refine ⟨k + 1, by omega, by go_num, HB0.out, ?_, ?_⟩
                · rw [← seenM_skip HU.out HST.out]
                  exact hmi0.mono (by omega)
                · rw [← staysS_skip HU.out (fun h => HST.out h.2.1)]
                  exact hmb0.mono (by omega)
              case measure => simp [intOf]; omega
          · obtain rfl : k = s.us.length := by omega
            have hcp := HCY.out.far hb
            have HMB := Lib.hid hmb
            have HIND := Lib.hid (HINY.out.next hb)
            have HGZ := Lib.hid ((HG2.out.below HCY.out.below).more HCY.out.below.size)
            have HS2 : Hid (Calls Tryd.prog 9 #[.pointer (some ⟨p, 0, none⟩), .agg #[.int .i64 s.z, .slice s.eA s.E.length s.ec, .slice s.tA s.ts.length s.tc, .slice A7 ys.length c7, .slice s.uA s.us.length s.uc, .slice s.pA s.ps.length s.pc, .int .i64 s.rsv]] wr (RetAsg wr n s.E s.ts ys s.ps s.rsv s.us)) :=
              Lib.hid (lsend_any (s.lay A7 ys c7) n p wr ((HGZ.out.below hb).more hb.size) (StIn.lay HIND.out ((HSUB.out.2.2.1.below hb).more hb.size) HSUB.out.1) (HWF.out.lay HSUB.out.1 (by have := HSUB.out.2.1; omega) HSUB.out.2.2.2) (HOK.out.lay HSUB.out.1 HSUB.out.2.1))
            have k0 := hcp.c0
            have k1 := hcp.c1
            have k2 := hcp.c2
            have k3 := hcp.c3
            have k4 := hcp.c4
            have k5 := hcp.c5
            have k6 := hcp.c6
            have HBZ := Lib.hid (HBY.out.trans (hb.mono HBY.out.size))
            have HRZ := Lib.hid (HRY.out.below hb)
            clear hcp hb hmi hmb
            obtain ⟨wZ, hwZ⟩ : ∃ w', w' = wr := ⟨_, rfl⟩
            subst hwZ
            go_wp2_with fail
            ((with_reducible refine HS2.out.mono ?_))
            rintro e w4 ⟨v4, cs, us2, rfl, hrun, hown, hcl, hb4⟩
            obtain ⟨A8, c8, rfl, hcs⟩ := hown.sl
            have HHARM : Hid (∀ c ∈ cs, Harmless s.rsv s.us c) := Lib.hid (run_harm HF.out.dist (fun g hg => by
              have hno : ∀ x ∈ ys, 3 ≤ x.urg := fun x hx => by
                rw [HYS.out] at hx
                exact of_decide_eq_true (List.mem_filter.1 hx).2
              simp only [List.mem_cons, List.not_mem_nil, or_false] at hg
              rcases hg with rfl | rfl | rfl | rfl | rfl
              · exact .inr (fun x hx e => by have := hno x hx; omega)
              · exact .inr (fun x hx e => by have := hno x hx; omega)
              · exact .inl (by simp [effR])
              · exact .inl (by simp [effR])
              · exact .inl (by simp [effR])) (SameU.refl _) hrun)
            have HUN : Hid (∀ c ∈ cs, 0 ≤ c.unit ∧ c.unit ≤ 255) := Lib.hid (fun c hc => by
              obtain ⟨j, u, hu, e⟩ := (run_units (SameU.refl _) hrun).2 c hc
              rw [e]
              exact HF.out.ids u (List.mem_of_getElem? hu))
            have HCS := Lib.hid hcs
            have HMB4 := Lib.hid (HMB.out.below hb4)
            have HB4 := Lib.hid (HBZ.out.trans (hb4.mono HBZ.out.size))
            have HR4 := Lib.hid (HRZ.out.below hb4)
            clear hrun hown hcs hb4 k0 k1 k2 k3 k4 k5 k6 HS2
            go_wp2_with fail
            go_loopw [69] (fun iv Y => ∃ i : Nat, i ≤ cs.length ∧ iv = .int .i64 i ∧ Below w4.heap.size w4 Y) (fun iv _ => cs.length - (intOf iv).toNat)
            case atStart => exact ⟨0, Nat.zero_le _, rfl, Below.refl _ _⟩
            case round =>
              obtain ⟨i, hi, rfl, hb⟩ := hrel
              by_cases hli : i < cs.length
              · have hli' : (i : Int) < (cs.length : Int) := by omega
                obtain ⟨c, hc⟩ : ∃ c, cs[i]? = some c := ⟨_, List.getElem?_eq_getElem hli⟩
                obtain ⟨b3, o3, rfl, hb3, x0, x1, x2, x3⟩ := cho_at (HCS.out.below hb) hc
                have hcm := List.mem_of_getElem? hc
                have hcu := HUN.out c hcm
                have hwc : (Lit.int .i64 c.unit).wf = true := WalkArith.wf_i64 (by omega)
                have HNO := Lib.hid (staysS_no (HHARM.out c hcm) s.us.length)
                have hmbY := (HMB4.out.below hb).alloc (.cells #[.int .i64 c.inc, .int .i64 c.kind, .int .i64 c.unit, .int .i64 c.time] 46)
                have HBI := Lib.hid (hb.alloc hb.size (.cells #[.int .i64 c.inc, .int .i64 c.kind, .int .i64 c.unit, .int .i64 c.time] 46))
                clear hc hb hcm
                go_wp2_with (at_lookup; refine wpList_look_bool _ rfl _ _ 42 rfl 3 4 (int_keyed Tryd.underlying3) Tryd.underlying42 Tryd.underlying4 (bool_zeroR _) (wY.heap.size + 1) _ _ rfl hmbY (.int .i64 c.unit) rfl ⟨_, keyOf_int_mk Tryd.underlying3 hwc⟩ ?_; rw [HNO.out]; intro u hu; subst hu)
                go_roundw
                case rel => exact ⟨i + 1, by omega, by go_num, HBI.out⟩
                case measure => simp [intOf]; omega
              · obtain rfl : i = cs.length := by omega
                have HR5 := Lib.hid (HR4.out.below hb)
                have HB5 := Lib.hid (HB4.out.trans (hb.mono HB4.out.size))
                clear hb
                go_wp2_with fail
                ((with_reducible refine (awake38_any _ HR5.out).mono ?_))
                rintro e w6 ⟨rfl, hb6⟩
                have HB6 := Lib.hid (HB5.out.trans (hb6.mono HB5.out.size))
                clear hb6
                go_wp2_with fail
                go_ret
                exact ⟨rfl, HB6.out⟩
  · have HB1 := Lib.hid (HB.out.trans (hb1.mono HB.out.size))
    have HR1 := Lib.hid (HR.out.below hb1)
    clear hb1 HN HBX c0 c1 c2 c3 c4 c5 c6
    go_wp2_with fail
    ((with_reducible refine (awake38_any _ HR1.out).mono ?_))
    rintro e w6 ⟨rfl, hb6⟩
    have HB6 := Lib.hid (HB1.out.trans (hb6.mono HB1.out.size))
    clear hb6
    go_wp2_with fail
    go_ret
    exact ⟨rfl, HB6.out⟩
end
end Go.Proofs.YtimijjhdgihobaaDoor
