/-
  samaritanlaw38.DispatchPriority: the walk.
-/
import Derived.Test.YtimijjhdgihobaaDoorMre
import Derived.Test.YtimijjhdgihobaaDoorMrf
import Derived.Test.YtimijjhdgihobaaDoorMqzc
namespace Go.Proofs.YtimijjhdgihobaaDoor
section
open Go.RowKit Go.Maps

set_option maxRecDepth 100000 in
set_option maxHeartbeats 16000000 in
theorem priority_any (w : World) (s : StT) (hs : StIn w w.heap.size s) (hw : StWf s) (a : Int) (wa : 0 ≤ a ∧ a ≤ 255) (hr : Ready w) :
    Calls Tryd.prog 3 #[.agg #[.int .i64 s.z, .slice s.eA s.E.length s.ec, .slice s.tA s.ts.length s.tc, .slice s.iA s.xs.length s.ic, .slice s.uA s.us.length s.uc, .slice s.pA s.ps.length s.pc, .int .i64 s.rsv], .int .u8 a] w fun e w' => e = .returned (.bool true) ∧ Below w.heap.size w w' := by
  obtain ⟨W, hW⟩ : ∃ W, W = w.alloc (stObj s) := ⟨_, rfl⟩
  have hbel : Below w.heap.size w W := by rw [hW]; exact (Below.refl _ _).alloc (Nat.le_refl _) _
  have hz : w.heap.size < W.heap.size := by rw [hW]; simp
  have hbx : BoxS w.heap.size s W := by rw [hW]; exact box_new w s
  have HB := Lib.hid hbel
  have HIN := Lib.hid (hs.next hbel)
  have HBX := Lib.hid hbx
  have HWF := Lib.hid hw
  have HR := Lib.hid (hr.below hbel)
  obtain ⟨c0, c1, c2, c3, c4, c5, c6⟩ := hbx
  have HN := Lib.hid (net38_any s W HIN.out hw)
  have hW2 : W = w.alloc (.cells #[.int .i64 s.z, .slice s.eA s.E.length s.ec, .slice s.tA s.ts.length s.tc, .slice s.iA s.xs.length s.ic, .slice s.uA s.us.length s.uc, .slice s.pA s.ps.length s.pc, .int .i64 s.rsv] 30) := hW
  clear hbel hs hw hW hr
  go_enter Tryd.func3, Tryd.ntmps3
  go_upto_region 1 with fail
  rw [← hW2]
  clear hW2
  go_wp2_with fail
  ((with_reducible refine HN.out.mono ?_))
  rintro e w1 (⟨n, p, hn, hf, rfl, hg, hp, hb1⟩ | ⟨rfl, hb1⟩)
  · have HB1 := Lib.hid (HB.out.trans (hb1.mono HB.out.size))
    have hbx1 := HBX.out.below hz hb1
    have HIN1 := Lib.hid (HIN.out.next hb1)
    have HR1 := Lib.hid (HR.out.below hb1)
    have HG := Lib.hid hg
    have HF := Lib.hid hf
    have HOK := Lib.hid (hf.ok hn)
    have HBX1 := Lib.hid hbx1
    have hz1 : w.heap.size < w1.heap.size := Nat.lt_of_lt_of_le hz hb1.size
    have HS := Lib.hid (lsend_any s n p w1 hg HIN1.out HWF.out HOK.out)
    obtain ⟨c0, c1, c2, c3, c4, c5, c6⟩ := hbx1
    clear hn hf hg hp hb1 HN HBX
    go_wp2_with fail
    ((with_reducible refine HS.out.mono ?_))
    rintro e w2 ⟨v, cs, us', rfl, hrun, hown, hcl, hb2⟩
    obtain ⟨A6, c6', rfl, hcs⟩ := hown.sl
    have HRUN := Lib.hid hrun
    have HOWN := Lib.hid hown
    have hbx2 := HBX1.out.below hz1 hb2
    have HIN2 := Lib.hid (HIN1.out.next hb2)
    have HR2 := Lib.hid (HR1.out.below hb2)
    have HB2 := Lib.hid (HB1.out.trans (hb2.mono HB1.out.size))
    have HG2 := Lib.hid ((HG.out.below hb2).more hb2.size)
    have HBX2 := Lib.hid hbx2
    have hz2 : w.heap.size < w2.heap.size := Nat.lt_of_lt_of_le hz1 hb2.size
    have hne : ¬ w.heap.size = w2.heap.size := by omega
    clear c0 c1 c2 c3 c4 c5 c6 HS hrun hown hcs hb2 HBX1
    obtain ⟨c0, c1, c2, c3, c4, c5, c6⟩ := hbx2
    obtain ⟨kk, hkk⟩ : ∃ kk, kk = a % 6 := ⟨_, rfl⟩
    have htm : a.tmod 6 = kk := by rw [hkk]; exact Int.tmod_eq_emod_of_nonneg wa.1
    have hwa : IntKind.i64.wrap a = a := IntWalk.i64_in _ (by omega)
    have hwk : IntKind.i64.wrap kk = kk := IntWalk.i64_in _ (by omega)
    have HKK := Lib.hid hkk
    clear hkk
    go_upto_region 7 with fail
    obtain ⟨W3, hW3⟩ : ∃ W3, W3 = w2.alloc (.cells #[.int .i64 s.z, .slice s.eA s.E.length s.ec, .slice s.tA s.ts.length s.tc, .slice none 0 0, .slice s.uA s.us.length s.uc, .slice s.pA s.ps.length s.pc, .int .i64 s.rsv] 30) := ⟨_, rfl⟩
    have hb23 : Below w2.heap.size w2 W3 := by rw [hW3]; exact below_newH _ _
    have hcp : CopyAt w2.heap.size s w2 (.slice none 0 0) (passI (fun x => decide (x.urg ≤ kk)) s.xs 0) W3 := by
      have hbk := blk_new w2 [.int .i64 s.z, .slice s.eA s.E.length s.ec, .slice s.tA s.ts.length s.tc, .slice none 0 0, .slice s.uA s.us.length s.uc, .slice s.pA s.ps.length s.pc, .int .i64 s.rsv] 30
      have hbk : Blk W3 w2.heap.size 30 [.int .i64 s.z, .slice s.eA s.E.length s.ec, .slice s.tA s.ts.length s.tc, .slice none 0 0, .slice s.uA s.us.length s.uc, .slice s.pA s.ps.length s.pc, .int .i64 s.rsv] := by rw [hW3]; exact hbk
      exact ⟨hb23, hbk.cell (j := 0) rfl, hbk.cell (j := 1) rfl, hbk.cell (j := 2) rfl, hbk.cell (j := 3) rfl, hbk.free 3, hbk.cell (j := 4) rfl, hbk.cell (j := 5) rfl, hbk.cell (j := 6) rfl, OwnR.nil _ _ _, hbk.lt⟩
    have HCP := Lib.hid hcp
    have hbx3 := HBX2.out.below hz2 hb23
    rw [← hW3]
    have hl1 := HWF.out.il
    clear c0 c1 c2 c3 c4 c5 c6 hb23 hcp hW3
    have c3 := hbx3.c3
    clear hbx3
    go_wp2_with fail
    go_loopw [24] (fun iv Y => ∃ (k : Nat) (v : Value), k ≤ s.xs.length ∧ iv = .int .i64 k ∧ CopyAt w2.heap.size s w2 v (passI (fun x => decide (x.urg ≤ kk)) s.xs k) Y) (fun iv _ => s.xs.length - (intOf iv).toNat)
    case atStart => exact ⟨0, _, Nat.zero_le _, rfl, HCP.out⟩
    case round =>
      clear HCP c3
      obtain ⟨k, v, hk, rfl, hcp⟩ := hrel
      have HCP := Lib.hid hcp
      clear hcp
      by_cases hlt : k < s.xs.length
      · have hlt' : (k : Int) < (s.xs.length : Int) := by omega
        obtain ⟨x, hx⟩ : ∃ x, s.xs[k]? = some x := ⟨_, List.getElem?_eq_getElem hlt⟩
        obtain ⟨b1, o1, hA1, hb1, q0, q1, q2, q3, q4, q5, q6, q7, q8, q9⟩ := inc_at (HIN2.out.i.below HCP.out.below) hx
        obtain ⟨iA, hiA⟩ : ∃ A, A = s.iA := ⟨_, rfl⟩
        rw [← hiA] at hA1 ⊢
        subst hA1
        have HIA := Lib.hid hiA
        have hpl := passI_len (fun x => decide (x.urg ≤ kk)) s.xs k
        have HPS := Lib.hid (passI_succ (p := fun x => decide (x.urg ≤ kk)) hx)
        have HX := Lib.hid hx
        obtain ⟨W0, hW0⟩ : ∃ W0, W0 = wr.alloc (.cells #[.int .i64 x.id, .int .i64 x.urg, .string x.code, .slice x.nA x.nodes.length x.nc, .int .i64 x.dist, .int .i64 x.since, .slice x.cA x.cl x.cc, .slice x.uA x.ul x.uc, .int .i64 x.merged, .bool x.closed] 38) := ⟨_, rfl⟩
        have HC0 : Hid (CopyAt w2.heap.size s w2 v (passI (fun x => decide (x.urg ≤ kk)) s.xs k) W0) := Lib.hid (by rw [hW0]; exact HCP.out.alloc _)
        have hbk : Blk W0 wr.heap.size 38 [.int .i64 x.id, .int .i64 x.urg, .string x.code, .slice x.nA x.nodes.length x.nc, .int .i64 x.dist, .int .i64 x.since, .slice x.cA x.cl x.cc, .slice x.uA x.ul x.uc, .int .i64 x.merged, .bool x.closed] := by rw [hW0]; exact blk_new wr [.int .i64 x.id, .int .i64 x.urg, .string x.code, .slice x.nA x.nodes.length x.nc, .int .i64 x.dist, .int .i64 x.since, .slice x.cA x.cl x.cc, .slice x.uA x.ul x.uc, .int .i64 x.merged, .bool x.closed] 38
        have hbw : b1 < wr.heap.size := Nat.lt_trans hb1 HCP.out.lt
        clear hx hiA
        go_upto_region 10 with fail
        rw [← hW0]
        clear hW0 q0 q1 q2 q3 q4 q5 q6 q7 q8 q9
        have r0 := hbk.cell (j := 0) rfl
        have r1 := hbk.cell (j := 1) rfl
        have r2 := hbk.cell (j := 2) rfl
        have r3 := hbk.cell (j := 3) rfl
        have r4 := hbk.cell (j := 4) rfl
        have r5 := hbk.cell (j := 5) rfl
        have r6 := hbk.cell (j := 6) rfl
        have r7 := hbk.cell (j := 7) rfl
        have r8 := hbk.cell (j := 8) rfl
        have r9 := hbk.cell (j := 9) rfl
        have hw0 : w2.heap.size + 1 ≤ W0.heap.size := HC0.out.lt
        have hv3 := HC0.out.c3
        clear hbk
        by_cases hle : x.urg ≤ kk
        · have hp1 : (fun x : IncT => decide (x.urg ≤ kk)) x = true := decide_eq_true hle
          have HPF := Lib.hid (fun (g c : Nat) (w' : World) (hg : W0.grownBy w' v.ownBlock) (ho : OwnInc w' (w2.heap.size + 1) 38 (.slice (some ⟨g, 0, none⟩) ((passI (fun x => decide (x.urg ≤ kk)) s.xs k).length + 1) c) (passI (fun x => decide (x.urg ≤ kk)) s.xs k ++ [x])) => (show w'.cell? ⟨w2.heap.size, 3, none⟩ = some v ∧ w'.frozen? ⟨w2.heap.size, 3, none⟩ = false from by
            have hb := (HC0.out.put hg ho).1
            exact ⟨(hb.cell (p := ⟨w2.heap.size, 3, none⟩) (Nat.lt_succ_self _)).trans HC0.out.c3, (hb.frozen (p := ⟨w2.heap.size, 3, none⟩) (Nat.lt_succ_self _)).trans HC0.out.f3⟩))
          have HP1 := Lib.hid hp1
          clear hp1
          go_wp2_with (at_builtin; refine wpList_append_recL _ rfl (.tmp 35) (.tmp 37) 26 rfl (w2.heap.size + 1) 38 Tryd.underlying26 inc_info rfl (by omega) (by omega) cellsI_len v (passI (fun x => decide (x.urg ≤ kk)) s.xs k) W0 x (cellsI_one _) _ rfl rfl rfl HC0.out.own _ rfl rfl (by have := hl1; have := HOK.out.hl; omega) hw0 ?_; intro g cap w' hown' hg' hat'; obtain ⟨hc', hf'⟩ := HPF.out g cap w' hg' hown')
          go_roundw
          case rel =>
            refine ⟨k + 1, .slice (some ⟨g, 0, none⟩) ((passI (fun x => decide (x.urg ≤ kk)) s.xs k).length + 1) cap, by omega, by go_num, ?_⟩
            have h2 := (HC0.out.put hg' hown').2
            rw [HPS.out, if_pos HP1.out]
            exact h2
          case measure => simp [intOf]; omega
        · have hp1 : (fun x : IncT => decide (x.urg ≤ kk)) x = false := decide_eq_false hle
          have HP1 := Lib.hid hp1
          clear hp1
          go_wp2_with fail
          go_roundw
          case rel =>
            refine ⟨k + 1, v, by omega, by go_num, ?_⟩
            rw [HPS.out, if_neg (by have := HP1.out; simp only at this; rw [this]; decide)]
            exact HC0.out
          case measure => simp [intOf]; omega
      · obtain rfl : k = s.xs.length := by omega
        have hcp := HCP.out
        rw [passI_all] at hcp
        obtain ⟨ys, hys⟩ : ∃ ys, ys = s.xs.filter (fun x => decide (x.urg ≤ kk)) := ⟨_, rfl⟩
        rw [← hys] at hcp
        have hsub : ∀ y ∈ ys, y ∈ s.xs := fun y hy => by rw [hys] at hy; exact (List.mem_filter.1 hy).1
        have hyl : ys.length ≤ s.xs.length := by rw [hys]; exact List.length_filter_le _ _
        obtain ⟨A7, c7, rfl, hr7⟩ := hcp.own.sl
        have hn7 : A7 = none → c7 = 0 := hcp.own.caps.2.2.2
        have hb2r := hcp.below
        have HS2 : Hid (Calls Tryd.prog 9 #[.pointer (some ⟨p, 0, none⟩), .agg #[.int .i64 s.z, .slice s.eA s.E.length s.ec, .slice s.tA s.ts.length s.tc, .slice A7 ys.length c7, .slice s.uA s.us.length s.uc, .slice s.pA s.ps.length s.pc, .int .i64 s.rsv]] wr (RetAsg wr n s.E s.ts ys s.ps s.rsv s.us)) :=
          Lib.hid (lsend_any (s.lay A7 ys c7) n p wr ((HG2.out.below hb2r).more hb2r.size) (StIn.lay (HIN2.out.next hb2r) hr7 hsub) (HWF.out.lay hsub (by omega) hn7) (HOK.out.lay hsub hyl))
        have k0 := hcp.c0
        have k1 := hcp.c1
        have k2 := hcp.c2
        have k3 := hcp.c3
        have k4 := hcp.c4
        have k5 := hcp.c5
        have k6 := hcp.c6
        have HBR := Lib.hid (HB2.out.trans (hb2r.mono HB2.out.size))
        have HRR := Lib.hid (HR2.out.below hb2r)
        have HYS := Lib.hid hys
        have HCS := Lib.hid ((HOWN.out.kept_new hb2r).sl)
        have hcap6 := HOWN.out.caps
        clear hcp hsub hyl hr7 hn7 hb2r hys HCP
        go_wp2_with fail
        ((with_reducible refine HS2.out.mono ?_))
        rintro e w4 ⟨v4, cs2, us2, rfl, hrun2, hown2, hcl2, hb4⟩
        obtain ⟨A8, c8, rfl, hcs2⟩ := hown2.sl
        have hpr : cs2 = cs.take cs2.length := by
          have h := HRUN.out
          rw [HYS.out] at hrun2
          exact run_prio (by decide) h hrun2
        have hle2 : cs2.length ≤ cs.length := by
          have := congrArg List.length hpr
          rw [List.length_take] at this
          omega
        have hnl : ¬ (cs.length : Int) < (cs2.length : Int) := by omega
        have hnl2 : decide ((cs.length : Int) < (cs2.length : Int)) = false := decide_eq_false hnl
        have hnl3 : decide (cs.length < cs2.length) = false := decide_eq_false (by omega)
        have hc8 : cs2.length ≤ c6' := by have := hcap6.2.1; omega
        have hc9 := hcap6.2.2.1
        have HAP : Hid (Calls Tryd.prog 10 #[.slice A8 cs2.length c8, .slice A6 cs2.length c6'] w4 (RetApart w4 cs2 (cs.take cs2.length))) := Lib.hid (by
          obtain ⟨A6', c6'', e6, h6⟩ := HCS.out
          injection e6 with e61 _ _
          subst e61
          have h := apart_any A8 A6 c8 c6' cs2 (cs.take cs2.length) w4 w4.heap.size hcs2 ((RecsAt.take (h6.below hb4) _).more hb4.size) (by omega) (by rw [List.length_take]; omega)
          rw [List.length_take, Nat.min_eq_left hle2] at h
          exact h)
        have HPR := Lib.hid hpr
        have HB4 := Lib.hid (HBR.out.trans (hb4.mono HBR.out.size))
        have HR4 := Lib.hid (HRR.out.below hb4)
        clear hrun2 hown2 hcs2 hb4 hpr k0 k1 k2 k3 k4 k5 k6 HS2
        go_wp2_with fail
        ((with_reducible refine HAP.out.mono ?_))
        rintro e w5 ⟨r, q, rfl, hap, rfl⟩
        obtain rfl := hap.same HPR.out
        clear hap HAP
        go_wp2_with fail
        ((with_reducible refine (awake38_any _ (HR4.out.below (drew_below w4 q))).mono ?_))
        rintro e w6 ⟨rfl, hb6⟩
        have HB6 := Lib.hid ((HB4.out.trans ((drew_below w4 q).mono HB4.out.size)).trans (hb6.mono (show w.heap.size ≤ (w4.drewN q).heap.size from HB4.out.size)))
        clear hb6
        go_wp2_with fail
        go_ret
        exact ⟨rfl, HB6.out⟩
  · have HB1 := Lib.hid (HB.out.trans (hb1.mono HB.out.size))
    have HR1 := Lib.hid (HR.out.below hb1)
    clear hb1 HN HBX c0 c1 c2 c3 c4 c5 c6
    go_wp2_with fail
    ((with_reducible refine (awake38_any _ HR1.out).mono ?_))
    rintro e w6 ⟨rfl, hb6⟩
    have HB6 := Lib.hid (HB1.out.trans (hb6.mono HB1.out.size))
    clear hb6
    go_wp2_with fail
    go_ret
    exact ⟨rfl, HB6.out⟩
end
end Go.Proofs.YtimijjhdgihobaaDoor
