/-
  samaritanlaw35.DispatchcostTravelTime returns true for every input, and the arguments read afterwards as before.
  No condition beyond those of the given row.
-/
import Derived.Test.YtpomakmmjbimfaaRows
import Derived.Test.YtpomakmmjbimfaaWay
import Derived.Test.YtpomakmmjbimfaaLift
namespace Go.Proofs.Ytpomakmmjbimfaa.l35TravelTime
open Go.ChangeShapes Go.WideShapes Go.ChangeAt Go.RowKit Go.Maps
open Go.ChangeMaps (open_string shut_string)

theorem own : ownKnob Try.prog.godebug = none := by kernel_rfl
theorem laidOut : laidOutB Try.prog = true := by kernel_rfl

set_option maxRecDepth 100000 in
set_option maxHeartbeats 1500000 in
theorem walk (w : World) (z : Int) (A : Option Addr) (E : List EdgeT) (c : Nat) (A1 : Option Addr) (ts : List Int) (c1 : Nat) (fr : Int) (he : EdgesAt w w.heap.size A E) (hE : E.length ≤ 9223372036854775807) (hnil : A = none → c = 0) (hs : Sl w w.heap.size A1 (ts.map (Value.int .i64))) (hts : ts.length ≤ 9223372036854775807)
    (A2 : Option Addr) (zs : List Int) (c2 : Nat) (hs2 : Sl w w.heap.size A2 (zs.map (Value.int .i64))) (_hw2 : ∀ z ∈ zs, (Lit.int .i64 z).wf = true) (_hc2 : zs.length ≤ c2) (_hm2 : c2 ≤ 9223372036854775807) (hn2 : A2 = none → c2 = 0) (more : Int) (_wm : (Lit.int .i64 more).wf = true) :
    Calls Try.prog 3 #[.agg #[.int .i64 z, .slice A E.length c, .slice A1 ts.length c1, .int .i64 fr], .slice A2 zs.length c2, .int .i64 more] w fun e w' => e = .returned (.bool true) ∧ Below w.heap.size w w' := by
  have HB0 := Lib.hid ((Below.refl w.heap.size w).alloc (Nat.le_refl _) (.cells #[.int .i64 z, .slice A E.length c, .slice A1 ts.length c1, .int .i64 fr] 27))
  obtain ⟨W0, hW0⟩ : ∃ W0, W0 = w.alloc (.cells #[.int .i64 z, .slice A E.length c, .slice A1 ts.length c1, .int .i64 fr] 27) := ⟨_, rfl⟩
  have HBOX : Hid (∀ W, Below W0.heap.size W0 W → Below w.heap.size w W ∧ W.cell? ⟨w.heap.size, 0, none⟩ = some (.int .i64 z) ∧ W.cell? ⟨w.heap.size, 1, none⟩ = some (.slice A E.length c) ∧ W.cell? ⟨w.heap.size, 2, none⟩ = some (.slice A1 ts.length c1) ∧ W.cell? ⟨w.heap.size, 3, none⟩ = some (.int .i64 fr)) := Lib.hid (fun W hb => by
    have hlt : w.heap.size < W0.heap.size := by rw [hW0]; simp
    have hc : ∀ j, W.cell? ⟨w.heap.size, j, none⟩ = W0.cell? ⟨w.heap.size, j, none⟩ := fun j => hb.cell (p := ⟨w.heap.size, j, none⟩) hlt
    have h0 := HB0.out
    rw [← hW0] at h0
    refine ⟨h0.trans (hb.mono h0.size), ?_, ?_, ?_, ?_⟩ <;> rw [hc, hW0, World.cell?_alloc_at (hn := rfl)] <;> rfl)
  have HE := Lib.hid he
  have HNIL := Lib.hid hnil
  have HS := Lib.hid hs
  have HS2 := Lib.hid hs2
  have HN2 := Lib.hid hn2
  clear he hnil hs hs2 hn2 HB0
  go_enter Try.func3, Try.ntmps3
  go_wp2_with fail
  rw [← hW0]
  clear hW0
  refine (wakes35_any _).mono ?_
  rintro e w1 ⟨rfl, hb⟩
  have HB1 := Lib.hid hb
  obtain ⟨hbw, k0, k1, k2, k3⟩ := HBOX.out w1 hb
  have hnet := net_any z A c E w1 ((HE.out.below hbw).more hbw.size) hE HNIL.out
  have HNET := Lib.hid hnet
  clear hb hbw hnet
  go_wp2_with fail
  ((with_reducible refine HNET.out.mono ?_))
  clear HNET k0 k1 k2 k3
  rintro e w2 (⟨n, p, rfl, hrp, rfl, hg, hp, hb2⟩ | ⟨rfl, hb2⟩)
  · have HB2 := Lib.hid (HB1.out.trans (hb2.mono HB1.out.size))
    obtain ⟨hbw, k0, k1, k2, k3⟩ := HBOX.out w2 HB2.out
    have HBW2 := Lib.hid hbw
    have hn12 := hrp.2.1
    have hE40 := hrp.2.2.1
    have HOK : Hid (∀ e ∈ E, 0 ≤ e.frm ∧ e.frm < (n : Int) ∧ 0 ≤ e.to ∧ e.to < (n : Int)) := Lib.hid (fun e he => ⟨(hrp.2.2.2 e he).1, (hrp.2.2.2 e he).2.1, (hrp.2.2.2 e he).2.2.1, (hrp.2.2.2 e he).2.2.2.1⟩)
    have HG2 := Lib.hid hg
    clear hg hb2 hbw hrp
    by_cases ht60 : 60 < ts.length
    · have d1 : decide ((60 : Int) < (ts.length : Int)) = true := decide_eq_true (by omega)
      go_wp2_with fail
      go_ret
      exact ⟨rfl, HBW2.out⟩
    · have d1 : decide ((60 : Int) < (ts.length : Int)) = false := decide_eq_false (by omega)
      by_cases hz20 : 20 < zs.length
      · have d2 : decide ((20 : Int) < (zs.length : Int)) = true := decide_eq_true (by omega)
        go_wp2_with fail
        go_ret
        exact ⟨rfl, HBW2.out⟩
      · have d2 : decide ((20 : Int) < (zs.length : Int)) = false := decide_eq_false (by omega)
        have htr := travel_any p n E A1 A2 c1 c2 ts zs fr w2 HG2.out (by omega) (by omega) (fun e he => (HOK.out e he).2.2) ((HS.out.below HBW2.out).more HBW2.out.size) ((HS2.out.below HBW2.out).more HBW2.out.size) (by omega)
        have HTR := Lib.hid htr
        clear htr
        go_wp2_with fail
        ((with_reducible refine HTR.out.mono ?_))
        clear HTR k0 k1 k2 k3
        rintro e w3 ⟨D, hfin, rfl, hb3⟩
        have HB3 := Lib.hid (HB2.out.trans (hb3.mono HB2.out.size))
        have HG3 := Lib.hid ((HG2.out.below hb3).more hb3.size)
        obtain ⟨hbw, k0, k1, k2, k3⟩ := HBOX.out w3 HB3.out
        have hrt := refTime35_any n E A A1 A2 c c1 c2 ts zs D fr w3 (by omega) (by omega) ((HE.out.below hbw).more hbw.size) HOK.out ((HS.out.below hbw).more hbw.size) ((HS2.out.below hbw).more hbw.size) (by omega) hfin
        have HRT := Lib.hid hrt
        have HFIN := Lib.hid hfin
        have hne : (farL D zs != farL D zs) = false := by simp
        clear hb3 hbw hrt hfin
        go_wp2_with fail
        ((with_reducible refine HRT.out.mono ?_))
        clear HRT k0 k1 k2 k3
        rintro e w4 ⟨rfl, hb4⟩
        have HB4 := Lib.hid (HB3.out.trans (hb4.mono HB3.out.size))
        have HG4 := Lib.hid ((HG3.out.below hb4).more hb4.size)
        obtain ⟨hbw, k0, k1, k2, k3⟩ := HBOX.out w4 HB4.out
        have HBW4 := Lib.hid hbw
        clear hb4 hbw
        go_wp2_with fail
        clear hne
        by_cases h0 : zs.length = 0
        · have d3 : ((zs.length : Int) == 0) = true := beq_iff_eq.2 (by omega)
          have d3' : (zs.length == 0) = true := beq_iff_eq.2 h0
          clear h0
          go_quiet (fail)
          go_wp2_with fail
          go_ret
          exact ⟨rfl, below_drewN _ HBW4.out⟩
        · have d3 : ((zs.length : Int) == 0) = false := beq_eq_false_iff_ne.2 (by omega)
          have d3' : (zs.length == 0) = false := beq_eq_false_iff_ne.2 h0
          clear h0
          have HGE : Hid (farL D zs ≤ farL D (zs ++ [more])) := Lib.hid (farL_more HFIN.out.le_inf (fun e => by rw [e] at d3'; cases d3') more)
          have hz4 : w4.drew.heap.size = w4.heap.size := rfl
          obtain ⟨wd, hwd⟩ : ∃ wd, wd = w4.drew := ⟨_, rfl⟩
          have HDW : Hid (Below w4.heap.size w4 wd) := Lib.hid (by rw [hwd]; exact (Below.refl _ _).drew)
          have hdz : wd.heap.size = w4.heap.size := by rw [hwd]; rfl
          have HDZ := Lib.hid hdz
          have HSZ : Hid (∀ W, Below w4.heap.size w4 W → Sl W w4.heap.size A2 (zs.map (Value.int .i64))) := Lib.hid (fun W h => (((HS2.out.below HBW4.out).more HBW4.out.size).below h))
          have HLD : Hid (∀ W, Below w4.heap.size w4 W → W.cell? ⟨w.heap.size, 2, none⟩ = some (.slice A1 ts.length c1) ∧ W.cell? ⟨w.heap.size, 3, none⟩ = some (.int .i64 fr)) := Lib.hid (fun W h => ⟨(HBOX.out W (HB4.out.trans (h.mono HB4.out.size))).2.2.2.1, (HBOX.out W (HB4.out.trans (h.mono HB4.out.size))).2.2.2.2⟩)
          have HCALL : Hid (∀ (W : World) (A3 : Option Addr) (c3 : Nat), Below w4.heap.size w4 W → Sl W W.heap.size A3 ((zs ++ [more]).map (Value.int .i64)) → Calls Try.prog 12 #[.pointer (some ⟨p, 0, none⟩), .slice A1 ts.length c1, .int .i64 fr, .slice A3 (zs.length + 1) c3] W (fun e w' => e = .returned (.int .i64 (farL D (zs ++ [more]))) ∧ Below w4.heap.size w4 w')) := Lib.hid (fun W A3 c3 hb hsl => by
            have hbw := HBW4.out.trans (hb.mono HBW4.out.size)
            rw [show zs.length + 1 = (zs ++ [more]).length from by simp]
            refine (travel_any p n E A1 A3 c1 c3 ts (zs ++ [more]) fr W ((HG4.out.below hb).more hb.size) (by omega) (by omega) (fun e he => (HOK.out e he).2.2) ((HS.out.below hbw).more hbw.size) hsl (by simp; omega)).mono ?_
            rintro e w' ⟨D', hf', rfl, hb'⟩
            obtain rfl : D' = D := hf'.unique (okW_times _ _) HFIN.out
            exact ⟨rfl, hb.trans (hb'.mono hb.size)⟩)
          clear k0 k1 k2 k3
          refine wp_region_held_drew (S := fun W => Below w4.heap.size w4 W) (by kernel_rfl) (by rw [← hwd]; exact HDW.out) (fun hHeld => ?_)
          rw [← hwd]
          clear hwd hdz hz4 hHeld
          have hHeld := HDW.out
          refine wpAnyH_take (i := 0) (v := .slice A2 zs.length c2) rfl (by kernel_rfl) (by kernel_rfl) (by kernel_rfl) (fun _ _ _ h => h) (Or.inl ⟨by rfl, ?_⟩) (by assumption) ?_
          · intro w hSw
            go_simp
          show wpAnyH _ _ _ _ _ _ _ (Act.put _ (some 48) _) _
          simp only [Act.put, List.setIfInBounds_toArray, List.set_cons_zero, List.set_cons_succ]
          refine wpAnyH_take (i := 1) (v := .int .i64 (zs.length : Int)) rfl (by kernel_rfl) (by kernel_rfl) (by kernel_rfl) (fun _ _ _ h => h) (Or.inl ⟨by rfl, ?_⟩) (by assumption) ?_
          · intro w hSw
            go_simp
          show wpAnyH _ _ _ _ _ _ _ (Act.put _ (some 49) _) _
          simp only [Act.put, List.setIfInBounds_toArray, List.set_cons_zero, List.set_cons_succ]
          refine wpAnyH_take (i := 2) (v := .bool false) rfl (by kernel_rfl) (by kernel_rfl) (by kernel_rfl) (fun _ _ _ h => h) (Or.inl ⟨by rfl, ?_⟩) (by assumption) ?_
          · intro w hSw
            go_simp
          show wpAnyH _ _ _ _ _ _ _ (Act.put _ (some 50) _) _
          simp only [Act.put, List.setIfInBounds_toArray, List.set_cons_zero, List.set_cons_succ]
          refine wpAnyH_take (i := 3) (v := .bool false) rfl (by kernel_rfl) (by kernel_rfl) (by kernel_rfl) (fun _ _ _ h => h) (Or.inl ⟨by rfl, ?_⟩) (by assumption) ?_
          · intro w hSw
            go_simp
          show wpAnyH _ _ _ _ _ _ _ (Act.put _ (some 51) _) _
          simp only [Act.put, List.setIfInBounds_toArray, List.set_cons_zero, List.set_cons_succ]
          refine wpAnyH_take (i := 4) (v := .pointer (some ⟨p, 0, none⟩)) rfl (by kernel_rfl) (by kernel_rfl) (by kernel_rfl) (fun _ _ _ h => h) (Or.inl ⟨by rfl, ?_⟩) (by assumption) ?_
          · intro w hSw
            go_simp
          show wpAnyH _ _ _ _ _ _ _ (Act.put _ (some 52) _) _
          simp only [Act.put, List.setIfInBounds_toArray, List.set_cons_zero, List.set_cons_succ]
          refine wpAnyH_take (i := 5) (v := .pointer (some ⟨w.heap.size, 2, none⟩)) rfl (by kernel_rfl) (by kernel_rfl) (by kernel_rfl) (fun _ _ _ h => h) (Or.inl ⟨by rfl, ?_⟩) (by assumption) ?_
          · intro w hSw
            go_simp
          show wpAnyH _ _ _ _ _ _ _ (Act.put _ (some 53) _) _
          simp only [Act.put, List.setIfInBounds_toArray, List.set_cons_zero, List.set_cons_succ]
          refine wpAnyH_take (i := 6) (v := .slice A1 ts.length c1) rfl (by kernel_rfl) (by kernel_rfl) (by kernel_rfl) (fun _ _ _ h => h) (Or.inl ⟨by rfl, ?_⟩) (by assumption) ?_
          · intro w hSw
            obtain ⟨s1, s2⟩ := HLD.out w hSw
            go_simp
          show wpAnyH _ _ _ _ _ _ _ (Act.put _ (some 54) _) _
          simp only [Act.put, List.setIfInBounds_toArray, List.set_cons_zero, List.set_cons_succ]
          refine wpAnyH_take (i := 7) (v := .pointer (some ⟨w.heap.size, 3, none⟩)) rfl (by kernel_rfl) (by kernel_rfl) (by kernel_rfl) (fun _ _ _ h => h) (Or.inl ⟨by rfl, ?_⟩) (by assumption) ?_
          · intro w hSw
            go_simp
          show wpAnyH _ _ _ _ _ _ _ (Act.put _ (some 55) _) _
          simp only [Act.put, List.setIfInBounds_toArray, List.set_cons_zero, List.set_cons_succ]
          refine wpAnyH_take (i := 8) (v := .int .i64 fr) rfl (by kernel_rfl) (by kernel_rfl) (by kernel_rfl) (fun _ _ _ h => h) (Or.inl ⟨by rfl, ?_⟩) (by assumption) ?_
          · intro w hSw
            obtain ⟨s1, s2⟩ := HLD.out w hSw
            go_simp
          show wpAnyH _ _ _ _ _ _ _ (Act.put _ (some 56) _) _
          simp only [Act.put, List.setIfInBounds_toArray, List.set_cons_zero, List.set_cons_succ]
          refine wpAnyH_take (i := 10) (v := .slice A2 zs.length c2) rfl (by kernel_rfl) (by kernel_rfl) (by kernel_rfl) (fun _ _ _ h => h) (Or.inl ⟨by rfl, ?_⟩) (by assumption) ?_
          · intro w hSw
            go_simp
          show wpAnyH _ _ _ _ _ _ _ (Act.put _ (some 58) _) _
          simp only [Act.put, List.setIfInBounds_toArray, List.set_cons_zero, List.set_cons_succ]
          refine wpAnyH_take (i := 12) (v := .int .i64 more) rfl (by kernel_rfl) (by kernel_rfl) (by kernel_rfl) (fun _ _ _ h => h) (Or.inl ⟨by rfl, ?_⟩) (by assumption) ?_
          · intro w hSw
            go_simp
          show wpAnyH _ _ _ _ _ _ _ (Act.put _ (some 60) _) _
          simp only [Act.put, List.setIfInBounds_toArray, List.set_cons_zero, List.set_cons_succ]
          refine wpAnyH_take (i := 16) (v := .int .i64 (farL D zs)) rfl (by kernel_rfl) (by kernel_rfl) (by kernel_rfl) (fun _ _ _ h => h) (Or.inl ⟨by rfl, ?_⟩) (by assumption) ?_
          · intro w hSw
            go_simp
          show wpAnyH _ _ _ _ _ _ _ (Act.put _ (some 64) _) _
          simp only [Act.put, List.setIfInBounds_toArray, List.set_cons_zero, List.set_cons_succ]
          refine wpAnyH_ready (rs := [9, 13]) (by kernel_rfl) (by simp) ?_
          refine AllReadyH.cons rfl (fun K hK => ?_) (AllReadyH.cons rfl (fun K hK => ?_) AllReadyH.nil)
          · go_simp
            refine hK.out _ _ (hHeld.alloc hHeld.size _) (fun hHa => ?_)
            clear hK K
            have hE0 : OwnI (wd.alloc (.cells #[] 3)) w4.heap.size 3 (.slice (some ⟨wd.heap.size, 0, none⟩) 0 0) [] := OwnV.lit wd w4.heap.size 3 [] (f := Value.int .i64) rfl hHeld.size (by simp) #[] rfl
            refine wpAnyH_ready (rs := [11, 13]) (by kernel_rfl) (by simp) ?_
            refine AllReadyH.cons rfl (fun K hK => ?_) (AllReadyH.cons rfl (fun K hK => ?_) AllReadyH.nil)
            · refine step_append_sl _ (by rfl) (.tmp 57) (.tmp 58) 28 (by rfl) 3 Try.underlying28 int_info35 rfl (by omega) w4.heap.size _ [] (by rfl) hE0 w4.heap.size _ _ _ zs (by rfl) (by rfl) HN2.out (HSZ.out _ hHa) (by intro y _; rfl) (by simp; omega) hHa.size ?_
              intro v5 w5 hown5 hg5
              rw [List.nil_append] at hown5
              have HB5 := Lib.hid (hHa.grown hg5 hHa.size (fun j hj => OwnV.ge_base hE0 j hj))
              refine hK.out _ _ HB5.out (fun hHeld => ?_)
              clear hK K
              refine wpAnyH_ready (rs := [13]) (by kernel_rfl) (by simp) ?_
              refine AllReadyH.cons rfl (fun K hK => ?_) AllReadyH.nil
              go_simp
              refine hK.out _ _ (HB5.out.alloc HB5.out.size _) (fun hHeld => ?_)
              clear hK K
              have HBM := Lib.hid (HB5.out.alloc HB5.out.size (.cells #[.int .i64 more] 3))
              have HOM := Lib.hid (OwnV.alloc hown5 (.cells #[.int .i64 more] 3))
              have hX : Sl (w5.alloc (.cells #[.int .i64 more] 3)) (w5.alloc (.cells #[.int .i64 more] 3)).heap.size (some ⟨w5.heap.size, 0, none⟩) ([more].map (Value.int .i64)) := Sl.lit w5 [.int .i64 more] 3 rfl
              refine wpAnyH_ready (rs := [14]) (by kernel_rfl) (by simp) ?_
              refine AllReadyH.cons rfl (fun K hK => ?_) AllReadyH.nil
              refine step_append_sl _ (by rfl) (.tmp 59) (.tmp 61) 28 (by rfl) 3 Try.underlying28 int_info35 rfl (by omega) w4.heap.size _ zs (by rfl) HOM.out _ _ _ _ [more] (by rfl) (by rfl) (by simp) hX (by intro y _; rfl) (by simp; omega) HBM.out.size ?_
              intro v6 w6 hown6 hg6
              have HB6 := Lib.hid (HBM.out.grown hg6 HBM.out.size (fun j hj => OwnV.ge_base HOM.out j hj))
              obtain ⟨A6, c6, rfl, hsl6⟩ := OwnV.sl hown6
              refine hK.out _ _ HB6.out (fun hHeld => ?_)
              clear hK K
              refine wpAnyH_ready (rs := [15]) (by kernel_rfl) (by simp) ?_
              refine AllReadyH.cons rfl (fun K hK => ?_) AllReadyH.nil
              go_simp
              ((with_reducible refine (HCALL.out w6 A6 c6 HB6.out hsl6).mono ?_))
              rintro e w7 ⟨rfl, hb7⟩
              go_simp
              refine hK.out _ _ hb7 (fun hHeld => ?_)
              clear hK K
              have hgeb : decide (farL D zs ≤ farL D (zs ++ [more])) = true := decide_eq_true HGE.out
              refine wpAnyH_take (i := 17) (v := .bool true) rfl (by kernel_rfl) (by kernel_rfl) (by kernel_rfl) (fun _ _ _ h => h) (Or.inl ⟨by rfl, ?_⟩) (by assumption) ?_
              · intro w hSw
                go_simp
              show wpAnyH _ _ _ _ _ _ _ (Act.put _ (some 65) _) _
              simp only [Act.put, List.setIfInBounds_toArray, List.set_cons_zero, List.set_cons_succ]
              refine wpAnyH_take (i := 18) (v := .bool true) rfl (by kernel_rfl) (by kernel_rfl) (by kernel_rfl) (fun _ _ _ h => h) (Or.inl ⟨by rfl, ?_⟩) (by assumption) ?_
              · intro w hSw
                go_simp
              show wpAnyH _ _ _ _ _ _ _ (Act.put _ (some 66) _) _
              simp only [Act.put, List.setIfInBounds_toArray, List.set_cons_zero, List.set_cons_succ]
              refine wpAnyH_take (i := 19) (v := .bool true) rfl (by kernel_rfl) (by kernel_rfl) (by kernel_rfl) (fun _ _ _ h => h) (Or.inl ⟨by rfl, ?_⟩) (by assumption) ?_
              · intro w hSw
                go_simp
              show wpAnyH _ _ _ _ _ _ _ (Act.put _ (some 6) _) _
              simp only [Act.put, List.setIfInBounds_toArray, List.set_cons_zero, List.set_cons_succ]
              refine wpAnyH_done (by kernel_rfl) ?_ _
              go_wp2_with fail
              go_ret
              exact ⟨rfl, HBW4.out.trans (hb7.mono HBW4.out.size)⟩
            · go_simp
              refine hK.out _ _ (hHa.alloc hHa.size _) (fun hHb => ?_)
              clear hK K
              have hE1 := OwnV.alloc hE0 (.cells #[.int .i64 more] 3)
              have hX0 : Sl ((wd.alloc (.cells #[] 3)).alloc (.cells #[.int .i64 more] 3)) ((wd.alloc (.cells #[] 3)).alloc (.cells #[.int .i64 more] 3)).heap.size (some ⟨wd.heap.size + 1, 0, none⟩) ([more].map (Value.int .i64)) := Sl.lit (wd.alloc (.cells #[] 3)) [.int .i64 more] 3 (by simp)
              refine wpAnyH_ready (rs := [11]) (by kernel_rfl) (by simp) ?_
              refine AllReadyH.cons rfl (fun K hK => ?_) AllReadyH.nil
              refine step_append_sl _ (by rfl) (.tmp 57) (.tmp 58) 28 (by rfl) 3 Try.underlying28 int_info35 rfl (by omega) w4.heap.size _ [] (by rfl) hE1 w4.heap.size _ _ _ zs (by rfl) (by rfl) HN2.out (HSZ.out _ hHb) (by intro y _; rfl) (by simp; omega) hHb.size ?_
              intro v5 w5 hown5 hg5
              rw [List.nil_append] at hown5
              have HB5 := Lib.hid (hHb.grown hg5 hHb.size (fun j hj => OwnV.ge_base hE1 j hj))
              refine hK.out _ _ HB5.out (fun hHeld => ?_)
              clear hK K
              have hX : Sl w5 w5.heap.size (some ⟨wd.heap.size + 1, 0, none⟩) ([more].map (Value.int .i64)) := fun j u hj => by
                obtain ⟨b, o, e, hb, hc⟩ := hX0 j u hj
                cases e
                exact ⟨_, _, rfl, Nat.lt_of_lt_of_le hb hg5.size, (hg5.cell_far ⟨_, _, none⟩ hb (by simp [Value.ownBlock])).trans hc⟩
              refine wpAnyH_ready (rs := [14]) (by kernel_rfl) (by simp) ?_
              refine AllReadyH.cons rfl (fun K hK => ?_) AllReadyH.nil
              refine step_append_sl _ (by rfl) (.tmp 59) (.tmp 61) 28 (by rfl) 3 Try.underlying28 int_info35 rfl (by omega) w4.heap.size _ zs (by rfl) hown5 _ _ _ _ [more] (by rfl) (by rfl) (by simp) hX (by intro y _; rfl) (by simp; omega) HB5.out.size ?_
              intro v6 w6 hown6 hg6
              have HB6 := Lib.hid (HB5.out.grown hg6 HB5.out.size (fun j hj => OwnV.ge_base hown5 j hj))
              obtain ⟨A6, c6, rfl, hsl6⟩ := OwnV.sl hown6
              refine hK.out _ _ HB6.out (fun hHeld => ?_)
              clear hK K
              refine wpAnyH_ready (rs := [15]) (by kernel_rfl) (by simp) ?_
              refine AllReadyH.cons rfl (fun K hK => ?_) AllReadyH.nil
              go_simp
              ((with_reducible refine (HCALL.out w6 A6 c6 HB6.out hsl6).mono ?_))
              rintro e w7 ⟨rfl, hb7⟩
              go_simp
              refine hK.out _ _ hb7 (fun hHeld => ?_)
              clear hK K
              have hgeb : decide (farL D zs ≤ farL D (zs ++ [more])) = true := decide_eq_true HGE.out
              refine wpAnyH_take (i := 17) (v := .bool true) rfl (by kernel_rfl) (by kernel_rfl) (by kernel_rfl) (fun _ _ _ h => h) (Or.inl ⟨by rfl, ?_⟩) (by assumption) ?_
              · intro w hSw
                go_simp
              show wpAnyH _ _ _ _ _ _ _ (Act.put _ (some 65) _) _
              simp only [Act.put, List.setIfInBounds_toArray, List.set_cons_zero, List.set_cons_succ]
              refine wpAnyH_take (i := 18) (v := .bool true) rfl (by kernel_rfl) (by kernel_rfl) (by kernel_rfl) (fun _ _ _ h => h) (Or.inl ⟨by rfl, ?_⟩) (by assumption) ?_
              · intro w hSw
                go_simp
              show wpAnyH _ _ _ _ _ _ _ (Act.put _ (some 66) _) _
              simp only [Act.put, List.setIfInBounds_toArray, List.set_cons_zero, List.set_cons_succ]
              refine wpAnyH_take (i := 19) (v := .bool true) rfl (by kernel_rfl) (by kernel_rfl) (by kernel_rfl) (fun _ _ _ h => h) (Or.inl ⟨by rfl, ?_⟩) (by assumption) ?_
              · intro w hSw
                go_simp
              show wpAnyH _ _ _ _ _ _ _ (Act.put _ (some 6) _) _
              simp only [Act.put, List.setIfInBounds_toArray, List.set_cons_zero, List.set_cons_succ]
              refine wpAnyH_done (by kernel_rfl) ?_ _
              go_wp2_with fail
              go_ret
              exact ⟨rfl, HBW4.out.trans (hb7.mono HBW4.out.size)⟩
          · go_simp
            refine hK.out _ _ (hHeld.alloc hHeld.size _) (fun hHa => ?_)
            clear hK K
            refine wpAnyH_ready (rs := [9]) (by kernel_rfl) (by simp) ?_
            refine AllReadyH.cons rfl (fun K hK => ?_) AllReadyH.nil
            go_simp
            refine hK.out _ _ (hHa.alloc hHa.size _) (fun hHeld => ?_)
            clear hK K
            have hHb := hHa.alloc hHa.size (.cells #[] 3)
            have hE1 : OwnI ((wd.alloc (.cells #[.int .i64 more] 3)).alloc (.cells #[] 3)) w4.heap.size 3 (.slice (some ⟨wd.heap.size + 1, 0, none⟩) 0 0) [] := OwnV.lit (wd.alloc (.cells #[.int .i64 more] 3)) w4.heap.size 3 [] (f := Value.int .i64) (by simp) (by have := HDZ.out; omega) (by simp) #[] rfl
            have hX0 : Sl ((wd.alloc (.cells #[.int .i64 more] 3)).alloc (.cells #[] 3)) ((wd.alloc (.cells #[.int .i64 more] 3)).alloc (.cells #[] 3)).heap.size (some ⟨wd.heap.size, 0, none⟩) ([more].map (Value.int .i64)) := ((Sl.lit wd [.int .i64 more] 3 rfl).alloc (Nat.le_refl _) _).more (by simp)
            refine wpAnyH_ready (rs := [11]) (by kernel_rfl) (by simp) ?_
            refine AllReadyH.cons rfl (fun K hK => ?_) AllReadyH.nil
            refine step_append_sl _ (by rfl) (.tmp 57) (.tmp 58) 28 (by rfl) 3 Try.underlying28 int_info35 rfl (by omega) w4.heap.size _ [] (by rfl) hE1 w4.heap.size _ _ _ zs (by rfl) (by rfl) HN2.out (HSZ.out _ hHb) (by intro y _; rfl) (by simp; omega) hHb.size ?_
            intro v5 w5 hown5 hg5
            rw [List.nil_append] at hown5
            have HB5 := Lib.hid (hHb.grown hg5 hHb.size (fun j hj => OwnV.ge_base hE1 j hj))
            refine hK.out _ _ HB5.out (fun hHeld => ?_)
            clear hK K
            have hX : Sl w5 w5.heap.size (some ⟨wd.heap.size, 0, none⟩) ([more].map (Value.int .i64)) := fun j u hj => by
              obtain ⟨b, o, e, hb, hc⟩ := hX0 j u hj
              cases e
              exact ⟨_, _, rfl, Nat.lt_of_lt_of_le hb hg5.size, (hg5.cell_far ⟨_, _, none⟩ hb (by simp [Value.ownBlock])).trans hc⟩
            refine wpAnyH_ready (rs := [14]) (by kernel_rfl) (by simp) ?_
            refine AllReadyH.cons rfl (fun K hK => ?_) AllReadyH.nil
            refine step_append_sl _ (by rfl) (.tmp 59) (.tmp 61) 28 (by rfl) 3 Try.underlying28 int_info35 rfl (by omega) w4.heap.size _ zs (by rfl) hown5 _ _ _ _ [more] (by rfl) (by rfl) (by simp) hX (by intro y _; rfl) (by simp; omega) HB5.out.size ?_
            intro v6 w6 hown6 hg6
            have HB6 := Lib.hid (HB5.out.grown hg6 HB5.out.size (fun j hj => OwnV.ge_base hown5 j hj))
            obtain ⟨A6, c6, rfl, hsl6⟩ := OwnV.sl hown6
            refine hK.out _ _ HB6.out (fun hHeld => ?_)
            clear hK K
            refine wpAnyH_ready (rs := [15]) (by kernel_rfl) (by simp) ?_
            refine AllReadyH.cons rfl (fun K hK => ?_) AllReadyH.nil
            go_simp
            ((with_reducible refine (HCALL.out w6 A6 c6 HB6.out hsl6).mono ?_))
            rintro e w7 ⟨rfl, hb7⟩
            go_simp
            refine hK.out _ _ hb7 (fun hHeld => ?_)
            clear hK K
            have hgeb : decide (farL D zs ≤ farL D (zs ++ [more])) = true := decide_eq_true HGE.out
            refine wpAnyH_take (i := 17) (v := .bool true) rfl (by kernel_rfl) (by kernel_rfl) (by kernel_rfl) (fun _ _ _ h => h) (Or.inl ⟨by rfl, ?_⟩) (by assumption) ?_
            · intro w hSw
              go_simp
            show wpAnyH _ _ _ _ _ _ _ (Act.put _ (some 65) _) _
            simp only [Act.put, List.setIfInBounds_toArray, List.set_cons_zero, List.set_cons_succ]
            refine wpAnyH_take (i := 18) (v := .bool true) rfl (by kernel_rfl) (by kernel_rfl) (by kernel_rfl) (fun _ _ _ h => h) (Or.inl ⟨by rfl, ?_⟩) (by assumption) ?_
            · intro w hSw
              go_simp
            show wpAnyH _ _ _ _ _ _ _ (Act.put _ (some 66) _) _
            simp only [Act.put, List.setIfInBounds_toArray, List.set_cons_zero, List.set_cons_succ]
            refine wpAnyH_take (i := 19) (v := .bool true) rfl (by kernel_rfl) (by kernel_rfl) (by kernel_rfl) (fun _ _ _ h => h) (Or.inl ⟨by rfl, ?_⟩) (by assumption) ?_
            · intro w hSw
              go_simp
            show wpAnyH _ _ _ _ _ _ _ (Act.put _ (some 6) _) _
            simp only [Act.put, List.setIfInBounds_toArray, List.set_cons_zero, List.set_cons_succ]
            refine wpAnyH_done (by kernel_rfl) ?_ _
            go_wp2_with fail
            go_ret
            exact ⟨rfl, HBW4.out.trans (hb7.mono HBW4.out.size)⟩
  · have HB2 := Lib.hid (HB1.out.trans (hb2.mono HB1.out.size))
    obtain ⟨hbw, k0, k1, k2, k3⟩ := HBOX.out w2 HB2.out
    go_wp2_with fail
    go_ret
    exact ⟨rfl, hbw⟩

set_option maxRecDepth 100000 in
theorem lifted (os : Os) (started : os.Started) (H : Type) (enc : TypeId × Value → H) :
    ReturnsInHanded {} Try.checked os 3 .any (Rows.dispatchcostTravelTimeSpec.pre6 enc Try.prog Try.f3 Rows.dispatchcostTravelTimeRow.domain false) (Rows.dispatchcostTravelTimeSpec.post enc Try.prog Try.f3 false true false false) := by
  refine returnsInHanded_of_change (C := Try.checked) own started (by kernel_rfl) Try.func3
    (ChangeSpec.witness6 (enc := enc) (C := Try.checked) false ⟨#[], #[.agg #[.int .i64 0, .slice none 0 0, .slice none 0 0, .int .i64 0], .slice none 0 0, .int .i64 0], []⟩ 8 (by kernel_rfl) (by kernel_rfl) (by kernel_rfl) (by kernel_rfl)) ?_
  intro W base args ds gs before hval0 hW hcnd _
  have hval : ∀ (j : Nat) t v, Try.f3.params[j]? = some t → args[j]? = some v → Value.okWide Try.prog W .any base t v := hval0
  have hW' := hW
  obtain ⟨p, q, hA0, hV, rfl, hfz, hnd⟩ := hW
  have hA : DataW.TrodAll enc Try.prog W 0 (fun _ => true) true Try.f3.params.toList args.toList ds p := hA0
  rw [Try.params3] at hA hval
  obtain ⟨v0, vs0, d0, ds0, p0, q0, hargs, rfl, rfl, h0, r0⟩ := trodAll_cons hA
  obtain ⟨v1, vs1, d1, ds1, p1, q1, rfl, rfl, rfl, h1, r1⟩ := trodAll_cons r0
  obtain ⟨v2, vs2, d2, ds2, p2, q2, rfl, rfl, rfl, h2, r2⟩ := trodAll_cons r1
  obtain ⟨rfl, rfl, rfl⟩ := trodAll_nil r2
  obtain rfl : args = #[v0, v1, v2] := by cases args; simp_all
  obtain ⟨rfl, rfl⟩ := trodVars_none hV
  obtain ⟨z0, A0, E0, c0, T0, t0, d0, fr0, rfl, he0, hE0, hnil0, hs0, hts0⟩ := open_way (hval 0 27 v0 rfl rfl) h0
  obtain ⟨A1, z1, c1, rfl, hs1, hw1, hc1, hm1, hn1⟩ := open_sl Try.underlying28 Try.underlying3 (by kernel_rfl) (hval 1 28 v1 rfl rfl) h1
  obtain ⟨a2, rfl, rfl, rfl, w2⟩ := open_int Try.underlying3 (hval 2 3 v2 rfl rfl) h2
  clear hA0 hval0
  refine (walk W z0 A0 E0 c0 T0 t0 d0 fr0 he0 hE0 hnil0 hs0 hts0 A1 z1 c1 hs1 hw1 hc1 hm1 hn1 a2 w2).mono fun e W' ⟨he, hb⟩ => ?_
  subst he
  exact ⟨_, rfl, law_post laidOut (by kernel_rfl) rfl Try.underlying4 rfl hW' rfl rfl rfl hb⟩

theorem over : Rows.dispatchcostTravelTimeRow.holds Try.pinned (OpenSpec.ofChange Rows.dispatchcostTravelTimeSpec) :=
  OpenClaim.holds_of_wide 3 Try.f3 rfl rfl rfl rfl rfl rfl rfl ⟨rfl, rfl, rfl, rfl, rfl⟩ rfl rfl rfl rfl rfl (by kernel_rfl) Try.func3 (by kernel_rfl)
    (of_decide_eq_true (by kernel_rfl)) (by unfold Func.isWrapper; first | (rw [if_pos (by decide +kernel)]; kernel_rfl) | (rw [if_neg (by decide +kernel)]; exact ⟨rfl, rfl⟩))
    (fun os started H enc _ => lifted os started H enc)

theorem proved : Rows.DispatchcostTravelTimeSaid := over
#print axioms proved
end Go.Proofs.Ytpomakmmjbimfaa.l35TravelTime
