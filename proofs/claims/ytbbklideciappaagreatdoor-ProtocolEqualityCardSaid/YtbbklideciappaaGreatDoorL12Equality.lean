/-
  samaritanlaw12.ProtocolEquality returns true for every input, and the arguments read afterwards as before.
  Conditions: those of the given row (its list of package variables), tied to the program's text by the given tie; the card speaks of the pruned copy of the project that the seat was translated from.
-/
import Derived.Test.YtbbklideciappaaGreatDoorCards
import Derived.Test.YtbbklideciappaaGreatDoorTie
import Derived.Test.YtbbklideciappaaGreatDoorPqO
import Derived.Test.YtbbklideciappaaGreatDoorPqIW
import Derived.Test.YtbbklideciappaaGreatDoorPqS
import Derived.Test.YtbbklideciappaaGreatDoorPqJE
import Derived.Test.YtbbklideciappaaGreatDoorLift
import Derived.Test.YtbbklideciappaaGreatDoorPqLd
import Derived.OpenShut
import Derived.Deep.RegionHeld3
import Derived.Deep.DeepHandedRow
namespace Go.Proofs.YtbbklideciappaaGreatDoor.l12Equality
open Go.ChangeShapes Go.WideShapes Go.ChangeAt Go.RowKit Go.Maps
open Go.ChangeMaps (open_string shut_string)

set_option maxRecDepth 100000 in
set_option maxHeartbeats 8000000 in
theorem walk (w : World) (p : Prot) (hp : ProtArg w p) (q : Prot) (hq : ProtArg w q) (hr : Ready w) :
    Calls Tryz.prog 7 #[.agg #[.string p.name, .int .i64 p.ver, .slice p.qA p.qs.length p.qc], .agg #[.string q.name, .int .i64 q.ver, .slice q.qA q.qs.length q.qc]] w fun e w' => e = .returned (.bool true) ∧ Below w.heap.size w w' := by
  obtain ⟨F1, F2⟩ := fresh33 w (.string p.name) (.int .i64 p.ver) (.slice p.qA p.qs.length p.qc) (.string q.name) (.int .i64 q.ver) (.slice q.qA q.qs.length q.qc) 24 24
  obtain ⟨W0, hW0⟩ : ∃ W0, W0 = (w.alloc (.cells #[.string p.name, .int .i64 p.ver, .slice p.qA p.qs.length p.qc] 24)).alloc (.cells #[.string q.name, .int .i64 q.ver, .slice q.qA q.qs.length q.qc] 24) := ⟨_, rfl⟩
  rw [← hW0] at F1 F2
  have hb0 : Below w.heap.size w W0 := by rw [hW0]; exact ((Below.refl _ _).alloc (Nat.le_refl _) _).alloc (by simp) _
  have hz0 : w.heap.size + 1 < W0.heap.size := by rw [hW0]; simp
  have HF0 := Lib.hid (And.intro (F1 0 _ rfl) (And.intro (F1 1 _ rfl) (And.intro (F1 2 _ rfl) (And.intro (F2 0 _ rfl) (And.intro (F2 1 _ rfl) (F2 2 _ rfl))))))
  have HAT := Lib.hid (And.intro ((hp.at_.below hb0).more hb0.size) ((hq.at_.below hb0).more hb0.size))
  have HWF := Lib.hid (And.intro hp.wf hq.wf)
  have HR := Lib.hid hr
  have HB0 := Lib.hid hb0
  clear hp hq hb0 hr F1 F2
  have CELLS : Hid (∀ W, Below W0.heap.size W0 W → (W.cell? ⟨w.heap.size, 0, none⟩ = some (.string p.name) ∧ W.cell? ⟨w.heap.size, 1, none⟩ = some (.int .i64 p.ver) ∧ W.cell? ⟨w.heap.size, 2, none⟩ = some (.slice p.qA p.qs.length p.qc)) ∧ (W.cell? ⟨w.heap.size + 1, 0, none⟩ = some (.string q.name) ∧ W.cell? ⟨w.heap.size + 1, 1, none⟩ = some (.int .i64 q.ver) ∧ W.cell? ⟨w.heap.size + 1, 2, none⟩ = some (.slice q.qA q.qs.length q.qc))) := Lib.hid (fun W h => by
    obtain ⟨a0, a1, a2, a3, a4, a5⟩ := HF0.out
    exact ⟨⟨(h.cell (p := ⟨w.heap.size, 0, none⟩) (Nat.lt_of_succ_lt hz0)).trans a0, (h.cell (p := ⟨w.heap.size, 1, none⟩) (Nat.lt_of_succ_lt hz0)).trans a1, (h.cell (p := ⟨w.heap.size, 2, none⟩) (Nat.lt_of_succ_lt hz0)).trans a2⟩,
      (h.cell (p := ⟨w.heap.size + 1, 0, none⟩) hz0).trans a3, (h.cell (p := ⟨w.heap.size + 1, 1, none⟩) hz0).trans a4, (h.cell (p := ⟨w.heap.size + 1, 2, none⟩) hz0).trans a5⟩)
  have HPA : Hid (∀ W, Below W0.heap.size W0 W → ProtAt W W.heap.size p ∧ ProtAt W W.heap.size q ∧ Ready W ∧ Below w.heap.size w W) := Lib.hid (fun W h1 =>
    ⟨(HAT.out.1.below h1).more h1.size, (HAT.out.2.below h1).more h1.size, HR.out.below (HB0.out.trans (h1.mono HB0.out.size)), HB0.out.trans (h1.mono HB0.out.size)⟩)
  go_enter Tryz.func7, Tryz.ntmps7
  go_wp2_with fail
  rw [← hW0]
  clear hW0
  refine (awake_any W0 (HR.out.below HB0.out)).mono ?_
  rintro e W1 ⟨rfl, hb1⟩
  have HB1 := Lib.hid hb1
  obtain ⟨⟨f0, f1, f2⟩, _⟩ := CELLS.out W1 hb1
  clear hb1
  go_wp2_with fail
  refine (small_any W1 p (HPA.out W1 HB1.out).1 HWF.out.1).mono ?_
  rintro e W2 ⟨⟨bg, hbg, rfl⟩, hb2⟩
  have HB2 := Lib.hid (HB1.out.trans (hb2.mono HB1.out.size))
  have HSM := Lib.hid hbg
  obtain ⟨_, g0, g1, g2⟩ := CELLS.out W2 HB2.out
  clear hb2 hbg f0 f1 f2
  cases bg
  · go_wp2_with fail
    go_ret
    exact ⟨rfl, (HPA.out W2 HB2.out).2.2.2⟩
  go_wp2_with fail
  refine (small_any W2 q (HPA.out W2 HB2.out).2.1 HWF.out.2).mono ?_
  rintro e W3 ⟨⟨bg, hbg, rfl⟩, hb3⟩
  have HB3 := Lib.hid (HB2.out.trans (hb3.mono HB2.out.size))
  have HSM2 := Lib.hid hbg
  obtain ⟨⟨f0, f1, f2⟩, _⟩ := CELLS.out W3 HB3.out
  clear hb3 hbg g0 g1 g2
  cases bg
  · go_wp2_with fail
    go_ret
    exact ⟨rfl, (HPA.out W3 HB3.out).2.2.2⟩
  have HCN : Hid (∀ x ∈ p.qs, x.ans.length ≤ 9223372036854775807) := Lib.hid (fun x hx => by have := (HSM.out (by first | exact trivial | rfl)).2 x hx; omega)
  go_wp2_with fail
  refine (format_any W3 p (HPA.out W3 HB3.out).1 (by have := HWF.out.1.len; omega) (HPA.out W3 HB3.out).2.2.1).mono ?_
  rintro e W4 ⟨s, b1, rfl, hf1, hb4⟩
  have HB4 := Lib.hid (HB3.out.trans (hb4.mono HB3.out.size))
  have HF1 := Lib.hid hf1
  obtain ⟨_, g0, g1, g2⟩ := CELLS.out W4 HB4.out
  clear hb4 hf1 f0 f1 f2
  go_wp2_with fail
  refine (format_any W4 q (HPA.out W4 HB4.out).2.1 (by have := HWF.out.2.len; omega) (HPA.out W4 HB4.out).2.2.1).mono ?_
  rintro e W5 ⟨t, b2, rfl, hf2, hb5⟩
  have HB5 := Lib.hid (HB4.out.trans (hb5.mono HB4.out.size))
  obtain ⟨⟨f0, f1, f2⟩, g0, g1, g2⟩ := CELLS.out W5 HB5.out
  clear hb5
  have EQ := Lib.hid (fun W (h : Below W0.heap.size W0 W) => equalP_any W p q (HPA.out W h).1 (HPA.out W h).2.1 (by have := HWF.out.1.len; omega) HCN.out)
  have SM := Lib.hid (fun W (h : Below W0.heap.size W0 W) => same_any W p q (HPA.out W h).1 (HPA.out W h).2.1 (by have := HWF.out.1.len; omega) HCN.out)
  have EC := Lib.hid (fun W (h : Below W0.heap.size W0 W) => equalP_any W p p (HPA.out W h).1 (HPA.out W h).1 (by have := HWF.out.1.len; omega) HCN.out)
  rw [show tb (conOf p = conOf p) = true from tb_true rfl] at EC
  obtain ⟨B, hB⟩ : ∃ b, b = tb (conOf p = conOf q) := ⟨_, rfl⟩
  rw [← hB] at EQ SM
  have hbb : (B == B) = true := by simp
  have hbn : (B != B) = false := by simp
  rcases HF1.out with ⟨ok1, hs1, rfl⟩ | ⟨n1, hs1, rfl⟩
  · rcases hf2 with ⟨ok2, hs2, rfl⟩ | ⟨n2, hs2, rfl⟩
    · have hst : (s.toList == t.toList) = B := by
        rw [hB]
        by_cases hc : conOf p = conOf q
        · rw [tb_true hc]
          exact str_eq (by rw [hs1, hs2, text_con hc])
        · rw [tb_false hc]
          exact str_ne (fun e => hc (text_inj ok1 ok2 (bs_inj (by rw [← hs1, ← hs2]; exact e))))
      clear hs1 hs2 ok1 ok2 hB
      go_wp2_with fail
      refine (EQ.out W5 HB5.out).mono ?_
      rintro e W6 ⟨rfl, hb6⟩
      have HB6 := Lib.hid (HB5.out.trans (hb6.mono HB5.out.size))
      clear hb6 f0 f1 f2 g0 g1 g2
      go_wp2_with fail
      refine wp_region_held_drew (S := fun Y => Below W0.heap.size W0 Y) (by kernel_rfl) (HB6.out.drew) (fun hHeld => ?_)
      refine wpAnyH_take (i := 0) (v := .agg #[.string p.name, .int .i64 p.ver, .slice p.qA p.qs.length p.qc]) rfl (by kernel_rfl) (by kernel_rfl) (by kernel_rfl) (fun _ _ _ h => h) (Or.inl ⟨by rfl, ?_⟩) (by assumption) ?_
      · intro w hSw
        obtain ⟨⟨s0, s1, s2⟩, t0, t1, t2⟩ := CELLS.out _ hSw
        go_simp
      show wpAnyH _ _ _ _ _ _ _ (Act.put _ (some 44) _) _
      simp only [Act.put, List.setIfInBounds_toArray, List.set_cons_zero, List.set_cons_succ]
      refine wpAnyH_take (i := 1) (v := .agg #[.string q.name, .int .i64 q.ver, .slice q.qA q.qs.length q.qc]) rfl (by kernel_rfl) (by kernel_rfl) (by kernel_rfl) (fun _ _ _ h => h) (Or.inl ⟨by rfl, ?_⟩) (by assumption) ?_
      · intro w hSw
        obtain ⟨⟨s0, s1, s2⟩, t0, t1, t2⟩ := CELLS.out _ hSw
        go_simp
      show wpAnyH _ _ _ _ _ _ _ (Act.put _ (some 45) _) _
      simp only [Act.put, List.setIfInBounds_toArray, List.set_cons_zero, List.set_cons_succ]
      refine wpAnyH_take (i := 3) (v := .agg #[.string p.name, .int .i64 p.ver, .slice p.qA p.qs.length p.qc]) rfl (by kernel_rfl) (by kernel_rfl) (by kernel_rfl) (fun _ _ _ h => h) (Or.inl ⟨by rfl, ?_⟩) (by assumption) ?_
      · intro w hSw
        obtain ⟨⟨s0, s1, s2⟩, t0, t1, t2⟩ := CELLS.out _ hSw
        go_simp
      show wpAnyH _ _ _ _ _ _ _ (Act.put _ (some 47) _) _
      simp only [Act.put, List.setIfInBounds_toArray, List.set_cons_zero, List.set_cons_succ]
      refine wpAnyH_take (i := 4) (v := .agg #[.string q.name, .int .i64 q.ver, .slice q.qA q.qs.length q.qc]) rfl (by kernel_rfl) (by kernel_rfl) (by kernel_rfl) (fun _ _ _ h => h) (Or.inl ⟨by rfl, ?_⟩) (by assumption) ?_
      · intro w hSw
        obtain ⟨⟨s0, s1, s2⟩, t0, t1, t2⟩ := CELLS.out _ hSw
        go_simp
      show wpAnyH _ _ _ _ _ _ _ (Act.put _ (some 48) _) _
      simp only [Act.put, List.setIfInBounds_toArray, List.set_cons_zero, List.set_cons_succ]
      refine wpAnyH_ready (rs := [2]) (by kernel_rfl) (by simp) ?_
      refine AllReadyH.cons rfl (fun K hK => ?_) AllReadyH.nil
      go_simp
      refine (EQ.out _ hHeld).mono ?_
      rintro e V1 ⟨rfl, hq1⟩
      go_simp
      refine hK.out _ _ (hHeld.trans (hq1.mono hHeld.size)) (fun hHeld => ?_)
      clear hK K
      refine wpAnyH_ready (rs := [5]) (by kernel_rfl) (by simp) ?_
      refine AllReadyH.cons rfl (fun K hK => ?_) AllReadyH.nil
      go_simp
      refine (SM.out _ hHeld).mono ?_
      rintro e V2 ⟨rfl, hq2⟩
      go_simp
      refine hK.out _ _ (hHeld.trans (hq2.mono hHeld.size)) (fun hHeld => ?_)
      clear hK K
      refine wpAnyH_take (i := 6) (v := .bool true) rfl (by kernel_rfl) (by kernel_rfl) (by kernel_rfl) (fun _ _ _ h => h) (Or.inl ⟨by rfl, ?_⟩) (by assumption) ?_
      · intro w hSw
        go_simp
      show wpAnyH _ _ _ _ _ _ _ (Act.put _ (some 50) _) _
      simp only [Act.put, List.setIfInBounds_toArray, List.set_cons_zero, List.set_cons_succ]
      refine wpAnyH_take (i := 7) (v := .bool true) rfl (by kernel_rfl) (by kernel_rfl) (by kernel_rfl) (fun _ _ _ h => h) (Or.inl ⟨by rfl, ?_⟩) (by assumption) ?_
      · intro w hSw
        go_simp
      show wpAnyH _ _ _ _ _ _ _ (Act.put _ (some 51) _) _
      simp only [Act.put, List.setIfInBounds_toArray, List.set_cons_zero, List.set_cons_succ]
      refine wpAnyH_take (i := 8) (v := .agg #[.string p.name, .int .i64 p.ver, .slice p.qA p.qs.length p.qc]) rfl (by kernel_rfl) (by kernel_rfl) (by kernel_rfl) (fun _ _ _ h => h) (Or.inl ⟨by rfl, ?_⟩) (by assumption) ?_
      · intro w hSw
        obtain ⟨⟨s0, s1, s2⟩, t0, t1, t2⟩ := CELLS.out _ hSw
        go_simp
      show wpAnyH _ _ _ _ _ _ _ (Act.put _ (some 52) _) _
      simp only [Act.put, List.setIfInBounds_toArray, List.set_cons_zero, List.set_cons_succ]
      refine wpAnyH_take (i := 9) (v := .agg #[.string p.name, .int .i64 p.ver, .slice p.qA p.qs.length p.qc]) rfl (by kernel_rfl) (by kernel_rfl) (by kernel_rfl) (fun _ _ _ h => h) (Or.inl ⟨by rfl, ?_⟩) (by assumption) ?_
      · intro w hSw
        obtain ⟨⟨s0, s1, s2⟩, t0, t1, t2⟩ := CELLS.out _ hSw
        go_simp
      show wpAnyH _ _ _ _ _ _ _ (Act.put _ (some 53) _) _
      simp only [Act.put, List.setIfInBounds_toArray, List.set_cons_zero, List.set_cons_succ]
      refine wpAnyH_ready (rs := [10]) (by kernel_rfl) (by simp) ?_
      refine AllReadyH.cons rfl (fun K hK => ?_) AllReadyH.nil
      go_simp
      refine (EC.out _ hHeld).mono ?_
      rintro e V3 ⟨rfl, hq3⟩
      go_simp
      refine hK.out _ _ (hHeld.trans (hq3.mono hHeld.size)) (fun hHeld => ?_)
      clear hK K
      refine wpAnyH_take (i := 11) (v := .bool true) rfl (by kernel_rfl) (by kernel_rfl) (by kernel_rfl) (fun _ _ _ h => h) (Or.inl ⟨by rfl, ?_⟩) (by assumption) ?_
      · intro w hSw
        go_simp
      show wpAnyH _ _ _ _ _ _ _ (Act.put _ (some 55) _) _
      simp only [Act.put, List.setIfInBounds_toArray, List.set_cons_zero, List.set_cons_succ]
      refine wpAnyH_take (i := 12) (v := .bool true) rfl (by kernel_rfl) (by kernel_rfl) (by kernel_rfl) (fun _ _ _ h => h) (Or.inl ⟨by rfl, ?_⟩) (by assumption) ?_
      · intro w hSw
        go_simp
      show wpAnyH _ _ _ _ _ _ _ (Act.put _ (some 4) _) _
      simp only [Act.put, List.setIfInBounds_toArray, List.set_cons_zero, List.set_cons_succ]
      refine wpAnyH_done (by kernel_rfl) ?_ _
      go_wp2_with fail
      go_ret
      exact ⟨rfl, (HPA.out _ hHeld).2.2.2⟩
    · clear hs1 hs2 ok1 n2 hB
      go_wp2_with fail
      clear f0 f1 f2 g0 g1 g2
      refine wp_region_held_drew (S := fun Y => Below W0.heap.size W0 Y) (by kernel_rfl) (HB5.out.drew) (fun hHeld => ?_)
      refine wpAnyH_take (i := 0) (v := .agg #[.string p.name, .int .i64 p.ver, .slice p.qA p.qs.length p.qc]) rfl (by kernel_rfl) (by kernel_rfl) (by kernel_rfl) (fun _ _ _ h => h) (Or.inl ⟨by rfl, ?_⟩) (by assumption) ?_
      · intro w hSw
        obtain ⟨⟨s0, s1, s2⟩, t0, t1, t2⟩ := CELLS.out _ hSw
        go_simp
      show wpAnyH _ _ _ _ _ _ _ (Act.put _ (some 44) _) _
      simp only [Act.put, List.setIfInBounds_toArray, List.set_cons_zero, List.set_cons_succ]
      refine wpAnyH_take (i := 1) (v := .agg #[.string q.name, .int .i64 q.ver, .slice q.qA q.qs.length q.qc]) rfl (by kernel_rfl) (by kernel_rfl) (by kernel_rfl) (fun _ _ _ h => h) (Or.inl ⟨by rfl, ?_⟩) (by assumption) ?_
      · intro w hSw
        obtain ⟨⟨s0, s1, s2⟩, t0, t1, t2⟩ := CELLS.out _ hSw
        go_simp
      show wpAnyH _ _ _ _ _ _ _ (Act.put _ (some 45) _) _
      simp only [Act.put, List.setIfInBounds_toArray, List.set_cons_zero, List.set_cons_succ]
      refine wpAnyH_take (i := 3) (v := .agg #[.string p.name, .int .i64 p.ver, .slice p.qA p.qs.length p.qc]) rfl (by kernel_rfl) (by kernel_rfl) (by kernel_rfl) (fun _ _ _ h => h) (Or.inl ⟨by rfl, ?_⟩) (by assumption) ?_
      · intro w hSw
        obtain ⟨⟨s0, s1, s2⟩, t0, t1, t2⟩ := CELLS.out _ hSw
        go_simp
      show wpAnyH _ _ _ _ _ _ _ (Act.put _ (some 47) _) _
      simp only [Act.put, List.setIfInBounds_toArray, List.set_cons_zero, List.set_cons_succ]
      refine wpAnyH_take (i := 4) (v := .agg #[.string q.name, .int .i64 q.ver, .slice q.qA q.qs.length q.qc]) rfl (by kernel_rfl) (by kernel_rfl) (by kernel_rfl) (fun _ _ _ h => h) (Or.inl ⟨by rfl, ?_⟩) (by assumption) ?_
      · intro w hSw
        obtain ⟨⟨s0, s1, s2⟩, t0, t1, t2⟩ := CELLS.out _ hSw
        go_simp
      show wpAnyH _ _ _ _ _ _ _ (Act.put _ (some 48) _) _
      simp only [Act.put, List.setIfInBounds_toArray, List.set_cons_zero, List.set_cons_succ]
      refine wpAnyH_ready (rs := [2]) (by kernel_rfl) (by simp) ?_
      refine AllReadyH.cons rfl (fun K hK => ?_) AllReadyH.nil
      go_simp
      refine (EQ.out _ hHeld).mono ?_
      rintro e V1 ⟨rfl, hq1⟩
      go_simp
      refine hK.out _ _ (hHeld.trans (hq1.mono hHeld.size)) (fun hHeld => ?_)
      clear hK K
      refine wpAnyH_ready (rs := [5]) (by kernel_rfl) (by simp) ?_
      refine AllReadyH.cons rfl (fun K hK => ?_) AllReadyH.nil
      go_simp
      refine (SM.out _ hHeld).mono ?_
      rintro e V2 ⟨rfl, hq2⟩
      go_simp
      refine hK.out _ _ (hHeld.trans (hq2.mono hHeld.size)) (fun hHeld => ?_)
      clear hK K
      refine wpAnyH_take (i := 6) (v := .bool true) rfl (by kernel_rfl) (by kernel_rfl) (by kernel_rfl) (fun _ _ _ h => h) (Or.inl ⟨by rfl, ?_⟩) (by assumption) ?_
      · intro w hSw
        go_simp
      show wpAnyH _ _ _ _ _ _ _ (Act.put _ (some 50) _) _
      simp only [Act.put, List.setIfInBounds_toArray, List.set_cons_zero, List.set_cons_succ]
      refine wpAnyH_take (i := 7) (v := .bool true) rfl (by kernel_rfl) (by kernel_rfl) (by kernel_rfl) (fun _ _ _ h => h) (Or.inl ⟨by rfl, ?_⟩) (by assumption) ?_
      · intro w hSw
        go_simp
      show wpAnyH _ _ _ _ _ _ _ (Act.put _ (some 51) _) _
      simp only [Act.put, List.setIfInBounds_toArray, List.set_cons_zero, List.set_cons_succ]
      refine wpAnyH_take (i := 8) (v := .agg #[.string p.name, .int .i64 p.ver, .slice p.qA p.qs.length p.qc]) rfl (by kernel_rfl) (by kernel_rfl) (by kernel_rfl) (fun _ _ _ h => h) (Or.inl ⟨by rfl, ?_⟩) (by assumption) ?_
      · intro w hSw
        obtain ⟨⟨s0, s1, s2⟩, t0, t1, t2⟩ := CELLS.out _ hSw
        go_simp
      show wpAnyH _ _ _ _ _ _ _ (Act.put _ (some 52) _) _
      simp only [Act.put, List.setIfInBounds_toArray, List.set_cons_zero, List.set_cons_succ]
      refine wpAnyH_take (i := 9) (v := .agg #[.string p.name, .int .i64 p.ver, .slice p.qA p.qs.length p.qc]) rfl (by kernel_rfl) (by kernel_rfl) (by kernel_rfl) (fun _ _ _ h => h) (Or.inl ⟨by rfl, ?_⟩) (by assumption) ?_
      · intro w hSw
        obtain ⟨⟨s0, s1, s2⟩, t0, t1, t2⟩ := CELLS.out _ hSw
        go_simp
      show wpAnyH _ _ _ _ _ _ _ (Act.put _ (some 53) _) _
      simp only [Act.put, List.setIfInBounds_toArray, List.set_cons_zero, List.set_cons_succ]
      refine wpAnyH_ready (rs := [10]) (by kernel_rfl) (by simp) ?_
      refine AllReadyH.cons rfl (fun K hK => ?_) AllReadyH.nil
      go_simp
      refine (EC.out _ hHeld).mono ?_
      rintro e V3 ⟨rfl, hq3⟩
      go_simp
      refine hK.out _ _ (hHeld.trans (hq3.mono hHeld.size)) (fun hHeld => ?_)
      clear hK K
      refine wpAnyH_take (i := 11) (v := .bool true) rfl (by kernel_rfl) (by kernel_rfl) (by kernel_rfl) (fun _ _ _ h => h) (Or.inl ⟨by rfl, ?_⟩) (by assumption) ?_
      · intro w hSw
        go_simp
      show wpAnyH _ _ _ _ _ _ _ (Act.put _ (some 55) _) _
      simp only [Act.put, List.setIfInBounds_toArray, List.set_cons_zero, List.set_cons_succ]
      refine wpAnyH_take (i := 12) (v := .bool true) rfl (by kernel_rfl) (by kernel_rfl) (by kernel_rfl) (fun _ _ _ h => h) (Or.inl ⟨by rfl, ?_⟩) (by assumption) ?_
      · intro w hSw
        go_simp
      show wpAnyH _ _ _ _ _ _ _ (Act.put _ (some 4) _) _
      simp only [Act.put, List.setIfInBounds_toArray, List.set_cons_zero, List.set_cons_succ]
      refine wpAnyH_done (by kernel_rfl) ?_ _
      go_wp2_with fail
      go_ret
      exact ⟨rfl, (HPA.out _ hHeld).2.2.2⟩
  · clear hs1 n1 hB hf2
    go_wp2_with fail
    clear f0 f1 f2 g0 g1 g2
    refine wp_region_held_drew (S := fun Y => Below W0.heap.size W0 Y) (by kernel_rfl) (HB5.out.drew) (fun hHeld => ?_)
    refine wpAnyH_take (i := 0) (v := .agg #[.string p.name, .int .i64 p.ver, .slice p.qA p.qs.length p.qc]) rfl (by kernel_rfl) (by kernel_rfl) (by kernel_rfl) (fun _ _ _ h => h) (Or.inl ⟨by rfl, ?_⟩) (by assumption) ?_
    · intro w hSw
      obtain ⟨⟨s0, s1, s2⟩, t0, t1, t2⟩ := CELLS.out _ hSw
      go_simp
    show wpAnyH _ _ _ _ _ _ _ (Act.put _ (some 44) _) _
    simp only [Act.put, List.setIfInBounds_toArray, List.set_cons_zero, List.set_cons_succ]
    refine wpAnyH_take (i := 1) (v := .agg #[.string q.name, .int .i64 q.ver, .slice q.qA q.qs.length q.qc]) rfl (by kernel_rfl) (by kernel_rfl) (by kernel_rfl) (fun _ _ _ h => h) (Or.inl ⟨by rfl, ?_⟩) (by assumption) ?_
    · intro w hSw
      obtain ⟨⟨s0, s1, s2⟩, t0, t1, t2⟩ := CELLS.out _ hSw
      go_simp
    show wpAnyH _ _ _ _ _ _ _ (Act.put _ (some 45) _) _
    simp only [Act.put, List.setIfInBounds_toArray, List.set_cons_zero, List.set_cons_succ]
    refine wpAnyH_take (i := 3) (v := .agg #[.string p.name, .int .i64 p.ver, .slice p.qA p.qs.length p.qc]) rfl (by kernel_rfl) (by kernel_rfl) (by kernel_rfl) (fun _ _ _ h => h) (Or.inl ⟨by rfl, ?_⟩) (by assumption) ?_
    · intro w hSw
      obtain ⟨⟨s0, s1, s2⟩, t0, t1, t2⟩ := CELLS.out _ hSw
      go_simp
    show wpAnyH _ _ _ _ _ _ _ (Act.put _ (some 47) _) _
    simp only [Act.put, List.setIfInBounds_toArray, List.set_cons_zero, List.set_cons_succ]
    refine wpAnyH_take (i := 4) (v := .agg #[.string q.name, .int .i64 q.ver, .slice q.qA q.qs.length q.qc]) rfl (by kernel_rfl) (by kernel_rfl) (by kernel_rfl) (fun _ _ _ h => h) (Or.inl ⟨by rfl, ?_⟩) (by assumption) ?_
    · intro w hSw
      obtain ⟨⟨s0, s1, s2⟩, t0, t1, t2⟩ := CELLS.out _ hSw
      go_simp
    show wpAnyH _ _ _ _ _ _ _ (Act.put _ (some 48) _) _
    simp only [Act.put, List.setIfInBounds_toArray, List.set_cons_zero, List.set_cons_succ]
    refine wpAnyH_ready (rs := [2]) (by kernel_rfl) (by simp) ?_
    refine AllReadyH.cons rfl (fun K hK => ?_) AllReadyH.nil
    go_simp
    refine (EQ.out _ hHeld).mono ?_
    rintro e V1 ⟨rfl, hq1⟩
    go_simp
    refine hK.out _ _ (hHeld.trans (hq1.mono hHeld.size)) (fun hHeld => ?_)
    clear hK K
    refine wpAnyH_ready (rs := [5]) (by kernel_rfl) (by simp) ?_
    refine AllReadyH.cons rfl (fun K hK => ?_) AllReadyH.nil
    go_simp
    refine (SM.out _ hHeld).mono ?_
    rintro e V2 ⟨rfl, hq2⟩
    go_simp
    refine hK.out _ _ (hHeld.trans (hq2.mono hHeld.size)) (fun hHeld => ?_)
    clear hK K
    refine wpAnyH_take (i := 6) (v := .bool true) rfl (by kernel_rfl) (by kernel_rfl) (by kernel_rfl) (fun _ _ _ h => h) (Or.inl ⟨by rfl, ?_⟩) (by assumption) ?_
    · intro w hSw
      go_simp
    show wpAnyH _ _ _ _ _ _ _ (Act.put _ (some 50) _) _
    simp only [Act.put, List.setIfInBounds_toArray, List.set_cons_zero, List.set_cons_succ]
    refine wpAnyH_take (i := 7) (v := .bool true) rfl (by kernel_rfl) (by kernel_rfl) (by kernel_rfl) (fun _ _ _ h => h) (Or.inl ⟨by rfl, ?_⟩) (by assumption) ?_
    · intro w hSw
      go_simp
    show wpAnyH _ _ _ _ _ _ _ (Act.put _ (some 51) _) _
    simp only [Act.put, List.setIfInBounds_toArray, List.set_cons_zero, List.set_cons_succ]
    refine wpAnyH_take (i := 8) (v := .agg #[.string p.name, .int .i64 p.ver, .slice p.qA p.qs.length p.qc]) rfl (by kernel_rfl) (by kernel_rfl) (by kernel_rfl) (fun _ _ _ h => h) (Or.inl ⟨by rfl, ?_⟩) (by assumption) ?_
    · intro w hSw
      obtain ⟨⟨s0, s1, s2⟩, t0, t1, t2⟩ := CELLS.out _ hSw
      go_simp
    show wpAnyH _ _ _ _ _ _ _ (Act.put _ (some 52) _) _
    simp only [Act.put, List.setIfInBounds_toArray, List.set_cons_zero, List.set_cons_succ]
    refine wpAnyH_take (i := 9) (v := .agg #[.string p.name, .int .i64 p.ver, .slice p.qA p.qs.length p.qc]) rfl (by kernel_rfl) (by kernel_rfl) (by kernel_rfl) (fun _ _ _ h => h) (Or.inl ⟨by rfl, ?_⟩) (by assumption) ?_
    · intro w hSw
      obtain ⟨⟨s0, s1, s2⟩, t0, t1, t2⟩ := CELLS.out _ hSw
      go_simp
    show wpAnyH _ _ _ _ _ _ _ (Act.put _ (some 53) _) _
    simp only [Act.put, List.setIfInBounds_toArray, List.set_cons_zero, List.set_cons_succ]
    refine wpAnyH_ready (rs := [10]) (by kernel_rfl) (by simp) ?_
    refine AllReadyH.cons rfl (fun K hK => ?_) AllReadyH.nil
    go_simp
    refine (EC.out _ hHeld).mono ?_
    rintro e V3 ⟨rfl, hq3⟩
    go_simp
    refine hK.out _ _ (hHeld.trans (hq3.mono hHeld.size)) (fun hHeld => ?_)
    clear hK K
    refine wpAnyH_take (i := 11) (v := .bool true) rfl (by kernel_rfl) (by kernel_rfl) (by kernel_rfl) (fun _ _ _ h => h) (Or.inl ⟨by rfl, ?_⟩) (by assumption) ?_
    · intro w hSw
      go_simp
    show wpAnyH _ _ _ _ _ _ _ (Act.put _ (some 55) _) _
    simp only [Act.put, List.setIfInBounds_toArray, List.set_cons_zero, List.set_cons_succ]
    refine wpAnyH_take (i := 12) (v := .bool true) rfl (by kernel_rfl) (by kernel_rfl) (by kernel_rfl) (fun _ _ _ h => h) (Or.inl ⟨by rfl, ?_⟩) (by assumption) ?_
    · intro w hSw
      go_simp
    show wpAnyH _ _ _ _ _ _ _ (Act.put _ (some 4) _) _
    simp only [Act.put, List.setIfInBounds_toArray, List.set_cons_zero, List.set_cons_succ]
    refine wpAnyH_done (by kernel_rfl) ?_ _
    go_wp2_with fail
    go_ret
    exact ⟨rfl, (HPA.out _ hHeld).2.2.2⟩

theorem laid_met (os : Os) : laidMet Tryz.prog Rows.protocolEqualityRow.laid ((World.laidAll Tryz.prog os Rows.protocolEqualityRow.laid).forCall (fun _ _ => 0) ⟨#[], #[.agg #[.string ⟨#[]⟩, .int .i64 0, .slice none 0 0], .agg #[.string ⟨#[]⟩, .int .i64 0, .slice none 0 0]], []⟩).memory :=
  laidMet_laidAll _ (laid_fits os) (laid_ifaces os)
theorem reads (os : Os) {H : Type} (enc : TypeId × Value → H) : ∃ places, DataW.whole enc Tryz.prog ((World.laidAll Tryz.prog os Rows.protocolEqualityRow.laid).forCall (fun _ _ => 0) ⟨#[], #[.agg #[.string ⟨#[]⟩, .int .i64 0, .slice none 0 0], .agg #[.string ⟨#[]⟩, .int .i64 0, .slice none 0 0]], []⟩).memory Tryz.f7.params.toList Rows.protocolEqualitySpec.vars false #[Value.agg #[.string ⟨#[]⟩, .int .i64 0, .slice none 0 0], .agg #[.string ⟨#[]⟩, .int .i64 0, .slice none 0 0]].toList 8 = some ([.agg [.lit (.string []), .lit (.int .i64 0), .nil], .agg [.lit (.string []), .lit (.int .i64 0), .nil]], [], places) :=
  ⟨[], by kernel_rfl⟩

set_option maxRecDepth 100000 in
theorem lifted (os : Os) (started : os.Started) (H : Type) (enc : TypeId × Value → H) (F : Stop.Interp) :
    ReturnsInHanded {} Tryz.checked os 7 .any ((OpenSpec.ofChange Rows.protocolEqualitySpec).preRow enc Tryz.prog Tryz.f7 Rows.protocolEqualityRow.domain false Rows.protocolEqualityRow.laid) (((OpenSpec.ofChange Rows.protocolEqualitySpec).at F).post enc Tryz.prog Tryz.f7 false true false false) := by
  obtain ⟨places, hx⟩ := reads os enc
  refine returnsInHanded_of_row (C := Tryz.checked) (s := OpenSpec.ofChange Rows.protocolEqualitySpec) own started (by kernel_rfl) Tryz.func7
    (witness_row_atRef (enc := enc) (C := Tryz.checked) false (World.laidAll Tryz.prog os Rows.protocolEqualityRow.laid) #[.agg #[.string ⟨#[]⟩, .int .i64 0, .slice none 0 0], .agg #[.string ⟨#[]⟩, .int .i64 0, .slice none 0 0]] (World.laidAll_os _ _ _) (laid_vars os _) (laid_rest os _) (by kernel_rfl)
      (OpenSpec.preRow_of_cond 8 hx (by kernel_rfl) (fun k hk => by cases hk) (by kernel_rfl) (laid_met os))) ?_
  intro W base args ds gs before hval0 hW _ _ _ hLH hSh _
  have hL0 := hLH
  rw [MakeChecks.laidMetH_plain _ _ _ (by kernel_rfl)] at hL0
  have hL : laidMet Tryz.prog Rows.protocolEqualityRow.laid W := hL0
  clear hL0
  have hr : Ready W := ready_of hL.tail.tail hL.tail.tail.tail.tail.tail hL.tail.tail.tail.tail hSh
  have hval : ∀ (j : Nat) t v, Tryz.f7.params[j]? = some t → args[j]? = some v → Value.okWide Tryz.prog W .any base t v := hval0
  have hW' := hW
  obtain ⟨p, q, hA0, hV, rfl, hfz, hnd⟩ := hW
  have hA : DataW.TrodAll enc Tryz.prog W 0 (fun _ => true) true Tryz.f7.params.toList args.toList ds p := hA0
  rw [Tryz.params7] at hA hval
  obtain ⟨v0, vs0, d0, ds0, p0, q0, hargs, rfl, rfl, h0, r0⟩ := trodAll_cons hA
  obtain ⟨v1, vs1, d1, ds1, p1, q1, rfl, rfl, rfl, h1, r1⟩ := trodAll_cons r0
  obtain ⟨rfl, rfl, rfl⟩ := trodAll_nil r1
  obtain rfl : args = #[v0, v1] := by cases args; simp_all
  obtain ⟨rfl, rfl⟩ := trodVars_none hV
  obtain ⟨p0, rfl, hp0⟩ := open_prot (hval 0 24 v0 rfl rfl) h0
  obtain ⟨p1, rfl, hp1⟩ := open_prot (hval 1 24 v1 rfl rfl) h1
  clear hA0 hval0
  refine (walk W p0 hp0 p1 hp1 hr).mono fun e W' ⟨he, hb⟩ => ?_
  subst he
  exact ⟨_, rfl, law_post laidOut (by kernel_rfl) rfl Tryz.underlying4 rfl hW' rfl rfl rfl hb⟩

theorem said : Rows.ProtocolEqualitySaid :=
  OpenClaim.holds_of_cond 7 Tryz.f7 rfl rfl rfl rfl rfl rfl rfl ⟨rfl, rfl, rfl, rfl, rfl⟩ rfl rfl rfl rfl rfl (by kernel_rfl) Tryz.func7 (by kernel_rfl)
    (of_decide_eq_true (by kernel_rfl)) (by unfold Func.isWrapper; first | (rw [if_pos (by decide +kernel)]; kernel_rfl) | (rw [if_neg (by decide +kernel)]; exact ⟨rfl, rfl⟩))
    (fun os started H enc _ F => by rw [OpenClaim.pre_eq_preRow]; exact lifted os started H enc F)

/-- No parameter wants a stand-in; the program's looks are those of the card. -/
theorem plain (f : FuncId) (fn : Func) (hf : Tryz.pinned.checked.prog.funcNamed "samaritan/samaritanlaw12.ProtocolEquality" = some f) (hfn : Tryz.pinned.checked.prog.funcs[f]? = some fn) :
    true = Tryz.pinned.checked.prog.looks [] ∧ ∀ (j : Nat) t, fn.params[j]? = some t → Tryz.pinned.checked.prog.wantsStandIn t = false := by
  obtain rfl : f = 7 := Option.some.inj ((show Tryz.prog.funcNamed "samaritan/samaritanlaw12.ProtocolEquality" = some 7 by kernel_rfl).symm.trans hf) |>.symm
  obtain rfl : fn = Tryz.f7 := (Option.some.inj (Tryz.func7.symm.trans hfn)).symm
  refine ⟨by kernel_rfl, fun j t ht => ?_⟩
  rw [Tryz.params7] at ht
  have hm := Array.mem_of_getElem? ht
  have hall : (#[24, 24] : Array TypeId).toList.all (fun t => Tryz.prog.wantsStandIn t == false) = true := by kernel_rfl
  have := List.all_eq_true.1 hall t (by simpa using hm)
  exact beq_iff_eq.1 this

theorem card : Rows.ProtocolEqualityCardSaid :=
  Claim7.holds_tied_plain_at .later [] _ _ _ _ said (fun _ h => by cases h) (by kernel_rfl) (fun _ h => by cases h) protocolEquality_row_tie rfl ⟨rfl, rfl⟩ (by kernel_rfl) rfl plain (by kernel_rfl)
#print axioms card
end Go.Proofs.YtbbklideciappaaGreatDoor.l12Equality
