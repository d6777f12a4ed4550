/-
  samaritanlaw12.ProtocolRoundTrips returns true for every input, and the arguments read afterwards as before.
  Conditions: those of the given row (its list of package variables), tied to the program's text by the given tie; the card speaks of the pruned copy of the project that the seat was translated from.
-/
import Derived.Test.YtbbklideciappaaGreatDoorCards
import Derived.Test.YtbbklideciappaaGreatDoorTie
import Derived.Test.YtbbklideciappaaGreatDoorPqO
import Derived.Test.YtbbklideciappaaGreatDoorPqIW
import Derived.Test.YtbbklideciappaaGreatDoorPqS
import Derived.Test.YtbbklideciappaaGreatDoorPqSl
import Derived.Test.YtbbklideciappaaGreatDoorPqJE
import Derived.Test.YtbbklideciappaaGreatDoorLift
import Derived.Test.YtbbklideciappaaGreatDoorPqLd
import Derived.OpenShut
import Derived.Deep.RegionHeld3
import Derived.Deep.DeepHandedRow
namespace Go.Proofs.YtbbklideciappaaGreatDoor.l12RoundTrips
open Go.ChangeShapes Go.WideShapes Go.ChangeAt Go.RowKit Go.Maps
open Go.ChangeMaps (open_string shut_string)

set_option maxRecDepth 100000 in
set_option maxHeartbeats 8000000 in
theorem walk (w : World) (p : Prot) (hp : ProtArg w p) (hr : Ready w) :
    Calls Tryz.prog 8 #[.agg #[.string p.name, .int .i64 p.ver, .slice p.qA p.qs.length p.qc]] w fun e w' => e = .returned (.bool true) ∧ Below w.heap.size w w' := by
  have hb0 := below_new w (.cells #[.string p.name, .int .i64 p.ver, .slice p.qA p.qs.length p.qc] 24)
  have hz0 := lt_new w (.cells #[.string p.name, .int .i64 p.ver, .slice p.qA p.qs.length p.qc] 24)
  obtain ⟨f0, f1, f2⟩ := fresh3 w (.string p.name) (.int .i64 p.ver) (.slice p.qA p.qs.length p.qc) 24
  obtain ⟨W0, hW0⟩ : ∃ W0, W0 = w.alloc (.cells #[.string p.name, .int .i64 p.ver, .slice p.qA p.qs.length p.qc] 24) := ⟨_, rfl⟩
  rw [← hW0] at hb0 f0 f1 f2 hz0
  have HAT := Lib.hid ((hp.at_.below hb0).more hb0.size)
  have HWF := Lib.hid hp.wf
  have HR := Lib.hid hr
  have HB0 := Lib.hid hb0
  clear hp hb0 hr
  go_enter Tryz.func8, Tryz.ntmps8
  go_wp2_with fail
  rw [← hW0]
  clear hW0
  refine (awake_any W0 (HR.out.below HB0.out)).mono ?_
  rintro e W1 ⟨rfl, hb1⟩
  have HB1 := Lib.hid hb1
  replace f0 := (hb1.cell (p := ⟨w.heap.size, 0, none⟩) hz0).trans f0
  replace f1 := (hb1.cell (p := ⟨w.heap.size, 1, none⟩) hz0).trans f1
  replace f2 := (hb1.cell (p := ⟨w.heap.size, 2, none⟩) hz0).trans f2
  have hz1 := Nat.lt_of_lt_of_le hz0 hb1.size
  clear hb1
  go_wp2_with fail
  refine (small_any W1 p ((HAT.out.below HB1.out).more HB1.out.size) HWF.out).mono ?_
  rintro e W2 ⟨⟨bg, hbg, rfl⟩, hb2⟩
  have HB2 := Lib.hid (HB1.out.trans (hb2.mono HB1.out.size))
  have HB02 := Lib.hid (HB0.out.trans (HB2.out.mono HB0.out.size))
  have HSM := Lib.hid hbg
  replace f0 := (hb2.cell (p := ⟨w.heap.size, 0, none⟩) hz1).trans f0
  replace f1 := (hb2.cell (p := ⟨w.heap.size, 1, none⟩) hz1).trans f1
  replace f2 := (hb2.cell (p := ⟨w.heap.size, 2, none⟩) hz1).trans f2
  have hz2 := Nat.lt_of_lt_of_le hz1 hb2.size
  clear hb2 hbg hz1
  cases bg
  · go_wp2_with fail
    go_ret
    exact ⟨rfl, HB02.out⟩
  have HCN := Lib.hid (show CntLe p 1000000000 from by have h1 := HSM.out rfl; exact ⟨by have := h1.1; omega, fun q hq => by have := h1.2 q hq; omega⟩)
  have HPA : Hid (∀ W, Below W2.heap.size W2 W → ProtAt W W.heap.size p ∧ Ready W ∧ Below w.heap.size w W) := Lib.hid (fun W hW => by
    have h1 : Below W0.heap.size W0 W := HB2.out.trans (hW.mono HB2.out.size)
    exact ⟨(HAT.out.below h1).more h1.size, HR.out.below (HB0.out.trans (h1.mono HB0.out.size)), HB0.out.trans (h1.mono HB0.out.size)⟩)
  have HF := Lib.hid (And.intro hz2 (And.intro f0 (And.intro f1 f2)))
  have CELLS : Hid (∀ W, Below W2.heap.size W2 W → W.cell? ⟨w.heap.size, 0, none⟩ = some (.string p.name) ∧ W.cell? ⟨w.heap.size, 1, none⟩ = some (.int .i64 p.ver) ∧ W.cell? ⟨w.heap.size, 2, none⟩ = some (.slice p.qA p.qs.length p.qc)) := Lib.hid (fun W h => ⟨(h.cell (p := ⟨w.heap.size, 0, none⟩) HF.out.1).trans HF.out.2.1, (h.cell (p := ⟨w.heap.size, 1, none⟩) HF.out.1).trans HF.out.2.2.1, (h.cell (p := ⟨w.heap.size, 2, none⟩) HF.out.1).trans HF.out.2.2.2⟩)
  go_wp2_with fail
  refine (format_any W2 p (HPA.out W2 (Below.refl _ _)).1 (by have := HWF.out.len; omega) (HPA.out W2 (Below.refl _ _)).2.1).mono ?_
  rintro e W3 ⟨s, b, rfl, hf1, hb3⟩
  have HB3 := Lib.hid hb3
  have HF1 := Lib.hid hf1
  clear hb3 hf1 f0 f1 f2
  obtain ⟨f0, f1, f2⟩ := CELLS.out W3 HB3.out
  go_wp2_with fail
  refine (validate_any W3 p (HPA.out W3 HB3.out).1 (by have := HWF.out.len; omega)).mono ?_
  rintro e W4 ⟨a, c, hs, rfl, hb4⟩
  obtain rfl : c = b := by
    rcases HF1.out with ⟨h1, h2, h3⟩ | ⟨h1, h2, h3⟩
    · rw [h3, hs.ok.2 h1]
    · rw [h3]
      rcases hs.two with q | q
      · exact absurd (hs.ok.1 q) h1
      · exact q
  have HB4 := Lib.hid (HB3.out.trans (hb4.mono HB3.out.size))
  clear hb4 hs f0 f1 f2
  rcases HF1.out with ⟨ok, hs, rfl⟩ | ⟨no, hs, rfl⟩
  rotate_left
  · have e1 := str_eq hs
    have e2 : s.toList = [] := by rw [hs, ByteArray.toList_eq]
    clear hs no
    go_wp2_with fail
    go_ret
    exact ⟨rfl, (HPA.out _ HB4.out).2.2⟩
  subst hs
  have HOK := Lib.hid ok
  have HPR := Lib.hid (parse_any (bs (textP p)) (by have := text_len ok; rw [bs_size]; omega) (linesP p) [] (by rw [bs_data, List.append_nil]; rfl) (lines_ten ok) (by simp) W4 (HPA.out W4 HB4.out).2.1)
  obtain ⟨s, hs⟩ : ∃ s, s = bs (textP p) := ⟨_, rfl⟩
  rw [← hs] at HPR ⊢
  clear hs ok HF1
  go_wp2_with fail
  refine HPR.out.mono ?_
  rintro e W5 ⟨u, a5, c5, rfl, hps, hat5, hcn5, hb5⟩
  unfold protV
  obtain ⟨hcon, rfl, rfl⟩ := hps.uni (parses_text HOK.out)
  have HB5 := Lib.hid (HB4.out.trans (hb5.mono HB4.out.size))
  have hb6 := below_new W5 (.cells #[.string u.name, .int .i64 u.ver, .slice u.qA u.qs.length u.qc] 24)
  have hz6 := lt_new W5 (.cells #[.string u.name, .int .i64 u.ver, .slice u.qA u.qs.length u.qc] 24)
  obtain ⟨k0, k1, k2⟩ := fresh3 W5 (.string u.name) (.int .i64 u.ver) (.slice u.qA u.qs.length u.qc) 24
  obtain ⟨W6, hW6⟩ : ∃ W6, W6 = W5.alloc (.cells #[.string u.name, .int .i64 u.ver, .slice u.qA u.qs.length u.qc] 24) := ⟨_, rfl⟩
  rw [← hW6] at hb6 hz6 k0 k1 k2
  have HB6 := Lib.hid (HB5.out.trans (hb6.mono HB5.out.size))
  have HU := Lib.hid (And.intro ((ProtAt.below hat5 hb6).more hb6.size) (And.intro hcn5 (And.intro hcon (And.intro hz6 (And.intro k0 (And.intro k1 k2))))))
  have HPB : Hid (∀ W, Below W6.heap.size W6 W → ProtAt W W.heap.size p ∧ ProtAt W W.heap.size u ∧ Ready W ∧ Below w.heap.size w W) := Lib.hid (fun W h => by
    obtain ⟨h1, h2, h3⟩ := HPA.out W (HB6.out.trans (h.mono HB6.out.size))
    exact ⟨h1, (ProtAt.below HU.out.1 h).more h.size, h2, h3⟩)
  have CELLS2 : Hid (∀ W, Below W6.heap.size W6 W → (W.cell? ⟨w.heap.size, 0, none⟩ = some (.string p.name) ∧ W.cell? ⟨w.heap.size, 1, none⟩ = some (.int .i64 p.ver) ∧ W.cell? ⟨w.heap.size, 2, none⟩ = some (.slice p.qA p.qs.length p.qc)) ∧ W.cell? ⟨W5.heap.size, 0, none⟩ = some (.string u.name) ∧ W.cell? ⟨W5.heap.size, 1, none⟩ = some (.int .i64 u.ver) ∧ W.cell? ⟨W5.heap.size, 2, none⟩ = some (.slice u.qA u.qs.length u.qc)) := Lib.hid (fun W h => by
    obtain ⟨_, _, _, h1, h2, h3, h4⟩ := HU.out
    exact ⟨CELLS.out W (HB6.out.trans (h.mono HB6.out.size)), (h.cell (p := ⟨W5.heap.size, 0, none⟩) h1).trans h2, (h.cell (p := ⟨W5.heap.size, 1, none⟩) h1).trans h3, (h.cell (p := ⟨W5.heap.size, 2, none⟩) h1).trans h4⟩)
  have SM := Lib.hid (fun W (h : Below W6.heap.size W6 W) => same_any W p u (HPB.out W h).1 (HPB.out W h).2.1 (by have := HWF.out.len; omega) (fun x hx => by have := (HCN.out.2 x hx); omega))
  have EQ := Lib.hid (fun W (h : Below W6.heap.size W6 W) => equalP_any W p u (HPB.out W h).1 (HPB.out W h).2.1 (by have := HWF.out.len; omega) (fun x hx => by have := (HCN.out.2 x hx); omega))
  rw [tb_true (HU.out.2.2.1.symm)] at SM EQ
  have C1 := Lib.hid (fun W (h : Below W6.heap.size W6 W) => checksum_any W u (HPB.out W h).2.1 (by have := HU.out.2.1.1; omega) (HPB.out W h).2.2.1)
  have C2 := Lib.hid (fun W (h : Below W6.heap.size W6 W) => checksum_any W p (HPB.out W h).1 (by have := HWF.out.len; omega) (HPB.out W h).2.2.1)
  rw [chk_con HU.out.2.2.1] at C1
  obtain ⟨C, hC⟩ : ∃ C, C = chk p := ⟨_, rfl⟩
  rw [← hC] at C1 C2
  have e3 : ((C : Int) == (C : Int)) = true := by simp
  clear hps hat5 hcn5 hb5 hcon hb6 hz6 k0 k1 k2 hC HPR
  go_wp2_with fail
  rw [← hW6]
  clear hW6
  refine wp_region_held_drew (S := fun Y => Below W6.heap.size W6 Y) (by kernel_rfl) ((Below.refl _ _).drew) (fun hHeld => ?_)
  refine wpAnyH_take (i := 0) (v := .int .i64 0) rfl (by kernel_rfl) (by kernel_rfl) (by kernel_rfl) (fun _ _ _ h => h) (Or.inl ⟨by rfl, ?_⟩) (by assumption) ?_
  · intro w hSw
    go_simp
  show wpAnyH _ _ _ _ _ _ _ (Act.put _ (some 45) _) _
  simp only [Act.put, List.setIfInBounds_toArray, List.set_cons_zero, List.set_cons_succ]
  refine wpAnyH_take (i := 1) (v := .bool true) rfl (by kernel_rfl) (by kernel_rfl) (by kernel_rfl) (fun _ _ _ h => h) (Or.inl ⟨by rfl, ?_⟩) (by assumption) ?_
  · intro w hSw
    go_simp
  show wpAnyH _ _ _ _ _ _ _ (Act.put _ (some 46) _) _
  simp only [Act.put, List.setIfInBounds_toArray, List.set_cons_zero, List.set_cons_succ]
  refine wpAnyH_take (i := 2) (v := .bool true) rfl (by kernel_rfl) (by kernel_rfl) (by kernel_rfl) (fun _ _ _ h => h) (Or.inl ⟨by rfl, ?_⟩) (by assumption) ?_
  · intro w hSw
    go_simp
  show wpAnyH _ _ _ _ _ _ _ (Act.put _ (some 47) _) _
  simp only [Act.put, List.setIfInBounds_toArray, List.set_cons_zero, List.set_cons_succ]
  refine wpAnyH_take (i := 3) (v := .int .i64 0) rfl (by kernel_rfl) (by kernel_rfl) (by kernel_rfl) (fun _ _ _ h => h) (Or.inl ⟨by rfl, ?_⟩) (by assumption) ?_
  · intro w hSw
    go_simp
  show wpAnyH _ _ _ _ _ _ _ (Act.put _ (some 48) _) _
  simp only [Act.put, List.setIfInBounds_toArray, List.set_cons_zero, List.set_cons_succ]
  refine wpAnyH_take (i := 4) (v := .bool true) rfl (by kernel_rfl) (by kernel_rfl) (by kernel_rfl) (fun _ _ _ h => h) (Or.inl ⟨by rfl, ?_⟩) (by assumption) ?_
  · intro w hSw
    go_simp
  show wpAnyH _ _ _ _ _ _ _ (Act.put _ (some 49) _) _
  simp only [Act.put, List.setIfInBounds_toArray, List.set_cons_zero, List.set_cons_succ]
  refine wpAnyH_take (i := 5) (v := .bool true) rfl (by kernel_rfl) (by kernel_rfl) (by kernel_rfl) (fun _ _ _ h => h) (Or.inl ⟨by rfl, ?_⟩) (by assumption) ?_
  · intro w hSw
    go_simp
  show wpAnyH _ _ _ _ _ _ _ (Act.put _ (some 50) _) _
  simp only [Act.put, List.setIfInBounds_toArray, List.set_cons_zero, List.set_cons_succ]
  refine wpAnyH_take (i := 6) (v := .bool true) rfl (by kernel_rfl) (by kernel_rfl) (by kernel_rfl) (fun _ _ _ h => h) (Or.inl ⟨by rfl, ?_⟩) (by assumption) ?_
  · intro w hSw
    go_simp
  show wpAnyH _ _ _ _ _ _ _ (Act.put _ (some 51) _) _
  simp only [Act.put, List.setIfInBounds_toArray, List.set_cons_zero, List.set_cons_succ]
  refine wpAnyH_take (i := 7) (v := .agg #[.string p.name, .int .i64 p.ver, .slice p.qA p.qs.length p.qc]) rfl (by kernel_rfl) (by kernel_rfl) (by kernel_rfl) (fun _ _ _ h => h) (Or.inl ⟨by rfl, ?_⟩) (by assumption) ?_
  · intro w hSw
    obtain ⟨⟨s0, s1, s2⟩, t0, t1, t2⟩ := CELLS2.out _ hSw
    go_simp
  show wpAnyH _ _ _ _ _ _ _ (Act.put _ (some 52) _) _
  simp only [Act.put, List.setIfInBounds_toArray, List.set_cons_zero, List.set_cons_succ]
  refine wpAnyH_take (i := 8) (v := .agg #[.string u.name, .int .i64 u.ver, .slice u.qA u.qs.length u.qc]) rfl (by kernel_rfl) (by kernel_rfl) (by kernel_rfl) (fun _ _ _ h => h) (Or.inl ⟨by rfl, ?_⟩) (by assumption) ?_
  · intro w hSw
    obtain ⟨⟨s0, s1, s2⟩, t0, t1, t2⟩ := CELLS2.out _ hSw
    go_simp
  show wpAnyH _ _ _ _ _ _ _ (Act.put _ (some 53) _) _
  simp only [Act.put, List.setIfInBounds_toArray, List.set_cons_zero, List.set_cons_succ]
  refine wpAnyH_ready (rs := [9]) (by kernel_rfl) (by simp) ?_
  refine AllReadyH.cons rfl (fun K hK => ?_) AllReadyH.nil
  go_simp
  refine (SM.out _ hHeld).mono ?_
  rintro e V1 ⟨rfl, hq1⟩
  go_simp
  refine hK.out _ _ (hHeld.trans (hq1.mono hHeld.size)) (fun hHeld => ?_)
  clear hK K
  refine wpAnyH_take (i := 10) (v := .bool true) rfl (by kernel_rfl) (by kernel_rfl) (by kernel_rfl) (fun _ _ _ h => h) (Or.inl ⟨by rfl, ?_⟩) (by assumption) ?_
  · intro w hSw
    go_simp
  show wpAnyH _ _ _ _ _ _ _ (Act.put _ (some 55) _) _
  simp only [Act.put, List.setIfInBounds_toArray, List.set_cons_zero, List.set_cons_succ]
  refine wpAnyH_take (i := 11) (v := .bool true) rfl (by kernel_rfl) (by kernel_rfl) (by kernel_rfl) (fun _ _ _ h => h) (Or.inl ⟨by rfl, ?_⟩) (by assumption) ?_
  · intro w hSw
    go_simp
  show wpAnyH _ _ _ _ _ _ _ (Act.put _ (some 56) _) _
  simp only [Act.put, List.setIfInBounds_toArray, List.set_cons_zero, List.set_cons_succ]
  refine wpAnyH_take (i := 12) (v := .agg #[.string p.name, .int .i64 p.ver, .slice p.qA p.qs.length p.qc]) rfl (by kernel_rfl) (by kernel_rfl) (by kernel_rfl) (fun _ _ _ h => h) (Or.inl ⟨by rfl, ?_⟩) (by assumption) ?_
  · intro w hSw
    obtain ⟨⟨s0, s1, s2⟩, t0, t1, t2⟩ := CELLS2.out _ hSw
    go_simp
  show wpAnyH _ _ _ _ _ _ _ (Act.put _ (some 57) _) _
  simp only [Act.put, List.setIfInBounds_toArray, List.set_cons_zero, List.set_cons_succ]
  refine wpAnyH_take (i := 13) (v := .agg #[.string u.name, .int .i64 u.ver, .slice u.qA u.qs.length u.qc]) rfl (by kernel_rfl) (by kernel_rfl) (by kernel_rfl) (fun _ _ _ h => h) (Or.inl ⟨by rfl, ?_⟩) (by assumption) ?_
  · intro w hSw
    obtain ⟨⟨s0, s1, s2⟩, t0, t1, t2⟩ := CELLS2.out _ hSw
    go_simp
  show wpAnyH _ _ _ _ _ _ _ (Act.put _ (some 58) _) _
  simp only [Act.put, List.setIfInBounds_toArray, List.set_cons_zero, List.set_cons_succ]
  refine wpAnyH_ready (rs := [14]) (by kernel_rfl) (by simp) ?_
  refine AllReadyH.cons rfl (fun K hK => ?_) AllReadyH.nil
  go_simp
  refine (EQ.out _ hHeld).mono ?_
  rintro e V2 ⟨rfl, hq2⟩
  go_simp
  refine hK.out _ _ (hHeld.trans (hq2.mono hHeld.size)) (fun hHeld => ?_)
  clear hK K
  refine wpAnyH_take (i := 15) (v := .bool true) rfl (by kernel_rfl) (by kernel_rfl) (by kernel_rfl) (fun _ _ _ h => h) (Or.inl ⟨by rfl, ?_⟩) (by assumption) ?_
  · intro w hSw
    go_simp
  show wpAnyH _ _ _ _ _ _ _ (Act.put _ (some 60) _) _
  simp only [Act.put, List.setIfInBounds_toArray, List.set_cons_zero, List.set_cons_succ]
  refine wpAnyH_take (i := 16) (v := .bool true) rfl (by kernel_rfl) (by kernel_rfl) (by kernel_rfl) (fun _ _ _ h => h) (Or.inl ⟨by rfl, ?_⟩) (by assumption) ?_
  · intro w hSw
    go_simp
  show wpAnyH _ _ _ _ _ _ _ (Act.put _ (some 61) _) _
  simp only [Act.put, List.setIfInBounds_toArray, List.set_cons_zero, List.set_cons_succ]
  refine wpAnyH_take (i := 17) (v := .agg #[.string u.name, .int .i64 u.ver, .slice u.qA u.qs.length u.qc]) rfl (by kernel_rfl) (by kernel_rfl) (by kernel_rfl) (fun _ _ _ h => h) (Or.inl ⟨by rfl, ?_⟩) (by assumption) ?_
  · intro w hSw
    obtain ⟨⟨s0, s1, s2⟩, t0, t1, t2⟩ := CELLS2.out _ hSw
    go_simp
  show wpAnyH _ _ _ _ _ _ _ (Act.put _ (some 62) _) _
  simp only [Act.put, List.setIfInBounds_toArray, List.set_cons_zero, List.set_cons_succ]
  refine wpAnyH_take (i := 19) (v := .agg #[.string p.name, .int .i64 p.ver, .slice p.qA p.qs.length p.qc]) rfl (by kernel_rfl) (by kernel_rfl) (by kernel_rfl) (fun _ _ _ h => h) (Or.inl ⟨by rfl, ?_⟩) (by assumption) ?_
  · intro w hSw
    obtain ⟨⟨s0, s1, s2⟩, t0, t1, t2⟩ := CELLS2.out _ hSw
    go_simp
  show wpAnyH _ _ _ _ _ _ _ (Act.put _ (some 64) _) _
  simp only [Act.put, List.setIfInBounds_toArray, List.set_cons_zero, List.set_cons_succ]
  refine wpAnyH_ready (rs := [18]) (by kernel_rfl) (by simp) ?_
  refine AllReadyH.cons rfl (fun K hK => ?_) AllReadyH.nil
  go_simp
  refine (C1.out _ hHeld).mono ?_
  rintro e V3 ⟨rfl, hq3⟩
  go_simp
  refine hK.out _ _ (hHeld.trans (hq3.mono hHeld.size)) (fun hHeld => ?_)
  clear hK K
  refine wpAnyH_ready (rs := [20]) (by kernel_rfl) (by simp) ?_
  refine AllReadyH.cons rfl (fun K hK => ?_) AllReadyH.nil
  go_simp
  refine (C2.out _ hHeld).mono ?_
  rintro e V4 ⟨rfl, hq4⟩
  go_simp
  refine hK.out _ _ (hHeld.trans (hq4.mono hHeld.size)) (fun hHeld => ?_)
  clear hK K
  refine wpAnyH_take (i := 21) (v := .bool true) rfl (by kernel_rfl) (by kernel_rfl) (by kernel_rfl) (fun _ _ _ h => h) (Or.inl ⟨by rfl, ?_⟩) (by assumption) ?_
  · intro w hSw
    go_simp
  show wpAnyH _ _ _ _ _ _ _ (Act.put _ (some 66) _) _
  simp only [Act.put, List.setIfInBounds_toArray, List.set_cons_zero, List.set_cons_succ]
  refine wpAnyH_take (i := 22) (v := .bool true) rfl (by kernel_rfl) (by kernel_rfl) (by kernel_rfl) (fun _ _ _ h => h) (Or.inl ⟨by rfl, ?_⟩) (by assumption) ?_
  · intro w hSw
    go_simp
  show wpAnyH _ _ _ _ _ _ _ (Act.put _ (some 67) _) _
  simp only [Act.put, List.setIfInBounds_toArray, List.set_cons_zero, List.set_cons_succ]
  refine wpAnyH_take (i := 23) (v := .bool true) rfl (by kernel_rfl) (by kernel_rfl) (by kernel_rfl) (fun _ _ _ h => h) (Or.inl ⟨by rfl, ?_⟩) (by assumption) ?_
  · intro w hSw
    go_simp
  show wpAnyH _ _ _ _ _ _ _ (Act.put _ (some 2) _) _
  simp only [Act.put, List.setIfInBounds_toArray, List.set_cons_zero, List.set_cons_succ]
  refine wpAnyH_done (by kernel_rfl) ?_ _
  go_wp2_with fail
  go_ret
  exact ⟨rfl, (HPB.out _ hHeld).2.2.2⟩

theorem laid_met (os : Os) : laidMet Tryz.prog Rows.protocolRoundTripsRow.laid ((World.laidAll Tryz.prog os Rows.protocolRoundTripsRow.laid).forCall (fun _ _ => 0) ⟨#[], #[.agg #[.string ⟨#[]⟩, .int .i64 0, .slice none 0 0]], []⟩).memory :=
  laidMet_laidAll _ (laid_fits os) (laid_ifaces os)
theorem reads (os : Os) {H : Type} (enc : TypeId × Value → H) : ∃ places, DataW.whole enc Tryz.prog ((World.laidAll Tryz.prog os Rows.protocolRoundTripsRow.laid).forCall (fun _ _ => 0) ⟨#[], #[.agg #[.string ⟨#[]⟩, .int .i64 0, .slice none 0 0]], []⟩).memory Tryz.f8.params.toList Rows.protocolRoundTripsSpec.vars false #[Value.agg #[.string ⟨#[]⟩, .int .i64 0, .slice none 0 0]].toList 8 = some ([.agg [.lit (.string []), .lit (.int .i64 0), .nil]], [], places) :=
  ⟨[], by kernel_rfl⟩

set_option maxRecDepth 100000 in
theorem lifted (os : Os) (started : os.Started) (H : Type) (enc : TypeId × Value → H) (F : Stop.Interp) :
    ReturnsInHanded {} Tryz.checked os 8 .any ((OpenSpec.ofChange Rows.protocolRoundTripsSpec).preRow enc Tryz.prog Tryz.f8 Rows.protocolRoundTripsRow.domain false Rows.protocolRoundTripsRow.laid) (((OpenSpec.ofChange Rows.protocolRoundTripsSpec).at F).post enc Tryz.prog Tryz.f8 false true false false) := by
  obtain ⟨places, hx⟩ := reads os enc
  refine returnsInHanded_of_row (C := Tryz.checked) (s := OpenSpec.ofChange Rows.protocolRoundTripsSpec) own started (by kernel_rfl) Tryz.func8
    (witness_row_atRef (enc := enc) (C := Tryz.checked) false (World.laidAll Tryz.prog os Rows.protocolRoundTripsRow.laid) #[.agg #[.string ⟨#[]⟩, .int .i64 0, .slice none 0 0]] (World.laidAll_os _ _ _) (laid_vars os _) (laid_rest os _) (by kernel_rfl)
      (OpenSpec.preRow_of_cond 8 hx (by kernel_rfl) (fun k hk => by cases hk) (by kernel_rfl) (laid_met os))) ?_
  intro W base args ds gs before hval0 hW _ _ _ hLH hSh _
  have hL0 := hLH
  rw [MakeChecks.laidMetH_plain _ _ _ (by kernel_rfl)] at hL0
  have hL : laidMet Tryz.prog Rows.protocolRoundTripsRow.laid W := hL0
  clear hL0
  have hr : Ready W := ready_of hL.tail.tail hL.tail.tail.tail.tail.tail hL.tail.tail.tail.tail hSh
  have hval : ∀ (j : Nat) t v, Tryz.f8.params[j]? = some t → args[j]? = some v → Value.okWide Tryz.prog W .any base t v := hval0
  have hW' := hW
  obtain ⟨p, q, hA0, hV, rfl, hfz, hnd⟩ := hW
  have hA : DataW.TrodAll enc Tryz.prog W 0 (fun _ => true) true Tryz.f8.params.toList args.toList ds p := hA0
  rw [Tryz.params8] at hA hval
  obtain ⟨v0, vs0, d0, ds0, p0, q0, hargs, rfl, rfl, h0, r0⟩ := trodAll_cons hA
  obtain ⟨rfl, rfl, rfl⟩ := trodAll_nil r0
  obtain rfl : args = #[v0] := by cases args; simp_all
  obtain ⟨rfl, rfl⟩ := trodVars_none hV
  obtain ⟨p0, rfl, hp0⟩ := open_prot (hval 0 24 v0 rfl rfl) h0
  clear hA0 hval0
  refine (walk W p0 hp0 hr).mono fun e W' ⟨he, hb⟩ => ?_
  subst he
  exact ⟨_, rfl, law_post laidOut (by kernel_rfl) rfl Tryz.underlying4 rfl hW' rfl rfl rfl hb⟩

theorem said : Rows.ProtocolRoundTripsSaid :=
  OpenClaim.holds_of_cond 8 Tryz.f8 rfl rfl rfl rfl rfl rfl rfl ⟨rfl, rfl, rfl, rfl, rfl⟩ rfl rfl rfl rfl rfl (by kernel_rfl) Tryz.func8 (by kernel_rfl)
    (of_decide_eq_true (by kernel_rfl)) (by unfold Func.isWrapper; first | (rw [if_pos (by decide +kernel)]; kernel_rfl) | (rw [if_neg (by decide +kernel)]; exact ⟨rfl, rfl⟩))
    (fun os started H enc _ F => by rw [OpenClaim.pre_eq_preRow]; exact lifted os started H enc F)

/-- No parameter wants a stand-in; the program's looks are those of the card. -/
theorem plain (f : FuncId) (fn : Func) (hf : Tryz.pinned.checked.prog.funcNamed "samaritan/samaritanlaw12.ProtocolRoundTrips" = some f) (hfn : Tryz.pinned.checked.prog.funcs[f]? = some fn) :
    true = Tryz.pinned.checked.prog.looks [] ∧ ∀ (j : Nat) t, fn.params[j]? = some t → Tryz.pinned.checked.prog.wantsStandIn t = false := by
  obtain rfl : f = 8 := Option.some.inj ((show Tryz.prog.funcNamed "samaritan/samaritanlaw12.ProtocolRoundTrips" = some 8 by kernel_rfl).symm.trans hf) |>.symm
  obtain rfl : fn = Tryz.f8 := (Option.some.inj (Tryz.func8.symm.trans hfn)).symm
  refine ⟨by kernel_rfl, fun j t ht => ?_⟩
  rw [Tryz.params8] at ht
  have hm := Array.mem_of_getElem? ht
  have hall : (#[24] : Array TypeId).toList.all (fun t => Tryz.prog.wantsStandIn t == false) = true := by kernel_rfl
  have := List.all_eq_true.1 hall t (by simpa using hm)
  exact beq_iff_eq.1 this

theorem card : Rows.ProtocolRoundTripsCardSaid :=
  Claim7.holds_tied_plain_at .later [] _ _ _ _ said (fun _ h => by cases h) (by kernel_rfl) (fun _ h => by cases h) protocolRoundTrips_row_tie rfl ⟨rfl, rfl⟩ (by kernel_rfl) rfl plain (by kernel_rfl)
#print axioms card
end Go.Proofs.YtbbklideciappaaGreatDoor.l12RoundTrips
