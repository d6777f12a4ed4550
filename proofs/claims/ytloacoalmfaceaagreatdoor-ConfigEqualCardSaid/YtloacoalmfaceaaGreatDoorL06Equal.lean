/-
  samaritanlaw06.ConfigEqual returns true for every input, and the arguments read afterwards as before.
  Conditions: those of the given row (its list of package variables), tied to the program's text by the given tie; the card speaks of the pruned copy of the project that the seat was translated from.
-/
import Derived.Test.YtloacoalmfaceaaGreatDoorCards
import Derived.Test.YtloacoalmfaceaaGreatDoorTie
import Derived.Test.YtloacoalmfaceaaGreatDoorOpn6
import Derived.Test.YtloacoalmfaceaaGreatDoorLift
import Derived.Test.YtloacoalmfaceaaGreatDoorLaid6
import Derived.OpenShut
import Derived.Deep.RegionHeld3
import Derived.Deep.MidRow
import Derived.Deep.DeepHandedRow
namespace Go.Proofs.YtloacoalmfaceaaGreatDoor.l06Equal
open Go.ChangeShapes Go.WideShapes Go.ChangeAt Go.RowKit Go.Maps
open Go.ChangeMaps (open_string shut_string)
open Go.Shelf

theorem same_self (c : Cfg) : SameCfg c c := ⟨rfl, rfl, rfl, rfl, rfl, rfl, fun i p q h1 h2 => by
  rw [h1] at h2
  rw [Option.some.inj h2]
  exact ⟨rfl, rfl, rfl⟩⟩
theorem def_at (W : World) : CfgAt W W.heap.size defCfg := ⟨Sl.empty, RecsAt.empty, RecsAt.empty, (fun i p hi => by simp [defCfg] at hi), rfl⟩
theorem def_sz : CfgSz defCfg := ⟨by decide, by decide, by decide, by decide, by decide, fun p hp => by cases hp⟩
set_option maxRecDepth 100000 in
set_option maxHeartbeats 4000000 in
theorem walk (w : World) (c : Cfg) (hc : CfgArg w c) (d : Cfg) (hd : CfgArg w d) (hr : Rdy w) :
    Calls Tryz.prog 7 #[.agg c.cells.toArray, .agg d.cells.toArray] w fun e w' => e = .returned (.bool true) ∧ Below w.heap.size w w' := by
  have hi0 := cfgIn_new w c 27
  obtain ⟨W0, hW0⟩ : ∃ W0, W0 = (w.alloc (.cells c.cells.toArray 27)).alloc (.cells d.cells.toArray 27) := ⟨_, rfl⟩
  have hb0 : Below w.heap.size w W0 := by rw [hW0]; exact ((Below.refl _ _).alloc (Nat.le_refl _) _).alloc (by simp) _
  have hic : CfgIn W0 w.heap.size c := by
    rw [hW0]
    exact (cfgIn_new w c _).below (((Below.refl _ _).alloc (Nat.le_refl _) _)) (by simp)
  have hid : CfgIn W0 (w.heap.size + 1) d := by
    rw [hW0]
    have h := cfgIn_new (w.alloc (.cells c.cells.toArray 27)) d 27
    simpa using h
  have hz0 : W0.heap.size = w.heap.size + 2 := by rw [hW0]; simp
  have hrx : W0.heap[w.heap.size]? = some (.cells c.cells.toArray 27 (0, 0)) := by
    rw [hW0]
    exact (heap_alloc_old _ _ (by simp)).trans (new_obj w _)
  have hry : W0.heap[w.heap.size + 1]? = some (.cells d.cells.toArray 27 (0, 0)) := by
    rw [hW0]
    have h := new_obj (w.alloc (.cells c.cells.toArray 27)) (.cells d.cells.toArray 27)
    simpa using h
  have hslx : (Tryz.prog.info? 27).map (·.size) = some c.cells.length := by
    have k15 : (Tryz.prog.info? 27).map (·.size) = some 15 := by kernel_rfl
    rw [show c.cells.length = 15 from by simp [Cfg.cells, hc.at_.ten], k15]
  have hsly : (Tryz.prog.info? 27).map (·.size) = some d.cells.length := by
    have k15 : (Tryz.prog.info? 27).map (·.size) = some 15 := by kernel_rfl
    rw [show d.cells.length = 15 from by simp [Cfg.cells, hd.at_.ten], k15]
  have hszx : (Tryz.prog.info? 27).map (·.size) = some c.cells.toArray.size := by rw [List.size_toArray]; exact hslx
  have hszy : (Tryz.prog.info? 27).map (·.size) = some d.cells.toArray.size := by rw [List.size_toArray]; exact hsly
  have HR := Lib.hid hr
  have HC := Lib.hid (And.intro hc hd)
  have H0 := Lib.hid (And.intro hb0 (And.intro hic (And.intro hid (And.intro hz0 (And.intro ((hc.at_.below hb0).more hb0.size) ((hd.at_.below hb0).more hb0.size))))))
  have HROW := Lib.hid (And.intro hrx hry)
  have HG := Lib.hid (great_any W0 c ((hc.at_.below hb0).more hb0.size) (by have := hc.pl; omega))
  have HSL := Lib.hid (And.intro hslx hsly)
  obtain ⟨X, hX⟩ : ∃ X, X = c.cells.toArray := ⟨_, rfl⟩
  obtain ⟨Y, hY⟩ : ∃ X, X = d.cells.toArray := ⟨_, rfl⟩
  have HX := Lib.hid (And.intro hX hY)
  rw [← hX] at hrx hszx HG
  rw [← hY] at hry hszy
  rw [← hX, ← hY] at hW0 ⊢
  clear hi0 hb0 hic hid hz0 hX hY hslx hsly hr hc hd
  go_enter Tryz.func7, Tryz.ntmps7
  go_wp2_with (refine wpList_load_row rfl 27 (.tmp 2) rfl w.heap.size rfl 27 X (0, 0) _ (by rw [← hW0]; exact hrx) Tryz.underlying27 rfl hszx ?_)
  rw [← hW0]
  clear hW0
  refine HG.out.mono ?_
  rintro e W1 ⟨bg, rfl, hsh, hb1⟩
  have HB1 := Lib.hid (And.intro (H0.out.1.trans (hb1.mono H0.out.1.size)) hb1)
  have hry1 := (hb1.block (w.heap.size + 1) (by have := H0.out.2.2.2.1; omega)).trans hry
  have HSH := Lib.hid hsh
  clear hb1 hsh HG hrx hry
  have AW : Hid (∀ W, Below w.heap.size w W → Calls Tryz.prog 9 #[] W fun e w' => e = .returned (.bool true) ∧ Below W.heap.size W w') := Lib.hid (fun W hW => awake_any W (HR.out.below hW))
  cases bg
  rotate_left
  · go_wp2_with fail
    refine (AW.out W1 HB1.out.1).mono ?_
    rintro e W2 ⟨rfl, hb2⟩
    have HB2 := Lib.hid (HB1.out.1.trans (hb2.mono HB1.out.1.size))
    clear hb2
    go_wp2_with fail
    go_ret
    exact ⟨rfl, HB2.out⟩
  have HSZ := Lib.hid (HC.out.1.sz (HSH.out rfl))
  have HG2 := Lib.hid (great_any W1 d ((H0.out.2.2.2.2.2.below HB1.out.2).more HB1.out.2.size) (by have := HC.out.2.pl; omega))
  rw [← HX.out.2] at HG2
  go_wp2_with (refine wpList_load_row_g (by rfl) 27 (.tmp 3) rfl (w.heap.size + 1) rfl 27 Y (0, 0) _ hry1 Tryz.underlying27 rfl hszy ?_)
  refine HG2.out.mono ?_
  rintro e W2 ⟨bg, rfl, hsh2, hb2⟩
  have HB2 := Lib.hid (And.intro (HB1.out.1.trans (hb2.mono HB1.out.1.size)) (HB1.out.2.trans (hb2.mono HB1.out.2.size)))
  have HSH2 := Lib.hid hsh2
  clear hb2 hsh2 HG2 hry1
  cases bg
  rotate_left
  · go_wp2_with fail
    refine (AW.out W2 HB2.out.1).mono ?_
    rintro e W3 ⟨rfl, hb3⟩
    have HB3 := Lib.hid (HB2.out.1.trans (hb3.mono HB2.out.1.size))
    clear hb3
    go_wp2_with fail
    go_ret
    exact ⟨rfl, HB3.out⟩
  have HSZ2 := Lib.hid (HC.out.2.sz (HSH2.out rfl))
  have CA : Hid (∀ W, Below W2.heap.size W2 W → CfgAt W W.heap.size c ∧ CfgAt W W.heap.size d) := Lib.hid (fun W hW => by
    have hb : Below W0.heap.size W0 W := HB2.out.2.trans (hW.mono HB2.out.2.size)
    exact ⟨(H0.out.2.2.2.2.1.below hb).more hb.size, (H0.out.2.2.2.2.2.below hb).more hb.size⟩)
  have EQ := Lib.hid (fun W (h : Below W2.heap.size W2 W) => equalC_any W c d (CA.out W h).1 (CA.out W h).2 HSZ.out HSZ2.out)
  have SM := Lib.hid (fun W (h : Below W2.heap.size W2 W) => sameC_any W c d (CA.out W h).1 (CA.out W h).2 HSZ.out HSZ2.out)
  have EC := Lib.hid (fun W (h : Below W2.heap.size W2 W) => equalC_any W c c (CA.out W h).1 (CA.out W h).1 HSZ.out HSZ.out)
  have hcc : tb (SameCfg c c) = true := tb_true (same_self c)
  rw [hcc] at EC
  obtain ⟨b, hb⟩ : ∃ b, b = tb (SameCfg c d) := ⟨_, rfl⟩
  rw [← hb] at EQ SM
  have hbb : (b == b) = true := by simp
  have DF : Hid (∀ W, Calls Tryz.prog 18 #[.agg defCfg.cells.toArray, .agg defCfg.cells.toArray] W fun e w' => e = .returned (.bool true) ∧ Below W.heap.size W w') := Lib.hid (fun W => by
    have := equalC_any W defCfg defCfg (def_at W) (def_at W) def_sz def_sz
    rw [tb_true (same_self defCfg)] at this
    exact this)
  rw [← HX.out.1, ← HX.out.2] at EQ SM
  rw [← HX.out.1] at EC
  obtain ⟨Z, hZ⟩ : ∃ Z, Z = defCfg.cells.toArray := ⟨_, rfl⟩
  have D1 := Lib.hid (fun W => default_any W)
  have D2 := Lib.hid (fun W => defaultR_any W)
  rw [← hZ] at DF D1 D2
  have HRG : Hid (∀ V, Below W2.heap.size W2 V → V.rangeAt w.heap.size 0 c.cells ∧ V.rangeAt (w.heap.size + 1) 0 d.cells) := Lib.hid (fun V hV => by
    have hb : Below W0.heap.size W0 V := HB2.out.2.trans (hV.mono HB2.out.2.size)
    exact ⟨fun j v hj => by rw [Nat.zero_add]; exact (H0.out.2.1.below hb (by have := H0.out.2.2.2.1; omega)) j v hj, fun j v hj => by rw [Nat.zero_add]; exact (H0.out.2.2.1.below hb (by have := H0.out.2.2.2.1; omega)) j v hj⟩)
  clear hcc hb hZ hszx hszy
  go_wp2_with fail
  refine wp_region_held_drew (S := fun W => Below W2.heap.size W2 W) (by kernel_rfl) ((Below.refl _ _).drew) (fun hHeld => ?_)
  refine wpAnyH_take (i := 0) (v := .agg c.cells.toArray) rfl (by kernel_rfl) (by kernel_rfl) (by kernel_rfl) (fun _ _ _ h => h) (yieldsIf_load_mid (by rfl) 27 (.tmp 2) rfl w.heap.size 0 rfl c.cells _ (fun V hV => (HRG.out V hV).1) Tryz.underlying27 rfl HSL.out.1) (by assumption) ?_
  show wpAnyH _ _ _ _ _ _ _ (Act.put _ (some 12) _) _
  simp only [Act.put, List.setIfInBounds_toArray, List.set_cons_zero, List.set_cons_succ]
  rw [← HX.out.1]
  refine wpAnyH_take (i := 1) (v := .agg d.cells.toArray) rfl (by kernel_rfl) (by kernel_rfl) (by kernel_rfl) (fun _ _ _ h => h) (yieldsIf_load_mid (by rfl) 27 (.tmp 3) rfl (w.heap.size + 1) 0 rfl d.cells _ (fun V hV => (HRG.out V hV).2) Tryz.underlying27 rfl HSL.out.2) (by assumption) ?_
  show wpAnyH _ _ _ _ _ _ _ (Act.put _ (some 13) _) _
  simp only [Act.put, List.setIfInBounds_toArray, List.set_cons_zero, List.set_cons_succ]
  rw [← HX.out.2]
  refine wpAnyH_take (i := 3) (v := .agg c.cells.toArray) rfl (by kernel_rfl) (by kernel_rfl) (by kernel_rfl) (fun _ _ _ h => h) (yieldsIf_load_mid (by rfl) 27 (.tmp 2) rfl w.heap.size 0 rfl c.cells _ (fun V hV => (HRG.out V hV).1) Tryz.underlying27 rfl HSL.out.1) (by assumption) ?_
  show wpAnyH _ _ _ _ _ _ _ (Act.put _ (some 15) _) _
  simp only [Act.put, List.setIfInBounds_toArray, List.set_cons_zero, List.set_cons_succ]
  rw [← HX.out.1]
  refine wpAnyH_take (i := 4) (v := .agg d.cells.toArray) rfl (by kernel_rfl) (by kernel_rfl) (by kernel_rfl) (fun _ _ _ h => h) (yieldsIf_load_mid (by rfl) 27 (.tmp 3) rfl (w.heap.size + 1) 0 rfl d.cells _ (fun V hV => (HRG.out V hV).2) Tryz.underlying27 rfl HSL.out.2) (by assumption) ?_
  show wpAnyH _ _ _ _ _ _ _ (Act.put _ (some 16) _) _
  simp only [Act.put, List.setIfInBounds_toArray, List.set_cons_zero, List.set_cons_succ]
  rw [← HX.out.2]
  refine wpAnyH_ready (rs := [2]) (by kernel_rfl) (by simp) ?_
  refine AllReadyH.cons rfl (fun K hK => ?_) AllReadyH.nil
  go_simp
  refine (EQ.out _ hHeld).mono ?_
  rintro e V1 ⟨rfl, hq1⟩
  go_simp
  refine hK.out _ _ (hHeld.trans (hq1.mono hHeld.size)) (fun hHeld => ?_)
  clear hK K
  refine wpAnyH_ready (rs := [5]) (by kernel_rfl) (by simp) ?_
  refine AllReadyH.cons rfl (fun K hK => ?_) AllReadyH.nil
  go_simp
  refine (SM.out _ hHeld).mono ?_
  rintro e V2 ⟨rfl, hq2⟩
  go_simp
  refine hK.out _ _ (hHeld.trans (hq2.mono hHeld.size)) (fun hHeld => ?_)
  clear hK K
  refine wpAnyH_take (i := 6) (v := .bool true) rfl (by kernel_rfl) (by kernel_rfl) (by kernel_rfl) (fun _ _ _ h => h) (Or.inl ⟨by rfl, ?_⟩) (by assumption) ?_
  · intro w hSw
    go_simp
  show wpAnyH _ _ _ _ _ _ _ (Act.put _ (some 18) _) _
  simp only [Act.put, List.setIfInBounds_toArray, List.set_cons_zero, List.set_cons_succ]
  refine wpAnyH_take (i := 7) (v := .bool true) rfl (by kernel_rfl) (by kernel_rfl) (by kernel_rfl) (fun _ _ _ h => h) (Or.inl ⟨by rfl, ?_⟩) (by assumption) ?_
  · intro w hSw
    go_simp
  show wpAnyH _ _ _ _ _ _ _ (Act.put _ (some 19) _) _
  simp only [Act.put, List.setIfInBounds_toArray, List.set_cons_zero, List.set_cons_succ]
  refine wpAnyH_take (i := 8) (v := .agg c.cells.toArray) rfl (by kernel_rfl) (by kernel_rfl) (by kernel_rfl) (fun _ _ _ h => h) (yieldsIf_load_mid (by rfl) 27 (.tmp 2) rfl w.heap.size 0 rfl c.cells _ (fun V hV => (HRG.out V hV).1) Tryz.underlying27 rfl HSL.out.1) (by assumption) ?_
  show wpAnyH _ _ _ _ _ _ _ (Act.put _ (some 20) _) _
  simp only [Act.put, List.setIfInBounds_toArray, List.set_cons_zero, List.set_cons_succ]
  rw [← HX.out.1]
  refine wpAnyH_take (i := 9) (v := .agg c.cells.toArray) rfl (by kernel_rfl) (by kernel_rfl) (by kernel_rfl) (fun _ _ _ h => h) (yieldsIf_load_mid (by rfl) 27 (.tmp 2) rfl w.heap.size 0 rfl c.cells _ (fun V hV => (HRG.out V hV).1) Tryz.underlying27 rfl HSL.out.1) (by assumption) ?_
  show wpAnyH _ _ _ _ _ _ _ (Act.put _ (some 21) _) _
  simp only [Act.put, List.setIfInBounds_toArray, List.set_cons_zero, List.set_cons_succ]
  rw [← HX.out.1]
  refine wpAnyH_ready (rs := [10]) (by kernel_rfl) (by simp) ?_
  refine AllReadyH.cons rfl (fun K hK => ?_) AllReadyH.nil
  go_simp
  refine (EC.out _ hHeld).mono ?_
  rintro e V3 ⟨rfl, hq3⟩
  go_simp
  refine hK.out _ _ (hHeld.trans (hq3.mono hHeld.size)) (fun hHeld => ?_)
  clear hK K
  refine wpAnyH_take (i := 11) (v := .bool true) rfl (by kernel_rfl) (by kernel_rfl) (by kernel_rfl) (fun _ _ _ h => h) (Or.inl ⟨by rfl, ?_⟩) (by assumption) ?_
  · intro w hSw
    go_simp
  show wpAnyH _ _ _ _ _ _ _ (Act.put _ (some 23) _) _
  simp only [Act.put, List.setIfInBounds_toArray, List.set_cons_zero, List.set_cons_succ]
  refine wpAnyH_take (i := 12) (v := .bool true) rfl (by kernel_rfl) (by kernel_rfl) (by kernel_rfl) (fun _ _ _ h => h) (Or.inl ⟨by rfl, ?_⟩) (by assumption) ?_
  · intro w hSw
    go_simp
  show wpAnyH _ _ _ _ _ _ _ (Act.put _ (some 24) _) _
  simp only [Act.put, List.setIfInBounds_toArray, List.set_cons_zero, List.set_cons_succ]
  refine wpAnyH_ready (rs := [13]) (by kernel_rfl) (by simp) ?_
  refine AllReadyH.cons rfl (fun K hK => ?_) AllReadyH.nil
  go_simp
  refine (D1.out _).mono ?_
  rintro e V4 ⟨rfl, hq4⟩
  go_simp
  refine hK.out _ _ (hHeld.trans (hq4.mono hHeld.size)) (fun hHeld => ?_)
  clear hK K
  refine wpAnyH_ready (rs := [14]) (by kernel_rfl) (by simp) ?_
  refine AllReadyH.cons rfl (fun K hK => ?_) AllReadyH.nil
  go_simp
  refine (D2.out _).mono ?_
  rintro e V5 ⟨rfl, hq5⟩
  go_simp
  refine hK.out _ _ (hHeld.trans (hq5.mono hHeld.size)) (fun hHeld => ?_)
  clear hK K
  refine wpAnyH_ready (rs := [15]) (by kernel_rfl) (by simp) ?_
  refine AllReadyH.cons rfl (fun K hK => ?_) AllReadyH.nil
  go_simp
  refine (DF.out _).mono ?_
  rintro e V6 ⟨rfl, hq6⟩
  go_simp
  refine hK.out _ _ (hHeld.trans (hq6.mono hHeld.size)) (fun hHeld => ?_)
  clear hK K
  refine wpAnyH_take (i := 16) (v := .bool true) rfl (by kernel_rfl) (by kernel_rfl) (by kernel_rfl) (fun _ _ _ h => h) (Or.inl ⟨by rfl, ?_⟩) (by assumption) ?_
  · intro w hSw
    go_simp
  show wpAnyH _ _ _ _ _ _ _ (Act.put _ (some 28) _) _
  simp only [Act.put, List.setIfInBounds_toArray, List.set_cons_zero, List.set_cons_succ]
  refine wpAnyH_take (i := 17) (v := .bool true) rfl (by kernel_rfl) (by kernel_rfl) (by kernel_rfl) (fun _ _ _ h => h) (Or.inl ⟨by rfl, ?_⟩) (by assumption) ?_
  · intro w hSw
    go_simp
  show wpAnyH _ _ _ _ _ _ _ (Act.put _ (some 29) _) _
  simp only [Act.put, List.setIfInBounds_toArray, List.set_cons_zero, List.set_cons_succ]
  refine wpAnyH_ready (rs := [18]) (by kernel_rfl) (by simp) ?_
  refine AllReadyH.cons rfl (fun K hK => ?_) AllReadyH.nil
  go_simp
  refine (AW.out _ (HB2.out.1.trans (hHeld.mono HB2.out.1.size))).mono ?_
  rintro e V7 ⟨rfl, hq7⟩
  go_simp
  refine hK.out _ _ (hHeld.trans (hq7.mono hHeld.size)) (fun hHeld => ?_)
  clear hK K
  refine wpAnyH_take (i := 19) (v := .bool true) rfl (by kernel_rfl) (by kernel_rfl) (by kernel_rfl) (fun _ _ _ h => h) (Or.inl ⟨by rfl, ?_⟩) (by assumption) ?_
  · intro w hSw
    go_simp
  show wpAnyH _ _ _ _ _ _ _ (Act.put _ (some 31) _) _
  simp only [Act.put, List.setIfInBounds_toArray, List.set_cons_zero, List.set_cons_succ]
  refine wpAnyH_take (i := 20) (v := .bool true) rfl (by kernel_rfl) (by kernel_rfl) (by kernel_rfl) (fun _ _ _ h => h) (Or.inl ⟨by rfl, ?_⟩) (by assumption) ?_
  · intro w hSw
    go_simp
  show wpAnyH _ _ _ _ _ _ _ (Act.put _ (some 4) _) _
  simp only [Act.put, List.setIfInBounds_toArray, List.set_cons_zero, List.set_cons_succ]
  refine wpAnyH_done (by kernel_rfl) ?_ _
  go_wp2_with fail
  go_ret
  exact ⟨rfl, HB2.out.1.trans (hHeld.mono HB2.out.1.size)⟩

theorem laid_met (os : Os) : laidMet Tryz.prog Rows.configEqualRow.laid ((World.laidAll Tryz.prog os Rows.configEqualRow.laid).forCall (fun _ _ => 0) ⟨#[], #[.agg #[.int .i64 0, .slice none 0 0, .slice none 0 0, .slice none 0 0, .slice none 0 0, .int .i64 0, .int .i64 0, .int .i64 0, .int .i64 0, .int .i64 0, .int .i64 0, .int .i64 0, .int .i64 0, .int .i64 0, .int .i64 0], .agg #[.int .i64 0, .slice none 0 0, .slice none 0 0, .slice none 0 0, .slice none 0 0, .int .i64 0, .int .i64 0, .int .i64 0, .int .i64 0, .int .i64 0, .int .i64 0, .int .i64 0, .int .i64 0, .int .i64 0, .int .i64 0]], []⟩).memory :=
  laidMet_laidAll _ (laid_fits os) (laid_ifaces os)
theorem reads (os : Os) {H : Type} (enc : TypeId × Value → H) : ∃ places, DataW.whole enc Tryz.prog ((World.laidAll Tryz.prog os Rows.configEqualRow.laid).forCall (fun _ _ => 0) ⟨#[], #[.agg #[.int .i64 0, .slice none 0 0, .slice none 0 0, .slice none 0 0, .slice none 0 0, .int .i64 0, .int .i64 0, .int .i64 0, .int .i64 0, .int .i64 0, .int .i64 0, .int .i64 0, .int .i64 0, .int .i64 0, .int .i64 0], .agg #[.int .i64 0, .slice none 0 0, .slice none 0 0, .slice none 0 0, .slice none 0 0, .int .i64 0, .int .i64 0, .int .i64 0, .int .i64 0, .int .i64 0, .int .i64 0, .int .i64 0, .int .i64 0, .int .i64 0, .int .i64 0]], []⟩).memory Tryz.f7.params.toList Rows.configEqualSpec.vars false #[Value.agg #[.int .i64 0, .slice none 0 0, .slice none 0 0, .slice none 0 0, .slice none 0 0, .int .i64 0, .int .i64 0, .int .i64 0, .int .i64 0, .int .i64 0, .int .i64 0, .int .i64 0, .int .i64 0, .int .i64 0, .int .i64 0], .agg #[.int .i64 0, .slice none 0 0, .slice none 0 0, .slice none 0 0, .slice none 0 0, .int .i64 0, .int .i64 0, .int .i64 0, .int .i64 0, .int .i64 0, .int .i64 0, .int .i64 0, .int .i64 0, .int .i64 0, .int .i64 0]].toList 8 = some ([.agg [.lit (.int .i64 0), .nil, .nil, .nil, .nil, .lit (.int .i64 0), .lit (.int .i64 0), .lit (.int .i64 0), .lit (.int .i64 0), .lit (.int .i64 0), .lit (.int .i64 0), .lit (.int .i64 0), .lit (.int .i64 0), .lit (.int .i64 0), .lit (.int .i64 0)], .agg [.lit (.int .i64 0), .nil, .nil, .nil, .nil, .lit (.int .i64 0), .lit (.int .i64 0), .lit (.int .i64 0), .lit (.int .i64 0), .lit (.int .i64 0), .lit (.int .i64 0), .lit (.int .i64 0), .lit (.int .i64 0), .lit (.int .i64 0), .lit (.int .i64 0)]], [], places) :=
  ⟨[], by kernel_rfl⟩

set_option maxRecDepth 100000 in
theorem lifted (os : Os) (started : os.Started) (H : Type) (enc : TypeId × Value → H) (F : Stop.Interp) :
    ReturnsInHanded {} Tryz.checked os 7 .any ((OpenSpec.ofChange Rows.configEqualSpec).preRow enc Tryz.prog Tryz.f7 Rows.configEqualRow.domain false Rows.configEqualRow.laid) (((OpenSpec.ofChange Rows.configEqualSpec).at F).post enc Tryz.prog Tryz.f7 false true false false) := by
  obtain ⟨places, hx⟩ := reads os enc
  refine returnsInHanded_of_row (C := Tryz.checked) (s := OpenSpec.ofChange Rows.configEqualSpec) own started (by kernel_rfl) Tryz.func7
    (witness_row_atRef (enc := enc) (C := Tryz.checked) false (World.laidAll Tryz.prog os Rows.configEqualRow.laid) #[.agg #[.int .i64 0, .slice none 0 0, .slice none 0 0, .slice none 0 0, .slice none 0 0, .int .i64 0, .int .i64 0, .int .i64 0, .int .i64 0, .int .i64 0, .int .i64 0, .int .i64 0, .int .i64 0, .int .i64 0, .int .i64 0], .agg #[.int .i64 0, .slice none 0 0, .slice none 0 0, .slice none 0 0, .slice none 0 0, .int .i64 0, .int .i64 0, .int .i64 0, .int .i64 0, .int .i64 0, .int .i64 0, .int .i64 0, .int .i64 0, .int .i64 0, .int .i64 0]] (World.laidAll_os _ _ _) (laid_vars os _) (laid_rest os _) (by kernel_rfl)
      (OpenSpec.preRow_of_cond 8 hx (by kernel_rfl) (fun k hk => by cases hk) (by kernel_rfl) (laid_met os))) ?_
  intro W base args ds gs before hval0 hW _ _ _ hLH hSh _
  have hL0 := hLH
  rw [MakeChecks.laidMetH_plain _ _ _ (by kernel_rfl)] at hL0
  have hL : laidMet Tryz.prog Rows.configEqualRow.laid W := hL0
  clear hL0
  have hr : Rdy W := rdy_of hL.tail.tail hL.tail.tail.tail.tail.tail hL.tail.tail.tail.tail hL.tail.tail.tail.tail.tail.tail hSh
  have hval : ∀ (j : Nat) t v, Tryz.f7.params[j]? = some t → args[j]? = some v → Value.okWide Tryz.prog W .any base t v := hval0
  have hW' := hW
  obtain ⟨p, q, hA0, hV, rfl, hfz, hnd⟩ := hW
  have hA : DataW.TrodAll enc Tryz.prog W 0 (fun _ => true) true Tryz.f7.params.toList args.toList ds p := hA0
  rw [Tryz.params7] at hA hval
  obtain ⟨v0, vs0, d0, ds0, p0, q0, hargs, rfl, rfl, h0, r0⟩ := trodAll_cons hA
  obtain ⟨v1, vs1, d1, ds1, p1, q1, rfl, rfl, rfl, h1, r1⟩ := trodAll_cons r0
  obtain ⟨rfl, rfl, rfl⟩ := trodAll_nil r1
  obtain rfl : args = #[v0, v1] := by cases args; simp_all
  obtain ⟨rfl, rfl⟩ := trodVars_none hV
  obtain ⟨c0, rfl, hc0⟩ := open_cfg (hval 0 27 v0 rfl rfl) h0
  obtain ⟨c1, rfl, hc1⟩ := open_cfg (hval 1 27 v1 rfl rfl) h1
  clear hA0 hval0
  refine (walk W c0 hc0 c1 hc1 hr).mono fun e W' ⟨he, hb⟩ => ?_
  subst he
  exact ⟨_, rfl, law_post laidOut (by kernel_rfl) rfl Tryz.underlying4 rfl hW' rfl rfl rfl hb⟩

theorem said : Rows.ConfigEqualSaid :=
  OpenClaim.holds_of_cond 7 Tryz.f7 rfl rfl rfl rfl rfl rfl rfl ⟨rfl, rfl, rfl, rfl, rfl⟩ rfl rfl rfl rfl rfl (by kernel_rfl) Tryz.func7 (by kernel_rfl)
    (of_decide_eq_true (by kernel_rfl)) (by unfold Func.isWrapper; first | (rw [if_pos (by decide +kernel)]; kernel_rfl) | (rw [if_neg (by decide +kernel)]; exact ⟨rfl, rfl⟩))
    (fun os started H enc _ F => by rw [OpenClaim.pre_eq_preRow]; exact lifted os started H enc F)

/-- No parameter wants a stand-in; the program's looks are those of the card. -/
theorem plain (f : FuncId) (fn : Func) (hf : Tryz.pinned.checked.prog.funcNamed "samaritan/samaritanlaw06.ConfigEqual" = some f) (hfn : Tryz.pinned.checked.prog.funcs[f]? = some fn) :
    true = Tryz.pinned.checked.prog.looks [] ∧ ∀ (j : Nat) t, fn.params[j]? = some t → Tryz.pinned.checked.prog.wantsStandIn t = false := by
  obtain rfl : f = 7 := Option.some.inj ((show Tryz.prog.funcNamed "samaritan/samaritanlaw06.ConfigEqual" = some 7 by kernel_rfl).symm.trans hf) |>.symm
  obtain rfl : fn = Tryz.f7 := (Option.some.inj (Tryz.func7.symm.trans hfn)).symm
  refine ⟨by kernel_rfl, fun j t ht => ?_⟩
  rw [Tryz.params7] at ht
  have hm := Array.mem_of_getElem? ht
  have hall : (#[27, 27] : Array TypeId).toList.all (fun t => Tryz.prog.wantsStandIn t == false) = true := by kernel_rfl
  have := List.all_eq_true.1 hall t (by simpa using hm)
  exact beq_iff_eq.1 this

theorem card : Rows.ConfigEqualCardSaid :=
  Claim7.holds_tied_plain_at .later [] _ _ _ _ said (fun _ h => by cases h) (by kernel_rfl) (fun _ h => by cases h) configEqual_row_tie rfl ⟨rfl, rfl⟩ (by kernel_rfl) rfl plain (by kernel_rfl)
#print axioms card
end Go.Proofs.YtloacoalmfaceaaGreatDoor.l06Equal
