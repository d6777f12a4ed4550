/-
  samaritanlaw08.TravelTimesParse returns true for every input whose reading is of bulk at most 1048576, and the arguments read afterwards as before.
  Conditions: those of the given row (its list of package variables), tied to the program's text by the given tie; the card speaks of the pruned copy of the project that the seat was translated from.
-/
import Derived.Test.YtppbmnlneoinhaaDoorCards
import Derived.Test.YtppbmnlneoinhaaDoorTie
import Derived.Test.YtppbmnlneoinhaaDoorMatch
import Derived.Test.YtppbmnlneoinhaaDoorAlive
import Derived.Test.YtppbmnlneoinhaaDoorParsW
import Derived.Test.YtppbmnlneoinhaaDoorRefL
import Derived.Test.YtppbmnlneoinhaaDoorIt
import Derived.Test.YtppbmnlneoinhaaDoorAllC
import Derived.Test.YtppbmnlneoinhaaDoorOpenC
import Derived.Test.YtppbmnlneoinhaaDoorRefB
import Derived.Test.YtppbmnlneoinhaaDoorLift
import Derived.Test.YtppbmnlneoinhaaDoorLaidP
import Derived.OpenShut
import Derived.Deep.DeepHandedRow
namespace Go.Proofs.YtppbmnlneoinhaaDoor.l08Parse
open Go.ChangeShapes Go.WideShapes Go.ChangeAt Go.RowKit Go.Maps
open Go.ChangeMaps (open_string shut_string)

set_option maxRecDepth 100000 in
set_option maxHeartbeats 4000000 in
theorem walk (w : World) (A0 : Option Addr) (zs : List Int) (c0 : Nat) (hs0 : Sl w w.heap.size A0 (zs.map (Value.int .i64))) (hN : zs.length ≤ 1048576) (s : ByteArray) (_hs : s.size ≤ maxLen) (hr : ReadyP w) :
    Calls Tryd.prog 4 #[.slice A0 zs.length c0, .string s] w fun e w' => e = .returned (.bool true) ∧ Below w.heap.size w w' := by
  have HS0 := Lib.hid hs0
  have hal := alive_any w hr.base
  have HAL := Lib.hid hal
  have HR := Lib.hid hr
  clear hs0 hal hr
  go_enter Tryd.func4, Tryd.ntmps4
  go_wp2_with fail
  refine HAL.out.mono ?_
  rintro e w1 ⟨rfl, hb1⟩
  have HB1 := Lib.hid hb1
  clear hb1
  go_wp2_with fail
  refine (made_any w1 A0 c0 zs ((HS0.out.below HB1.out).more HB1.out.size) hN).mono ?_
  rintro e w2 ⟨hb2, h⟩
  have HB2 := Lib.hid (HB1.out.trans (hb2.mono HB1.out.size))
  clear hb2
  rcases h with ⟨hok, h30, gp, p, cb, B, rfl, hB, ht⟩ | ⟨_, rfl⟩
  · obtain ⟨E, hE⟩ : ∃ E, E = ringE zs := ⟨_, rfl⟩
    have hEl : zs.length = E.length := by rw [hE, ringE_len]
    have hEm : E.map EdgeT.tm = zs := by rw [hE, ringE_tm]
    rw [← hE] at ht
    obtain ⟨rb, hrb⟩ : ∃ rb, rb = w2.heap.size := ⟨_, rfl⟩
    obtain ⟨W3, hW3⟩ : ∃ W3, W3 = w2.alloc (.cells #[.slice A0 E.length c0, .slice none 0 0] 28) := ⟨_, rfl⟩
    have hb3 : Below w2.heap.size w2 W3 := by rw [hW3]; exact (Below.refl _ _).alloc (Nat.le_refl _) _
    have hrz : rb < W3.heap.size := by rw [hW3, hrb]; simp
    have hkr : ∀ j, W3.cell? ⟨rb, j, none⟩ = (#[.slice A0 E.length c0, .slice none 0 0] : Array Value)[j]? := fun j => by rw [hW3, World.cell?_alloc_at (hn := hrb)]
    have hfr : ∀ j, W3.frozen? ⟨rb, j, none⟩ = false := fun j => by rw [hW3, World.frozen?_alloc_at (hn := hrb)]
    rw [hEl] at h30 ⊢
    have HT := Lib.hid (ht.below hb3)
    have HB3 := Lib.hid (HB2.out.trans (hb3.mono HB2.out.size))
    have hBrb : B ≤ rb := by rw [hrb]; have := ht.low; have := ht.cbp; have := ht.size; omega
    have HRB := Lib.hid (show w.heap.size ≤ rb by rw [hrb]; exact HB2.out.size)
    have HKR := Lib.hid hkr
    have HFR := Lib.hid hfr
    have HSE := Lib.hid (show Sl w w.heap.size A0 ((E.map EdgeT.tm).map (Value.int .i64)) by rw [hEm]; exact HS0.out)
    have HW3 := Lib.hid hW3
    have HRB2 := Lib.hid hrb
    clear hok hE hEm ht hEl hN hW3 hb3 hkr hfr
    by_cases hs1 : 2000 < s.size
    · have d0 : decide ((2000 : Int) < (s.size : Int)) = true := by simp; omega
      have d0' : decide (2000 < s.size) = true := by simp; omega
      clear hrb
      go_wp2_with fail
      go_ret
      rw [← HW3.out]
      exact ⟨rfl, HB3.out⟩
    · have d0 : decide ((2000 : Int) < (s.size : Int)) = false := by simp; omega
      have d0' : decide (2000 < s.size) = false := by simp; omega
      have hpa := parse_any W3 gp 5 E s (HT.out.graph.more (by have := HT.out.low; have := HT.out.cbp; have := HT.out.size; omega)) (by omega) (by omega) (HR.out.below HB3.out)
      have HPA := Lib.hid hpa
      clear hpa
      go_wp2_with fail
      rw [← HW3.out, ← hrb]
      clear hrb
      refine HPA.out.mono ?_
      rintro e w4 ⟨hb4, h⟩
      have HB4 := Lib.hid hb4
      have HB04 := Lib.hid (HB3.out.trans (hb4.mono HB3.out.size))
      have hrp := rparse_any w4 E A0 c0 s ((HSE.out.below HB04.out).more HB04.out.size) (by omega) (by omega)
      have HRP := Lib.hid hrp
      clear hrp hb4
      have hz4 : rb < w4.heap.size := Nat.lt_of_lt_of_le hrz HB4.out.size
      rcases h with ⟨p5, cb5, B5, F5, M, rfl, hB5, ht5, hfM⟩ | ⟨M, rfl, hbM⟩
      · have HT5 := Lib.hid ht5
        have HFM := Lib.hid hfM
        have hB5' : rb < B5 := Nat.lt_of_lt_of_le hrz hB5
        clear hB5 ht5 hfM
        go_wp2_with fail
        refine HRP.out.mono ?_
        rintro e w5 ⟨hb5, h⟩
        rcases h with ⟨LA, lc, L, rfl, hll, hge, hfL⟩ | ⟨L, rfl, hbL⟩
        · have hML : M = L := fine_uniq (by omega) HFM.out hfL
          subst hML
          have HB5 := Lib.hid (HB04.out.trans (hb5.mono HB04.out.size))
          have hz5 : rb < w5.heap.size := Nat.lt_of_lt_of_le hz4 hb5.size
          have r0 : w5.cell? ⟨rb, 0, none⟩ = some (.slice A0 E.length c0) := (hb5.cell (p := ⟨rb, 0, none⟩) hz4).trans ((HB4.out.cell (p := ⟨rb, 0, none⟩) hrz).trans (HKR.out 0))
          have r1 : w5.cell? ⟨rb, 0 + 1, none⟩ = some (.slice none 0 0) := (hb5.cell (p := ⟨rb, 0 + 1, none⟩) hz4).trans ((HB4.out.cell (p := ⟨rb, 0 + 1, none⟩) hrz).trans (HKR.out 1))
          have f0 : w5.frozen? ⟨rb, 0, none⟩ = false := (hb5.frozen (p := ⟨rb, 0, none⟩) hz4).trans ((HB4.out.frozen (p := ⟨rb, 0, none⟩) hrz).trans (HFR.out 0))
          have f1 : w5.frozen? ⟨rb, 0 + 1, none⟩ = false := (hb5.frozen (p := ⟨rb, 0 + 1, none⟩) hz4).trans ((HB4.out.frozen (p := ⟨rb, 0 + 1, none⟩) hrz).trans (HFR.out 1))
          have ho : Only (fun b => b = rb) w5 ((w5.setCell ⟨rb, 0, none⟩ (.slice A0 E.length c0)).setCell ⟨rb, 0 + 1, none⟩ (.slice LA M.length lc)) := (Only.setCell (S := fun b => b = rb) Only.refl (a := ⟨rb, 0, none⟩) (fun _ => rfl) _).setCell (a := ⟨rb, 0 + 1, none⟩) (fun _ => rfl) _
          obtain ⟨P, hP⟩ : ∃ P, P = (w5.setCell ⟨rb, 0, none⟩ (.slice A0 E.length c0)).setCell ⟨rb, 1, none⟩ (.slice LA M.length lc) := ⟨_, rfl⟩
          have hP' : P = (w5.setCell ⟨rb, 0, none⟩ (.slice A0 E.length c0)).setCell ⟨rb, 0 + 1, none⟩ (.slice LA M.length lc) := hP
          rw [← hP'] at ho
          have hMl : M.length ≤ 2000 := by
            have h1 := textC_long M
            have h2 := HFM.out.2
            rw [← h2] at h1
            simp at h1
            omega
          have k1 : P.cell? ⟨rb, 1, none⟩ = some (.slice LA M.length lc) := by
            rw [hP]
            exact World.cell?_setCell_same' _ _ _ (by rw [World.cell?_setCell_other _ _ _ _ (fun e => by injection e with _ e; omega), r1]; rfl)
          have hlist : ChgsAt P P.heap.size LA M := (ho.chgs hll (Nat.le_refl _) (fun hne b o e q => by have q : b = rb := q; have := hge b o hne e; omega)).more ho.size
          have hT5 := HT5.out.below hb5
          have hTB : TabAt w5 B gp 5 E p5 cb5 F5 M := ⟨(HT.out.graph.below (HB4.out.trans (hb5.mono HB4.out.size) |>.mono (by have := HT.out.low; have := HT.out.cbp; have := HT.out.size; omega))), by have := hT5.low; omega, hT5.cbp, hT5.c0, hT5.c2, hT5.fam, hT5.asc, hT5.oks⟩
          have htab : TabAt P B gp 5 E p5 cb5 F5 M := hTB.only ho (fun b q => by have q : b = rb := q; omega) (fun b hb q => by have q : b = rb := q; have := (hT5.lt hb).1; omega)
          have HP := Lib.hid hP
          have HLS := Lib.hid hlist
          have HTP := Lib.hid htab
          have HBP := Lib.hid (HB5.out.trans (ho.below HB5.out.size (fun b q => by have q : b = rb := q; have := HRB.out; omega)))
          have HCH := Lib.hid (chgsL_all (L := M) (fun c hc => HFM.out.1.1 c hc))
          have HK1 := Lib.hid k1
          have hpz : rb < P.heap.size := by have := ho.size; omega
          clear hP hP' ho hlist htab hT5 hTB hll hge hfL hb5 k1
          go_wp2_with fail
          rw [← HP.out]
          obtain ⟨wo, rfl⟩ : ∃ wo, wo = P := ⟨_, rfl⟩
          have HLDo := Lib.hid (show ∀ X, Below wo.heap.size wo X → X.cell? ⟨rb, 1, none⟩ = some (.slice LA M.length lc) ∧ True from fun X hX => ⟨(hX.cell (p := ⟨rb, 1, none⟩) hpz).trans HK1.out, trivial⟩)
          obtain ⟨wd, hwd⟩ : ∃ wd, wd = wo.drew := ⟨_, rfl⟩
          have hBd : Below wo.heap.size wo wd := by rw [hwd]; exact below_drewN (Below.refl _ _) 1
          refine wp_region_held_drew (S := fun X => Below wo.heap.size wo X) (by kernel_rfl) (by rw [← hwd]; exact hBd) (fun hHeld => ?_)
          rw [← hwd]
          clear hwd hHeld
          have hHeld := hBd
          refine wpAnyH_take (i := 0) (v := .pointer (some ⟨p5, 0, none⟩)) rfl (by kernel_rfl) (by kernel_rfl) (by kernel_rfl) (fun _ _ _ h => h) (Or.inl ⟨by rfl, ?_⟩) (by assumption) ?_
          · intro w hSw
            obtain ⟨s0, _⟩ := HLDo.out _ hSw
            go_simp
          show wpAnyH _ _ _ _ _ _ _ (Act.put _ (some 59) _) _
          simp only [Act.put, List.setIfInBounds_toArray, List.set_cons_zero, List.set_cons_succ]
          refine wpAnyH_take (i := 1) (v := .bool false) rfl (by kernel_rfl) (by kernel_rfl) (by kernel_rfl) (fun _ _ _ h => h) (Or.inl ⟨by rfl, ?_⟩) (by assumption) ?_
          · intro w hSw
            obtain ⟨s0, _⟩ := HLDo.out _ hSw
            go_simp
          show wpAnyH _ _ _ _ _ _ _ (Act.put _ (some 60) _) _
          simp only [Act.put, List.setIfInBounds_toArray, List.set_cons_zero, List.set_cons_succ]
          refine wpAnyH_take (i := 2) (v := .bool false) rfl (by kernel_rfl) (by kernel_rfl) (by kernel_rfl) (fun _ _ _ h => h) (Or.inl ⟨by rfl, ?_⟩) (by assumption) ?_
          · intro w hSw
            obtain ⟨s0, _⟩ := HLDo.out _ hSw
            go_simp
          show wpAnyH _ _ _ _ _ _ _ (Act.put _ (some 61) _) _
          simp only [Act.put, List.setIfInBounds_toArray, List.set_cons_zero, List.set_cons_succ]
          refine wpAnyH_take (i := 3) (v := .pointer (some ⟨p5, 0, none⟩)) rfl (by kernel_rfl) (by kernel_rfl) (by kernel_rfl) (fun _ _ _ h => h) (Or.inl ⟨by rfl, ?_⟩) (by assumption) ?_
          · intro w hSw
            obtain ⟨s0, _⟩ := HLDo.out _ hSw
            go_simp
          show wpAnyH _ _ _ _ _ _ _ (Act.put _ (some 62) _) _
          simp only [Act.put, List.setIfInBounds_toArray, List.set_cons_zero, List.set_cons_succ]
          refine wpAnyH_take (i := 5) (v := .pointer (some ⟨rb, 1, none⟩)) rfl (by kernel_rfl) (by kernel_rfl) (by kernel_rfl) (fun _ _ _ h => h) (Or.inl ⟨by rfl, ?_⟩) (by assumption) ?_
          · intro w hSw
            obtain ⟨s0, _⟩ := HLDo.out _ hSw
            go_simp
          show wpAnyH _ _ _ _ _ _ _ (Act.put _ (some 64) _) _
          simp only [Act.put, List.setIfInBounds_toArray, List.set_cons_zero, List.set_cons_succ]
          refine wpAnyH_take (i := 6) (v := .slice LA M.length lc) rfl (by kernel_rfl) (by kernel_rfl) (by kernel_rfl) (fun _ _ _ h => h) (Or.inl ⟨by rfl, ?_⟩) (by assumption) ?_
          · intro w hSw
            obtain ⟨s0, _⟩ := HLDo.out _ hSw
            go_simp
          show wpAnyH _ _ _ _ _ _ _ (Act.put _ (some 65) _) _
          simp only [Act.put, List.setIfInBounds_toArray, List.set_cons_zero, List.set_cons_succ]
          refine wpAnyH_ready (rs := [4]) (by kernel_rfl) (by simp) ?_
          refine AllReadyH.cons rfl (fun K hK => ?_) AllReadyH.nil
          go_simp
          ((with_reducible refine (list_any (HTP.out.below hBd) (by omega) 0 4611686018427387904).mono ?_))
          rintro e w7 ⟨v7, rfl, hown7, hb7⟩
          have hB7 := hBd.trans (hb7.mono hBd.size)
          rw [HCH.out] at hown7
          obtain ⟨A7, c7, rfl, hsl7⟩ := OwnR.sl hown7
          have HSAME := Lib.hid (same_any A7 LA c7 lc M w7 hsl7 ((RecsAt.below HLS.out hB7).more hB7.size) (by omega))
          clear hown7 hsl7
          go_simp
          refine hK.out _ _ hB7 (fun hHeld => ?_)
          clear hK K hHeld
          have hHeld := hB7
          refine wpAnyH_ready (rs := [7]) (by kernel_rfl) (by simp) ?_
          refine AllReadyH.cons rfl (fun K hK => ?_) AllReadyH.nil
          go_simp
          ((with_reducible refine (HSAME.out).mono ?_))
          rintro e w8 ⟨rfl, hb8⟩
          have hB8 := hB7.trans (hb8.mono hB7.size)
          go_simp
          refine hK.out _ _ hB8 (fun hHeld => ?_)
          clear hK K hHeld
          have hHeld := hB8
          refine wpAnyH_take (i := 8) (v := .bool true) rfl (by kernel_rfl) (by kernel_rfl) (by kernel_rfl) (fun _ _ _ h => h) (Or.inl ⟨by rfl, ?_⟩) (by assumption) ?_
          · intro w hSw
            obtain ⟨s0, _⟩ := HLDo.out _ hSw
            go_simp
          show wpAnyH _ _ _ _ _ _ _ (Act.put _ (some 67) _) _
          simp only [Act.put, List.setIfInBounds_toArray, List.set_cons_zero, List.set_cons_succ]
          refine wpAnyH_take (i := 9) (v := .bool true) rfl (by kernel_rfl) (by kernel_rfl) (by kernel_rfl) (fun _ _ _ h => h) (Or.inl ⟨by rfl, ?_⟩) (by assumption) ?_
          · intro w hSw
            obtain ⟨s0, _⟩ := HLDo.out _ hSw
            go_simp
          refine wpAnyH_done (by kernel_rfl) ?_ _
          go_wp2_with fail
          go_ret
          exact ⟨rfl, HBP.out.trans (hB8.mono HBP.out.size)⟩
        · exact absurd hbL (fun q => fine_bad (by omega) HFM.out q)
      · have HBM := Lib.hid hbM
        clear hbM
        go_wp2_with fail
        refine HRP.out.mono ?_
        rintro e w5 ⟨hb5, h⟩
        rcases h with ⟨LA, lc, L, rfl, hll, hge, hfL⟩ | ⟨L, rfl, hbL⟩
        · exact absurd HBM.out (fun q => fine_bad (by omega) hfL q)
        · have hML : M = L := bad_uniq (by omega) HBM.out hbL
          subst hML
          have HB5 := Lib.hid (HB04.out.trans (hb5.mono HB04.out.size))
          have hz5 : rb < w5.heap.size := Nat.lt_of_lt_of_le hz4 hb5.size
          have r0 : w5.cell? ⟨rb, 0, none⟩ = some (.slice A0 E.length c0) := (hb5.cell (p := ⟨rb, 0, none⟩) hz4).trans ((HB4.out.cell (p := ⟨rb, 0, none⟩) hrz).trans (HKR.out 0))
          have r1 : w5.cell? ⟨rb, 0 + 1, none⟩ = some (.slice none 0 0) := (hb5.cell (p := ⟨rb, 0 + 1, none⟩) hz4).trans ((HB4.out.cell (p := ⟨rb, 0 + 1, none⟩) hrz).trans (HKR.out 1))
          have f0 : w5.frozen? ⟨rb, 0, none⟩ = false := (hb5.frozen (p := ⟨rb, 0, none⟩) hz4).trans ((HB4.out.frozen (p := ⟨rb, 0, none⟩) hrz).trans (HFR.out 0))
          have f1 : w5.frozen? ⟨rb, 0 + 1, none⟩ = false := (hb5.frozen (p := ⟨rb, 0 + 1, none⟩) hz4).trans ((HB4.out.frozen (p := ⟨rb, 0 + 1, none⟩) hrz).trans (HFR.out 1))
          have HBP := Lib.hid (show Below w.heap.size w ((w5.setCell ⟨rb, 0, none⟩ (.slice none 0 0)).setCell ⟨rb, 1, none⟩ (.slice none 0 0)) from (HB5.out.setCell (p := ⟨rb, 0, none⟩) HRB.out _).setCell (p := ⟨rb, 1, none⟩) HRB.out _)
          clear hb5
          go_wp2_with fail
          go_quiet (fail)
          go_wp2_with fail
          go_ret
          exact ⟨rfl, below_drewN HBP.out _⟩
  · go_wp2_with fail
    go_ret
    exact ⟨rfl, HB2.out.alloc HB2.out.size _⟩

theorem laid_met (os : Os) : laidMet Tryd.prog Rows.travelTimesParseUptoRow.laid ((World.laidAll Tryd.prog os Rows.travelTimesParseUptoRow.laid).forCall (fun _ _ => 0) ⟨#[], #[.slice none 0 0, .string ⟨#[]⟩], []⟩).memory :=
  laidMet_laidAll _ (laid_fits os) (laid_ifaces os)
theorem reads (os : Os) {H : Type} (enc : TypeId × Value → H) : ∃ places, DataW.whole enc Tryd.prog ((World.laidAll Tryd.prog os Rows.travelTimesParseUptoRow.laid).forCall (fun _ _ => 0) ⟨#[], #[.slice none 0 0, .string ⟨#[]⟩], []⟩).memory Tryd.f4.params.toList Rows.travelTimesParseSpec.vars false #[Value.slice none 0 0, .string ⟨#[]⟩].toList 8 = some ([.nil, .lit (.string [])], [], places) :=
  ⟨[], by kernel_rfl⟩

set_option maxRecDepth 100000 in
theorem lifted (os : Os) (started : os.Started) (H : Type) (enc : TypeId × Value → H) (F : Stop.Interp) :
    ReturnsInHanded {} Tryd.checked os 4 .any ((Rows.OpenSpec.upto Rows.travelTimesParseSpec).preRow enc Tryd.prog Tryd.f4 Rows.travelTimesParseUptoRow.domain false Rows.travelTimesParseUptoRow.laid) (((Rows.OpenSpec.upto Rows.travelTimesParseSpec).at F).post enc Tryd.prog Tryd.f4 false true false false) := by
  obtain ⟨places, hx⟩ := reads os enc
  refine returnsInHanded_of_row (C := Tryd.checked) (s := Rows.OpenSpec.upto Rows.travelTimesParseSpec) own started (by kernel_rfl) Tryd.func4
    (witness_row_atRef (enc := enc) (C := Tryd.checked) false (World.laidAll Tryd.prog os Rows.travelTimesParseUptoRow.laid) #[.slice none 0 0, .string ⟨#[]⟩] (World.laidAll_os _ _ _) (laid_vars os _) (laid_rest os _) (by kernel_rfl)
      (OpenSpec.preRow_of_cond 8 hx (by kernel_rfl) (fun k hk => by cases hk; kernel_rfl) (by kernel_rfl) (laid_met os))) ?_
  intro W base args ds gs before hval0 hW _ hcond _ hLH hSh _
  have hL0 := hLH
  rw [MakeChecks.laidMetH_plain _ _ _ (by kernel_rfl)] at hL0
  have hL : laidMet Tryd.prog Rows.travelTimesParseUptoRow.laid W := hL0
  clear hL0
  have hr : ReadyP W := readyP_of hL.tail.tail hL.tail.tail.tail.tail.tail hL.tail.tail.tail.tail hSh
  have hval : ∀ (j : Nat) t v, Tryd.f4.params[j]? = some t → args[j]? = some v → Value.okWide Tryd.prog W .any base t v := hval0
  have hW' := hW
  obtain ⟨p, q, hA0, hV, rfl, hfz, hnd⟩ := hW
  have hA : DataW.TrodAll enc Tryd.prog W 0 (fun _ => true) true Tryd.f4.params.toList args.toList ds p := hA0
  rw [Tryd.params4] at hA hval
  obtain ⟨v0, vs0, d0, ds0, p0, q0, hargs, rfl, rfl, h0, r0⟩ := trodAll_cons hA
  obtain ⟨v1, vs1, d1, ds1, p1, q1, rfl, rfl, rfl, h1, r1⟩ := trodAll_cons r0
  obtain ⟨rfl, rfl, rfl⟩ := trodAll_nil r1
  obtain rfl : args = #[v0, v1] := by cases args; simp_all
  obtain ⟨rfl, rfl⟩ := trodVars_none hV
  have hk := bulk_two (hcond _ rfl)
  obtain ⟨A0, zs0, c0, rfl, hs0, hwf0, hc0, hm0, hz0⟩ := open_sl Tryd.underlying22 Tryd.underlying2 (by kernel_rfl) (hval 0 22 v0 rfl rfl) h0
  have hn0 : zs0.length ≤ 1048576 := Nat.le_trans (bulk_slice Tryd.underlying22 h0) hk.1
  obtain ⟨s1, rfl, rfl, rfl, w1⟩ := open_string Tryd.underlying9 (hval 1 9 v1 rfl rfl) h1
  clear hA0 hval0
  refine (walk W A0 zs0 c0 hs0 hn0 s1 w1 hr).mono fun e W' ⟨he, hb⟩ => ?_
  subst he
  exact ⟨_, rfl, law_post laidOut (by kernel_rfl) rfl Tryd.underlying4 rfl hW' rfl rfl rfl hb⟩

theorem said : Rows.TravelTimesParseUptoSaid :=
  OpenClaim.holds_of_cond 4 Tryd.f4 rfl rfl rfl rfl rfl rfl rfl ⟨rfl, rfl, rfl, rfl, rfl⟩ rfl rfl rfl rfl rfl (by kernel_rfl) Tryd.func4 (by kernel_rfl)
    (of_decide_eq_true (by kernel_rfl)) (by unfold Func.isWrapper; first | (rw [if_pos (by decide +kernel)]; kernel_rfl) | (rw [if_neg (by decide +kernel)]; exact ⟨rfl, rfl⟩))
    (fun os started H enc _ F => by rw [OpenClaim.pre_eq_preRow]; exact lifted os started H enc F)

/-- No parameter wants a stand-in; the program's looks are those of the card. -/
theorem plain (f : FuncId) (fn : Func) (hf : Tryd.pinned.checked.prog.funcNamed "samaritan/samaritanlaw08.TravelTimesParse" = some f) (hfn : Tryd.pinned.checked.prog.funcs[f]? = some fn) :
    true = Tryd.pinned.checked.prog.looks [] ∧ ∀ (j : Nat) t, fn.params[j]? = some t → Tryd.pinned.checked.prog.wantsStandIn t = false := by
  obtain rfl : f = 4 := Option.some.inj ((show Tryd.prog.funcNamed "samaritan/samaritanlaw08.TravelTimesParse" = some 4 by kernel_rfl).symm.trans hf) |>.symm
  obtain rfl : fn = Tryd.f4 := (Option.some.inj (Tryd.func4.symm.trans hfn)).symm
  refine ⟨by kernel_rfl, fun j t ht => ?_⟩
  rw [Tryd.params4] at ht
  have hm := Array.mem_of_getElem? ht
  have hall : (#[22, 9] : Array TypeId).toList.all (fun t => Tryd.prog.wantsStandIn t == false) = true := by kernel_rfl
  have := List.all_eq_true.1 hall t (by simpa using hm)
  exact beq_iff_eq.1 this

theorem card : Rows.TravelTimesParseUptoCardSaid :=
  Claim7.holds_tied_plain_at .later [] _ _ _ _ said (fun _ h => by cases h) (by kernel_rfl) (fun _ h => by cases h) travelTimesParseUpto_row_tie rfl ⟨rfl, rfl⟩ (by kernel_rfl) rfl plain (by kernel_rfl)
#print axioms card
end Go.Proofs.YtppbmnlneoinhaaDoor.l08Parse
