/-
  samaritanlaw02.NodesetAlgebra returns true for every input, and the arguments read afterwards as before.
  Conditions: those of the given row (its list of package variables), tied to the program's text by the given tie; the card speaks of the pruned copy of the project that the seat was translated from.
-/
import Derived.Test.YtalfjcamjdmdjaaDoorCards
import Derived.Test.YtalfjcamjdmdjaaDoorTie
import Derived.Test.YtalfjcamjdmdjaaDoorSetAlg
import Derived.Test.YtalfjcamjdmdjaaDoorLift
import Derived.Test.YtalfjcamjdmdjaaDoorLaidS
import Derived.OpenShut
import Derived.Deep.DeepHandedRow
namespace Go.Proofs.YtalfjcamjdmdjaaDoor.l02Algebra
open Go.ChangeShapes Go.WideShapes Go.ChangeAt Go.RowKit Go.Maps
open Go.ChangeMaps (open_string shut_string)

set_option maxRecDepth 100000 in
set_option maxHeartbeats 4000000 in
theorem walk (w : World) (A0 : Option Addr) (zs0 : List Int) (c0 : Nat) (hs0 : Sl w w.heap.size A0 (zs0.map (Value.int .i64))) (A1 : Option Addr) (zs1 : List Int) (c1 : Nat) (hs1 : Sl w w.heap.size A1 (zs1.map (Value.int .i64))) (A2 : Option Addr) (zs2 : List Int) (c2 : Nat) (hs2 : Sl w w.heap.size A2 (zs2.map (Value.int .i64))) (hr : Ready6 w) :
    Calls Tryd.prog 8 #[.slice A0 zs0.length c0, .slice A1 zs1.length c1, .slice A2 zs2.length c2] w fun e w' => e = .returned (.bool true) ∧ Below w.heap.size w w' := by
  have H1 := Lib.hid (And.intro (Below.refl w.heap.size w) (And.intro (hr) (And.intro (hs0) (And.intro (hs1) (hs2)))))
  clear hr hs0 hs1 hs2
  by_cases hg0 : 60 < zs0.length
  · have dg0 : decide (60 < zs0.length) = true := decide_eq_true hg0
    go_enter Tryd.func8, Tryd.ntmps8
    go_wp2_with fail
    refine (refGreat_any A0 zs0.length c0 w).mono ?_
    rintro e w' ⟨rfl, hw⟩
    rw [hw]
    clear hw w'
    rw [dg0]
    go_wp2_with fail
    refine (awake_any w H1.out.2.1).mono ?_
    rintro e w2 ⟨rfl, hb2⟩
    have H2 := Lib.hid (And.intro (H1.out.1.trans (hb2.mono H1.out.1.size)) (And.intro (H1.out.2.1.below hb2) (And.intro ((H1.out.2.2.1.below hb2).more hb2.size) (And.intro ((H1.out.2.2.2.1.below hb2).more hb2.size) ((H1.out.2.2.2.2.below hb2).more hb2.size)))))
    clear hb2
    go_wp2_with fail
    go_ret
    exact ⟨rfl, H2.out.1⟩
  · have dg0 : decide (60 < zs0.length) = false := decide_eq_false hg0
    have hz0 : zs0.length ≤ 60 := by omega
    by_cases hg1 : 60 < zs1.length
    · have dg1 : decide (60 < zs1.length) = true := decide_eq_true hg1
      go_enter Tryd.func8, Tryd.ntmps8
      go_wp2_with fail
      refine (refGreat_any A0 zs0.length c0 w).mono ?_
      rintro e w' ⟨rfl, hw⟩
      rw [hw]
      clear hw w'
      rw [dg0]
      go_wp2_with fail
      refine (refGreat_any A1 zs1.length c1 w).mono ?_
      rintro e w' ⟨rfl, hw⟩
      rw [hw]
      clear hw w'
      rw [dg1]
      go_wp2_with fail
      refine (awake_any w H1.out.2.1).mono ?_
      rintro e w2 ⟨rfl, hb2⟩
      have H2 := Lib.hid (And.intro (H1.out.1.trans (hb2.mono H1.out.1.size)) (And.intro (H1.out.2.1.below hb2) (And.intro ((H1.out.2.2.1.below hb2).more hb2.size) (And.intro ((H1.out.2.2.2.1.below hb2).more hb2.size) ((H1.out.2.2.2.2.below hb2).more hb2.size)))))
      clear hb2
      go_wp2_with fail
      go_ret
      exact ⟨rfl, H2.out.1⟩
    · have dg1 : decide (60 < zs1.length) = false := decide_eq_false hg1
      have hz1 : zs1.length ≤ 60 := by omega
      by_cases hg2 : 60 < zs2.length
      · have dg2 : decide (60 < zs2.length) = true := decide_eq_true hg2
        go_enter Tryd.func8, Tryd.ntmps8
        go_wp2_with fail
        refine (refGreat_any A0 zs0.length c0 w).mono ?_
        rintro e w' ⟨rfl, hw⟩
        rw [hw]
        clear hw w'
        rw [dg0]
        go_wp2_with fail
        refine (refGreat_any A1 zs1.length c1 w).mono ?_
        rintro e w' ⟨rfl, hw⟩
        rw [hw]
        clear hw w'
        rw [dg1]
        go_wp2_with fail
        refine (refGreat_any A2 zs2.length c2 w).mono ?_
        rintro e w' ⟨rfl, hw⟩
        rw [hw]
        clear hw w'
        rw [dg2]
        go_wp2_with fail
        refine (awake_any w H1.out.2.1).mono ?_
        rintro e w2 ⟨rfl, hb2⟩
        have H2 := Lib.hid (And.intro (H1.out.1.trans (hb2.mono H1.out.1.size)) (And.intro (H1.out.2.1.below hb2) (And.intro ((H1.out.2.2.1.below hb2).more hb2.size) (And.intro ((H1.out.2.2.2.1.below hb2).more hb2.size) ((H1.out.2.2.2.2.below hb2).more hb2.size)))))
        clear hb2
        go_wp2_with fail
        go_ret
        exact ⟨rfl, H2.out.1⟩
      · have dg2 : decide (60 < zs2.length) = false := decide_eq_false hg2
        have hz2 : zs2.length ≤ 60 := by omega
        go_enter Tryd.func8, Tryd.ntmps8
        go_wp2_with fail
        refine (refGreat_any A0 zs0.length c0 w).mono ?_
        rintro e w' ⟨rfl, hw⟩
        rw [hw]
        clear hw w'
        rw [dg0]
        go_wp2_with fail
        refine (refGreat_any A1 zs1.length c1 w).mono ?_
        rintro e w' ⟨rfl, hw⟩
        rw [hw]
        clear hw w'
        rw [dg1]
        go_wp2_with fail
        refine (refGreat_any A2 zs2.length c2 w).mono ?_
        rintro e w' ⟨rfl, hw⟩
        rw [hw]
        clear hw w'
        rw [dg2]
        go_wp2_with fail
        refine (of_any w A0 c0 zs0 H1.out.2.2.1 (by have := hz0; omega)).mono ?_
        rintro e w2 ⟨pS, rfl, hs, hb2⟩
        have H2 := Lib.hid (And.intro (H1.out.1.trans (hb2.mono H1.out.1.size)) (And.intro (H1.out.2.1.below hb2) (And.intro ((H1.out.2.2.1.below hb2).more hb2.size) (And.intro ((H1.out.2.2.2.1.below hb2).more hb2.size) (And.intro ((H1.out.2.2.2.2.below hb2).more hb2.size) (hs))))))
        clear hs hb2
        go_wp2_with fail
        refine (of_any w2 A1 c1 zs1 H2.out.2.2.2.1 (by have := hz1; omega)).mono ?_
        rintro e w3 ⟨pT, rfl, hs, hb3⟩
        have H3 := Lib.hid (And.intro (H2.out.1.trans (hb3.mono H2.out.1.size)) (And.intro (H2.out.2.1.below hb3) (And.intro ((H2.out.2.2.1.below hb3).more hb3.size) (And.intro ((H2.out.2.2.2.1.below hb3).more hb3.size) (And.intro ((H2.out.2.2.2.2.1.below hb3).more hb3.size) (And.intro (H2.out.2.2.2.2.2.below hb3) (hs)))))))
        clear hs hb3
        go_wp2_with fail
        refine (of_any w3 A2 c2 zs2 H3.out.2.2.2.2.1 (by have := hz2; omega)).mono ?_
        rintro e w4 ⟨pU, rfl, hs, hb4⟩
        have H4 := Lib.hid (And.intro (H3.out.1.trans (hb4.mono H3.out.1.size)) (And.intro (H3.out.2.1.below hb4) (And.intro ((H3.out.2.2.1.below hb4).more hb4.size) (And.intro ((H3.out.2.2.2.1.below hb4).more hb4.size) (And.intro ((H3.out.2.2.2.2.1.below hb4).more hb4.size) (And.intro (H3.out.2.2.2.2.2.1.below hb4) (And.intro (H3.out.2.2.2.2.2.2.below hb4) (hs))))))))
        clear hs hb4
        go_wp2_with fail
        obtain ⟨w5, hw5⟩ : ∃ x, x = w4.alloc (.cells #[.pointer pS] 30) := ⟨_, rfl⟩
        have hb5 : Below w4.heap.size w4 w5 := by rw [hw5]; exact (Below.refl _ _).alloc (Nat.le_refl _) _
        have hcS_0 : w5.cell? ⟨w4.heap.size, 0, none⟩ = some (.pointer pS) := by rw [hw5, World.cell?_alloc_at (hn := rfl)]; rfl
        have hl5 : w4.heap.size < w5.heap.size := by rw [hw5]; simp
        rw [← hw5]
        rw [show w4.heap.size + 1 = w5.heap.size by rw [hw5]; simp]
        have H5 := Lib.hid (And.intro (H4.out.1.trans (hb5.mono H4.out.1.size)) (And.intro (H4.out.2.1.below hb5) (And.intro ((H4.out.2.2.1.below hb5).more hb5.size) (And.intro ((H4.out.2.2.2.1.below hb5).more hb5.size) (And.intro ((H4.out.2.2.2.2.1.below hb5).more hb5.size) (And.intro (H4.out.2.2.2.2.2.1.below hb5) (And.intro (H4.out.2.2.2.2.2.2.1.below hb5) (And.intro (H4.out.2.2.2.2.2.2.2.below hb5) (hl5)))))))))
        clear hw5 hl5 hb5
        obtain ⟨w6, hw6⟩ : ∃ x, x = w5.alloc (.cells #[.pointer pT] 30) := ⟨_, rfl⟩
        have hb6 : Below w5.heap.size w5 w6 := by rw [hw6]; exact (Below.refl _ _).alloc (Nat.le_refl _) _
        have hcT_0 : w6.cell? ⟨w5.heap.size, 0, none⟩ = some (.pointer pT) := by rw [hw6, World.cell?_alloc_at (hn := rfl)]; rfl
        have hl6 : w5.heap.size < w6.heap.size := by rw [hw6]; simp
        rw [← hw6]
        rw [show w5.heap.size + 1 = w6.heap.size by rw [hw6]; simp]
        have hcS_1 := (hb6.cell (p := ⟨w4.heap.size, 0, none⟩) H5.out.2.2.2.2.2.2.2.2).trans hcS_0
        have H6 := Lib.hid (And.intro (H5.out.1.trans (hb6.mono H5.out.1.size)) (And.intro (H5.out.2.1.below hb6) (And.intro ((H5.out.2.2.1.below hb6).more hb6.size) (And.intro ((H5.out.2.2.2.1.below hb6).more hb6.size) (And.intro ((H5.out.2.2.2.2.1.below hb6).more hb6.size) (And.intro (H5.out.2.2.2.2.2.1.below hb6) (And.intro (H5.out.2.2.2.2.2.2.1.below hb6) (And.intro (H5.out.2.2.2.2.2.2.2.1.below hb6) (And.intro (Nat.lt_of_lt_of_le H5.out.2.2.2.2.2.2.2.2 hb6.size) (hl6))))))))))
        clear hw6 hl6 hcS_0 hb6
        obtain ⟨w7, hw7⟩ : ∃ x, x = w6.alloc (.cells #[.pointer pU] 30) := ⟨_, rfl⟩
        have hb7 : Below w6.heap.size w6 w7 := by rw [hw7]; exact (Below.refl _ _).alloc (Nat.le_refl _) _
        have hcU_0 : w7.cell? ⟨w6.heap.size, 0, none⟩ = some (.pointer pU) := by rw [hw7, World.cell?_alloc_at (hn := rfl)]; rfl
        have hl7 : w6.heap.size < w7.heap.size := by rw [hw7]; simp
        rw [← hw7]
        have hcS_2 := (hb7.cell (p := ⟨w4.heap.size, 0, none⟩) H6.out.2.2.2.2.2.2.2.2.1).trans hcS_1
        have hcT_1 := (hb7.cell (p := ⟨w5.heap.size, 0, none⟩) H6.out.2.2.2.2.2.2.2.2.2).trans hcT_0
        have H7 := Lib.hid (And.intro (H6.out.1.trans (hb7.mono H6.out.1.size)) (And.intro (H6.out.2.1.below hb7) (And.intro ((H6.out.2.2.1.below hb7).more hb7.size) (And.intro ((H6.out.2.2.2.1.below hb7).more hb7.size) (And.intro ((H6.out.2.2.2.2.1.below hb7).more hb7.size) (And.intro (H6.out.2.2.2.2.2.1.below hb7) (And.intro (H6.out.2.2.2.2.2.2.1.below hb7) (And.intro (H6.out.2.2.2.2.2.2.2.1.below hb7) (And.intro (Nat.lt_of_lt_of_le H6.out.2.2.2.2.2.2.2.2.1 hb7.size) (And.intro (Nat.lt_of_lt_of_le H6.out.2.2.2.2.2.2.2.2.2 hb7.size) (hl7)))))))))))
        clear hw7 hl7 hcS_1 hcT_0 hb7
        obtain ⟨X, hX⟩ : ∃ X, X = ofW zs0 := ⟨_, rfl⟩
        obtain ⟨Y, hY⟩ : ∃ Y, Y = ofW zs1 := ⟨_, rfl⟩
        obtain ⟨Z, hZ⟩ : ∃ Z, Z = ofW zs2 := ⟨_, rfl⟩
        rw [← hX, ← hY, ← hZ] at H7
        clear hX hY hZ
        obtain ⟨wo, hwo⟩ : ∃ x, x = w7 := ⟨_, rfl⟩
        have HLD := Lib.hid (show ∀ V, Below wo.heap.size wo V → V.cell? ⟨w4.heap.size, 0, none⟩ = some (.pointer pS) ∧ V.cell? ⟨w5.heap.size, 0, none⟩ = some (.pointer pT) ∧ V.cell? ⟨w6.heap.size, 0, none⟩ = some (.pointer pU) from fun V hV => ⟨(hV.cell (p := ⟨w4.heap.size, 0, none⟩) (by rw [hwo]; exact H7.out.2.2.2.2.2.2.2.2.1)).trans (by rw [hwo]; exact hcS_2), (hV.cell (p := ⟨w5.heap.size, 0, none⟩) (by rw [hwo]; exact H7.out.2.2.2.2.2.2.2.2.2.1)).trans (by rw [hwo]; exact hcT_1), (hV.cell (p := ⟨w6.heap.size, 0, none⟩) (by rw [hwo]; exact H7.out.2.2.2.2.2.2.2.2.2.2)).trans (by rw [hwo]; exact hcU_0)⟩)
        rw [← hwo]
        obtain ⟨wd, hwd⟩ : ∃ wd, wd = wo.drew := ⟨_, rfl⟩
        have hBd : Below wo.heap.size wo wd := by rw [hwd]; exact below_drewN (Below.refl _ _) 1
        refine wp_region_held_drew (S := fun X => Below wo.heap.size wo X) (by kernel_rfl) (by rw [← hwd]; exact hBd) (fun hHeld => ?_)
        rw [← hwd]
        clear hwd hHeld
        have hHeld := hBd
        rw [hwo] at hBd
        have H8 := Lib.hid (And.intro (H7.out.1.trans (hBd.mono H7.out.1.size)) (And.intro (H7.out.2.1.below hBd) (And.intro ((H7.out.2.2.1.below hBd).more hBd.size) (And.intro ((H7.out.2.2.2.1.below hBd).more hBd.size) (And.intro ((H7.out.2.2.2.2.1.below hBd).more hBd.size) (And.intro (H7.out.2.2.2.2.2.1.below hBd) (And.intro (H7.out.2.2.2.2.2.2.1.below hBd) (And.intro (H7.out.2.2.2.2.2.2.2.1.below hBd) (And.intro (Nat.lt_of_lt_of_le H7.out.2.2.2.2.2.2.2.2.1 hBd.size) (And.intro (Nat.lt_of_lt_of_le H7.out.2.2.2.2.2.2.2.2.2.1 hBd.size) (Nat.lt_of_lt_of_le H7.out.2.2.2.2.2.2.2.2.2.2 hBd.size)))))))))))
        rw [← hwo] at hBd
        refine wpAnyH_take (i := 0) (v := .agg #[.pointer pS]) rfl (by kernel_rfl) (by kernel_rfl) (by kernel_rfl) (fun _ _ _ h => h) (Or.inl ⟨by rfl, ?_⟩) (by assumption) ?_
        · intro w hSw
          obtain ⟨s0, s1, s2⟩ := HLD.out _ hSw
          go_simp
        show wpAnyH _ _ _ _ _ _ _ (Act.put _ (some 27) _) _
        simp only [Act.put, List.setIfInBounds_toArray, List.set_cons_zero, List.set_cons_succ]
        refine wpAnyH_take (i := 1) (v := .agg #[.pointer pT]) rfl (by kernel_rfl) (by kernel_rfl) (by kernel_rfl) (fun _ _ _ h => h) (Or.inl ⟨by rfl, ?_⟩) (by assumption) ?_
        · intro w hSw
          obtain ⟨s0, s1, s2⟩ := HLD.out _ hSw
          go_simp
        show wpAnyH _ _ _ _ _ _ _ (Act.put _ (some 28) _) _
        simp only [Act.put, List.setIfInBounds_toArray, List.set_cons_zero, List.set_cons_succ]
        refine wpAnyH_take (i := 2) (v := .agg #[.pointer pU]) rfl (by kernel_rfl) (by kernel_rfl) (by kernel_rfl) (fun _ _ _ h => h) (Or.inl ⟨by rfl, ?_⟩) (by assumption) ?_
        · intro w hSw
          obtain ⟨s0, s1, s2⟩ := HLD.out _ hSw
          go_simp
        show wpAnyH _ _ _ _ _ _ _ (Act.put _ (some 29) _) _
        simp only [Act.put, List.setIfInBounds_toArray, List.set_cons_zero, List.set_cons_succ]
        refine wpAnyH_take (i := 5) (v := .agg #[.pointer pS]) rfl (by kernel_rfl) (by kernel_rfl) (by kernel_rfl) (fun _ _ _ h => h) (Or.inl ⟨by rfl, ?_⟩) (by assumption) ?_
        · intro w hSw
          obtain ⟨s0, s1, s2⟩ := HLD.out _ hSw
          go_simp
        show wpAnyH _ _ _ _ _ _ _ (Act.put _ (some 32) _) _
        simp only [Act.put, List.setIfInBounds_toArray, List.set_cons_zero, List.set_cons_succ]
        refine wpAnyH_take (i := 6) (v := .agg #[.pointer pT]) rfl (by kernel_rfl) (by kernel_rfl) (by kernel_rfl) (fun _ _ _ h => h) (Or.inl ⟨by rfl, ?_⟩) (by assumption) ?_
        · intro w hSw
          obtain ⟨s0, s1, s2⟩ := HLD.out _ hSw
          go_simp
        show wpAnyH _ _ _ _ _ _ _ (Act.put _ (some 33) _) _
        simp only [Act.put, List.setIfInBounds_toArray, List.set_cons_zero, List.set_cons_succ]
        refine wpAnyH_take (i := 8) (v := .agg #[.pointer pU]) rfl (by kernel_rfl) (by kernel_rfl) (by kernel_rfl) (fun _ _ _ h => h) (Or.inl ⟨by rfl, ?_⟩) (by assumption) ?_
        · intro w hSw
          obtain ⟨s0, s1, s2⟩ := HLD.out _ hSw
          go_simp
        show wpAnyH _ _ _ _ _ _ _ (Act.put _ (some 35) _) _
        simp only [Act.put, List.setIfInBounds_toArray, List.set_cons_zero, List.set_cons_succ]
        refine wpAnyH_ready (rs := [3]) (by kernel_rfl) (by simp) ?_
        refine AllReadyH.cons rfl (fun K hK => ?_) AllReadyH.nil
        go_simp
        ((with_reducible refine (orN_any wd pT pU Y Z H8.out.2.2.2.2.2.2.1 H8.out.2.2.2.2.2.2.2.1).mono ?_))
        rintro e w9 ⟨p_a, rfl, hs, hb9⟩
        have hB9 := hBd.trans (hb9.mono hBd.size)
        have H9 := Lib.hid (And.intro (H8.out.1.trans (hb9.mono H8.out.1.size)) (And.intro (H8.out.2.1.below hb9) (And.intro ((H8.out.2.2.1.below hb9).more hb9.size) (And.intro ((H8.out.2.2.2.1.below hb9).more hb9.size) (And.intro ((H8.out.2.2.2.2.1.below hb9).more hb9.size) (And.intro (H8.out.2.2.2.2.2.1.below hb9) (And.intro (H8.out.2.2.2.2.2.2.1.below hb9) (And.intro (H8.out.2.2.2.2.2.2.2.1.below hb9) (And.intro (Nat.lt_of_lt_of_le H8.out.2.2.2.2.2.2.2.2.1 hb9.size) (And.intro (Nat.lt_of_lt_of_le H8.out.2.2.2.2.2.2.2.2.2.1 hb9.size) (And.intro (Nat.lt_of_lt_of_le H8.out.2.2.2.2.2.2.2.2.2.2 hb9.size) (hs))))))))))))
        clear hs hb9
        go_simp
        refine hK.out _ _ hB9 (fun hHeld => ?_)
        clear hK K hHeld
        have hHeld := hB9
        refine wpAnyH_ready (rs := [4]) (by kernel_rfl) (by simp) ?_
        refine AllReadyH.cons rfl (fun K hK => ?_) AllReadyH.nil
        go_simp
        ((with_reducible refine (lessN_any w9 pS p_a X (orW Y Z) H9.out.2.2.2.2.2.1 H9.out.2.2.2.2.2.2.2.2.2.2.2).mono ?_))
        rintro e w10 ⟨p_b, rfl, hs, hb10⟩
        have hB10 := hB9.trans (hb10.mono hB9.size)
        have H10 := Lib.hid (And.intro (H9.out.1.trans (hb10.mono H9.out.1.size)) (And.intro (H9.out.2.1.below hb10) (And.intro ((H9.out.2.2.1.below hb10).more hb10.size) (And.intro ((H9.out.2.2.2.1.below hb10).more hb10.size) (And.intro ((H9.out.2.2.2.2.1.below hb10).more hb10.size) (And.intro (H9.out.2.2.2.2.2.1.below hb10) (And.intro (H9.out.2.2.2.2.2.2.1.below hb10) (And.intro (H9.out.2.2.2.2.2.2.2.1.below hb10) (And.intro (Nat.lt_of_lt_of_le H9.out.2.2.2.2.2.2.2.2.1 hb10.size) (And.intro (Nat.lt_of_lt_of_le H9.out.2.2.2.2.2.2.2.2.2.1 hb10.size) (And.intro (Nat.lt_of_lt_of_le H9.out.2.2.2.2.2.2.2.2.2.2.1 hb10.size) (And.intro (H9.out.2.2.2.2.2.2.2.2.2.2.2.below hb10) (hs)))))))))))))
        clear hs hb10
        go_simp
        refine hK.out _ _ hB10 (fun hHeld => ?_)
        clear hK K hHeld
        have hHeld := hB10
        refine wpAnyH_ready (rs := [7]) (by kernel_rfl) (by simp) ?_
        refine AllReadyH.cons rfl (fun K hK => ?_) AllReadyH.nil
        go_simp
        ((with_reducible refine (lessN_any w10 pS pT X Y H10.out.2.2.2.2.2.1 H10.out.2.2.2.2.2.2.1).mono ?_))
        rintro e w11 ⟨p_c, rfl, hs, hb11⟩
        have hB11 := hB10.trans (hb11.mono hB10.size)
        have H11 := Lib.hid (And.intro (H10.out.1.trans (hb11.mono H10.out.1.size)) (And.intro (H10.out.2.1.below hb11) (And.intro ((H10.out.2.2.1.below hb11).more hb11.size) (And.intro ((H10.out.2.2.2.1.below hb11).more hb11.size) (And.intro ((H10.out.2.2.2.2.1.below hb11).more hb11.size) (And.intro (H10.out.2.2.2.2.2.1.below hb11) (And.intro (H10.out.2.2.2.2.2.2.1.below hb11) (And.intro (H10.out.2.2.2.2.2.2.2.1.below hb11) (And.intro (Nat.lt_of_lt_of_le H10.out.2.2.2.2.2.2.2.2.1 hb11.size) (And.intro (Nat.lt_of_lt_of_le H10.out.2.2.2.2.2.2.2.2.2.1 hb11.size) (And.intro (Nat.lt_of_lt_of_le H10.out.2.2.2.2.2.2.2.2.2.2.1 hb11.size) (And.intro (H10.out.2.2.2.2.2.2.2.2.2.2.2.1.below hb11) (And.intro (H10.out.2.2.2.2.2.2.2.2.2.2.2.2.below hb11) (hs))))))))))))))
        clear hs hb11
        go_simp
        refine hK.out _ _ hB11 (fun hHeld => ?_)
        clear hK K hHeld
        have hHeld := hB11
        refine wpAnyH_ready (rs := [9]) (by kernel_rfl) (by simp) ?_
        refine AllReadyH.cons rfl (fun K hK => ?_) AllReadyH.nil
        go_simp
        ((with_reducible refine (lessN_any w11 p_c pU (lessW X Y) Z H11.out.2.2.2.2.2.2.2.2.2.2.2.2.2 H11.out.2.2.2.2.2.2.2.1).mono ?_))
        rintro e w12 ⟨p_d, rfl, hs, hb12⟩
        have hB12 := hB11.trans (hb12.mono hB11.size)
        have H12 := Lib.hid (And.intro (H11.out.1.trans (hb12.mono H11.out.1.size)) (And.intro (H11.out.2.1.below hb12) (And.intro ((H11.out.2.2.1.below hb12).more hb12.size) (And.intro ((H11.out.2.2.2.1.below hb12).more hb12.size) (And.intro ((H11.out.2.2.2.2.1.below hb12).more hb12.size) (And.intro (H11.out.2.2.2.2.2.1.below hb12) (And.intro (H11.out.2.2.2.2.2.2.1.below hb12) (And.intro (H11.out.2.2.2.2.2.2.2.1.below hb12) (And.intro (Nat.lt_of_lt_of_le H11.out.2.2.2.2.2.2.2.2.1 hb12.size) (And.intro (Nat.lt_of_lt_of_le H11.out.2.2.2.2.2.2.2.2.2.1 hb12.size) (And.intro (Nat.lt_of_lt_of_le H11.out.2.2.2.2.2.2.2.2.2.2.1 hb12.size) (And.intro (H11.out.2.2.2.2.2.2.2.2.2.2.2.1.below hb12) (And.intro (H11.out.2.2.2.2.2.2.2.2.2.2.2.2.1.below hb12) (And.intro (H11.out.2.2.2.2.2.2.2.2.2.2.2.2.2.below hb12) (hs)))))))))))))))
        clear hs hb12
        go_simp
        refine hK.out _ _ hB12 (fun hHeld => ?_)
        clear hK K hHeld
        have hHeld := hB12
        refine wpAnyH_ready (rs := [10]) (by kernel_rfl) (by simp) ?_
        refine AllReadyH.cons rfl (fun K hK => ?_) AllReadyH.nil
        go_simp
        ((with_reducible refine (equal_any w12 p_b p_d (lessW X (orW Y Z)) (lessW (lessW X Y) Z) H12.out.2.2.2.2.2.2.2.2.2.2.2.2.1 H12.out.2.2.2.2.2.2.2.2.2.2.2.2.2.2).mono ?_))
        rw [show ((lessW X (orW Y Z)) == (lessW (lessW X Y) Z)) = true from beq_iff_eq.2 (alg_one H12.out.2.2.2.2.2.1.1 H12.out.2.2.2.2.2.2.1.1 H12.out.2.2.2.2.2.2.2.1.1)]
        rintro e w13 ⟨rfl, hb13⟩
        have hB13 := hB12.trans (hb13.mono hB12.size)
        have H13 := Lib.hid (And.intro (H12.out.1.trans (hb13.mono H12.out.1.size)) (And.intro (H12.out.2.1.below hb13) (And.intro ((H12.out.2.2.1.below hb13).more hb13.size) (And.intro ((H12.out.2.2.2.1.below hb13).more hb13.size) (And.intro ((H12.out.2.2.2.2.1.below hb13).more hb13.size) (And.intro (H12.out.2.2.2.2.2.1.below hb13) (And.intro (H12.out.2.2.2.2.2.2.1.below hb13) (And.intro (H12.out.2.2.2.2.2.2.2.1.below hb13) (And.intro (Nat.lt_of_lt_of_le H12.out.2.2.2.2.2.2.2.2.1 hb13.size) (And.intro (Nat.lt_of_lt_of_le H12.out.2.2.2.2.2.2.2.2.2.1 hb13.size) (And.intro (Nat.lt_of_lt_of_le H12.out.2.2.2.2.2.2.2.2.2.2.1 hb13.size) (And.intro (H12.out.2.2.2.2.2.2.2.2.2.2.2.1.below hb13) (And.intro (H12.out.2.2.2.2.2.2.2.2.2.2.2.2.1.below hb13) (And.intro (H12.out.2.2.2.2.2.2.2.2.2.2.2.2.2.1.below hb13) (H12.out.2.2.2.2.2.2.2.2.2.2.2.2.2.2.below hb13)))))))))))))))
        clear hb13
        go_simp
        refine hK.out _ _ hB13 (fun hHeld => ?_)
        clear hK K hHeld
        have hHeld := hB13
        refine wpAnyH_take (i := 11) (v := .bool false) rfl (by kernel_rfl) (by kernel_rfl) (by kernel_rfl) (fun _ _ _ h => h) (Or.inl ⟨by rfl, ?_⟩) (by assumption) ?_
        · intro w hSw
          obtain ⟨s0, s1, s2⟩ := HLD.out _ hSw
          go_simp
        show wpAnyH _ _ _ _ _ _ _ (Act.put _ (some 38) _) _
        simp only [Act.put, List.setIfInBounds_toArray, List.set_cons_zero, List.set_cons_succ]
        refine wpAnyH_take (i := 12) (v := .bool false) rfl (by kernel_rfl) (by kernel_rfl) (by kernel_rfl) (fun _ _ _ h => h) (Or.inl ⟨by rfl, ?_⟩) (by assumption) ?_
        · intro w hSw
          obtain ⟨s0, s1, s2⟩ := HLD.out _ hSw
          go_simp
        show wpAnyH _ _ _ _ _ _ _ (Act.put _ (some 39) _) _
        simp only [Act.put, List.setIfInBounds_toArray, List.set_cons_zero, List.set_cons_succ]
        refine wpAnyH_take (i := 13) (v := .agg #[.pointer pS]) rfl (by kernel_rfl) (by kernel_rfl) (by kernel_rfl) (fun _ _ _ h => h) (Or.inl ⟨by rfl, ?_⟩) (by assumption) ?_
        · intro w hSw
          obtain ⟨s0, s1, s2⟩ := HLD.out _ hSw
          go_simp
        show wpAnyH _ _ _ _ _ _ _ (Act.put _ (some 40) _) _
        simp only [Act.put, List.setIfInBounds_toArray, List.set_cons_zero, List.set_cons_succ]
        refine wpAnyH_take (i := 14) (v := .agg #[.pointer pT]) rfl (by kernel_rfl) (by kernel_rfl) (by kernel_rfl) (fun _ _ _ h => h) (Or.inl ⟨by rfl, ?_⟩) (by assumption) ?_
        · intro w hSw
          obtain ⟨s0, s1, s2⟩ := HLD.out _ hSw
          go_simp
        show wpAnyH _ _ _ _ _ _ _ (Act.put _ (some 41) _) _
        simp only [Act.put, List.setIfInBounds_toArray, List.set_cons_zero, List.set_cons_succ]
        refine wpAnyH_take (i := 15) (v := .agg #[.pointer pU]) rfl (by kernel_rfl) (by kernel_rfl) (by kernel_rfl) (fun _ _ _ h => h) (Or.inl ⟨by rfl, ?_⟩) (by assumption) ?_
        · intro w hSw
          obtain ⟨s0, s1, s2⟩ := HLD.out _ hSw
          go_simp
        show wpAnyH _ _ _ _ _ _ _ (Act.put _ (some 42) _) _
        simp only [Act.put, List.setIfInBounds_toArray, List.set_cons_zero, List.set_cons_succ]
        refine wpAnyH_take (i := 18) (v := .agg #[.pointer pS]) rfl (by kernel_rfl) (by kernel_rfl) (by kernel_rfl) (fun _ _ _ h => h) (Or.inl ⟨by rfl, ?_⟩) (by assumption) ?_
        · intro w hSw
          obtain ⟨s0, s1, s2⟩ := HLD.out _ hSw
          go_simp
        show wpAnyH _ _ _ _ _ _ _ (Act.put _ (some 45) _) _
        simp only [Act.put, List.setIfInBounds_toArray, List.set_cons_zero, List.set_cons_succ]
        refine wpAnyH_take (i := 19) (v := .agg #[.pointer pT]) rfl (by kernel_rfl) (by kernel_rfl) (by kernel_rfl) (fun _ _ _ h => h) (Or.inl ⟨by rfl, ?_⟩) (by assumption) ?_
        · intro w hSw
          obtain ⟨s0, s1, s2⟩ := HLD.out _ hSw
          go_simp
        show wpAnyH _ _ _ _ _ _ _ (Act.put _ (some 46) _) _
        simp only [Act.put, List.setIfInBounds_toArray, List.set_cons_zero, List.set_cons_succ]
        refine wpAnyH_take (i := 21) (v := .agg #[.pointer pS]) rfl (by kernel_rfl) (by kernel_rfl) (by kernel_rfl) (fun _ _ _ h => h) (Or.inl ⟨by rfl, ?_⟩) (by assumption) ?_
        · intro w hSw
          obtain ⟨s0, s1, s2⟩ := HLD.out _ hSw
          go_simp
        show wpAnyH _ _ _ _ _ _ _ (Act.put _ (some 48) _) _
        simp only [Act.put, List.setIfInBounds_toArray, List.set_cons_zero, List.set_cons_succ]
        refine wpAnyH_take (i := 22) (v := .agg #[.pointer pU]) rfl (by kernel_rfl) (by kernel_rfl) (by kernel_rfl) (fun _ _ _ h => h) (Or.inl ⟨by rfl, ?_⟩) (by assumption) ?_
        · intro w hSw
          obtain ⟨s0, s1, s2⟩ := HLD.out _ hSw
          go_simp
        show wpAnyH _ _ _ _ _ _ _ (Act.put _ (some 49) _) _
        simp only [Act.put, List.setIfInBounds_toArray, List.set_cons_zero, List.set_cons_succ]
        refine wpAnyH_ready (rs := [16]) (by kernel_rfl) (by simp) ?_
        refine AllReadyH.cons rfl (fun K hK => ?_) AllReadyH.nil
        go_simp
        ((with_reducible refine (andN_any w13 pT pU Y Z H13.out.2.2.2.2.2.2.1 H13.out.2.2.2.2.2.2.2.1).mono ?_))
        rintro e w14 ⟨p_e, rfl, hs, hb14⟩
        have hB14 := hB13.trans (hb14.mono hB13.size)
        have H14 := Lib.hid (And.intro (H13.out.1.trans (hb14.mono H13.out.1.size)) (And.intro (H13.out.2.1.below hb14) (And.intro ((H13.out.2.2.1.below hb14).more hb14.size) (And.intro ((H13.out.2.2.2.1.below hb14).more hb14.size) (And.intro ((H13.out.2.2.2.2.1.below hb14).more hb14.size) (And.intro (H13.out.2.2.2.2.2.1.below hb14) (And.intro (H13.out.2.2.2.2.2.2.1.below hb14) (And.intro (H13.out.2.2.2.2.2.2.2.1.below hb14) (And.intro (Nat.lt_of_lt_of_le H13.out.2.2.2.2.2.2.2.2.1 hb14.size) (And.intro (Nat.lt_of_lt_of_le H13.out.2.2.2.2.2.2.2.2.2.1 hb14.size) (And.intro (Nat.lt_of_lt_of_le H13.out.2.2.2.2.2.2.2.2.2.2.1 hb14.size) (And.intro (H13.out.2.2.2.2.2.2.2.2.2.2.2.1.below hb14) (And.intro (H13.out.2.2.2.2.2.2.2.2.2.2.2.2.1.below hb14) (And.intro (H13.out.2.2.2.2.2.2.2.2.2.2.2.2.2.1.below hb14) (And.intro (H13.out.2.2.2.2.2.2.2.2.2.2.2.2.2.2.below hb14) (hs))))))))))))))))
        clear hs hb14
        go_simp
        refine hK.out _ _ hB14 (fun hHeld => ?_)
        clear hK K hHeld
        have hHeld := hB14
        refine wpAnyH_ready (rs := [17]) (by kernel_rfl) (by simp) ?_
        refine AllReadyH.cons rfl (fun K hK => ?_) AllReadyH.nil
        go_simp
        ((with_reducible refine (lessN_any w14 pS p_e X (andW Y Z) H14.out.2.2.2.2.2.1 H14.out.2.2.2.2.2.2.2.2.2.2.2.2.2.2.2).mono ?_))
        rintro e w15 ⟨p_f, rfl, hs, hb15⟩
        have hB15 := hB14.trans (hb15.mono hB14.size)
        have H15 := Lib.hid (And.intro (H14.out.1.trans (hb15.mono H14.out.1.size)) (And.intro (H14.out.2.1.below hb15) (And.intro ((H14.out.2.2.1.below hb15).more hb15.size) (And.intro ((H14.out.2.2.2.1.below hb15).more hb15.size) (And.intro ((H14.out.2.2.2.2.1.below hb15).more hb15.size) (And.intro (H14.out.2.2.2.2.2.1.below hb15) (And.intro (H14.out.2.2.2.2.2.2.1.below hb15) (And.intro (H14.out.2.2.2.2.2.2.2.1.below hb15) (And.intro (Nat.lt_of_lt_of_le H14.out.2.2.2.2.2.2.2.2.1 hb15.size) (And.intro (Nat.lt_of_lt_of_le H14.out.2.2.2.2.2.2.2.2.2.1 hb15.size) (And.intro (Nat.lt_of_lt_of_le H14.out.2.2.2.2.2.2.2.2.2.2.1 hb15.size) (And.intro (H14.out.2.2.2.2.2.2.2.2.2.2.2.1.below hb15) (And.intro (H14.out.2.2.2.2.2.2.2.2.2.2.2.2.1.below hb15) (And.intro (H14.out.2.2.2.2.2.2.2.2.2.2.2.2.2.1.below hb15) (And.intro (H14.out.2.2.2.2.2.2.2.2.2.2.2.2.2.2.1.below hb15) (And.intro (H14.out.2.2.2.2.2.2.2.2.2.2.2.2.2.2.2.below hb15) (hs)))))))))))))))))
        clear hs hb15
        go_simp
        refine hK.out _ _ hB15 (fun hHeld => ?_)
        clear hK K hHeld
        have hHeld := hB15
        refine wpAnyH_ready (rs := [20]) (by kernel_rfl) (by simp) ?_
        refine AllReadyH.cons rfl (fun K hK => ?_) AllReadyH.nil
        go_simp
        ((with_reducible refine (lessN_any w15 pS pT X Y H15.out.2.2.2.2.2.1 H15.out.2.2.2.2.2.2.1).mono ?_))
        rintro e w16 ⟨p_g, rfl, hs, hb16⟩
        have hB16 := hB15.trans (hb16.mono hB15.size)
        have H16 := Lib.hid (And.intro (H15.out.1.trans (hb16.mono H15.out.1.size)) (And.intro (H15.out.2.1.below hb16) (And.intro ((H15.out.2.2.1.below hb16).more hb16.size) (And.intro ((H15.out.2.2.2.1.below hb16).more hb16.size) (And.intro ((H15.out.2.2.2.2.1.below hb16).more hb16.size) (And.intro (H15.out.2.2.2.2.2.1.below hb16) (And.intro (H15.out.2.2.2.2.2.2.1.below hb16) (And.intro (H15.out.2.2.2.2.2.2.2.1.below hb16) (And.intro (Nat.lt_of_lt_of_le H15.out.2.2.2.2.2.2.2.2.1 hb16.size) (And.intro (Nat.lt_of_lt_of_le H15.out.2.2.2.2.2.2.2.2.2.1 hb16.size) (And.intro (Nat.lt_of_lt_of_le H15.out.2.2.2.2.2.2.2.2.2.2.1 hb16.size) (And.intro (H15.out.2.2.2.2.2.2.2.2.2.2.2.1.below hb16) (And.intro (H15.out.2.2.2.2.2.2.2.2.2.2.2.2.1.below hb16) (And.intro (H15.out.2.2.2.2.2.2.2.2.2.2.2.2.2.1.below hb16) (And.intro (H15.out.2.2.2.2.2.2.2.2.2.2.2.2.2.2.1.below hb16) (And.intro (H15.out.2.2.2.2.2.2.2.2.2.2.2.2.2.2.2.1.below hb16) (And.intro (H15.out.2.2.2.2.2.2.2.2.2.2.2.2.2.2.2.2.below hb16) (hs))))))))))))))))))
        clear hs hb16
        go_simp
        refine hK.out _ _ hB16 (fun hHeld => ?_)
        clear hK K hHeld
        have hHeld := hB16
        refine wpAnyH_ready (rs := [23]) (by kernel_rfl) (by simp) ?_
        refine AllReadyH.cons rfl (fun K hK => ?_) AllReadyH.nil
        go_simp
        ((with_reducible refine (lessN_any w16 pS pU X Z H16.out.2.2.2.2.2.1 H16.out.2.2.2.2.2.2.2.1).mono ?_))
        rintro e w17 ⟨p_h, rfl, hs, hb17⟩
        have hB17 := hB16.trans (hb17.mono hB16.size)
        have H17 := Lib.hid (And.intro (H16.out.1.trans (hb17.mono H16.out.1.size)) (And.intro (H16.out.2.1.below hb17) (And.intro ((H16.out.2.2.1.below hb17).more hb17.size) (And.intro ((H16.out.2.2.2.1.below hb17).more hb17.size) (And.intro ((H16.out.2.2.2.2.1.below hb17).more hb17.size) (And.intro (H16.out.2.2.2.2.2.1.below hb17) (And.intro (H16.out.2.2.2.2.2.2.1.below hb17) (And.intro (H16.out.2.2.2.2.2.2.2.1.below hb17) (And.intro (Nat.lt_of_lt_of_le H16.out.2.2.2.2.2.2.2.2.1 hb17.size) (And.intro (Nat.lt_of_lt_of_le H16.out.2.2.2.2.2.2.2.2.2.1 hb17.size) (And.intro (Nat.lt_of_lt_of_le H16.out.2.2.2.2.2.2.2.2.2.2.1 hb17.size) (And.intro (H16.out.2.2.2.2.2.2.2.2.2.2.2.1.below hb17) (And.intro (H16.out.2.2.2.2.2.2.2.2.2.2.2.2.1.below hb17) (And.intro (H16.out.2.2.2.2.2.2.2.2.2.2.2.2.2.1.below hb17) (And.intro (H16.out.2.2.2.2.2.2.2.2.2.2.2.2.2.2.1.below hb17) (And.intro (H16.out.2.2.2.2.2.2.2.2.2.2.2.2.2.2.2.1.below hb17) (And.intro (H16.out.2.2.2.2.2.2.2.2.2.2.2.2.2.2.2.2.1.below hb17) (And.intro (H16.out.2.2.2.2.2.2.2.2.2.2.2.2.2.2.2.2.2.below hb17) (hs)))))))))))))))))))
        clear hs hb17
        go_simp
        refine hK.out _ _ hB17 (fun hHeld => ?_)
        clear hK K hHeld
        have hHeld := hB17
        refine wpAnyH_ready (rs := [24]) (by kernel_rfl) (by simp) ?_
        refine AllReadyH.cons rfl (fun K hK => ?_) AllReadyH.nil
        go_simp
        ((with_reducible refine (orN_any w17 p_g p_h (lessW X Y) (lessW X Z) H17.out.2.2.2.2.2.2.2.2.2.2.2.2.2.2.2.2.2.1 H17.out.2.2.2.2.2.2.2.2.2.2.2.2.2.2.2.2.2.2).mono ?_))
        rintro e w18 ⟨p_i, rfl, hs, hb18⟩
        have hB18 := hB17.trans (hb18.mono hB17.size)
        have H18 := Lib.hid (And.intro (H17.out.1.trans (hb18.mono H17.out.1.size)) (And.intro (H17.out.2.1.below hb18) (And.intro ((H17.out.2.2.1.below hb18).more hb18.size) (And.intro ((H17.out.2.2.2.1.below hb18).more hb18.size) (And.intro ((H17.out.2.2.2.2.1.below hb18).more hb18.size) (And.intro (H17.out.2.2.2.2.2.1.below hb18) (And.intro (H17.out.2.2.2.2.2.2.1.below hb18) (And.intro (H17.out.2.2.2.2.2.2.2.1.below hb18) (And.intro (Nat.lt_of_lt_of_le H17.out.2.2.2.2.2.2.2.2.1 hb18.size) (And.intro (Nat.lt_of_lt_of_le H17.out.2.2.2.2.2.2.2.2.2.1 hb18.size) (And.intro (Nat.lt_of_lt_of_le H17.out.2.2.2.2.2.2.2.2.2.2.1 hb18.size) (And.intro (H17.out.2.2.2.2.2.2.2.2.2.2.2.1.below hb18) (And.intro (H17.out.2.2.2.2.2.2.2.2.2.2.2.2.1.below hb18) (And.intro (H17.out.2.2.2.2.2.2.2.2.2.2.2.2.2.1.below hb18) (And.intro (H17.out.2.2.2.2.2.2.2.2.2.2.2.2.2.2.1.below hb18) (And.intro (H17.out.2.2.2.2.2.2.2.2.2.2.2.2.2.2.2.1.below hb18) (And.intro (H17.out.2.2.2.2.2.2.2.2.2.2.2.2.2.2.2.2.1.below hb18) (And.intro (H17.out.2.2.2.2.2.2.2.2.2.2.2.2.2.2.2.2.2.1.below hb18) (And.intro (H17.out.2.2.2.2.2.2.2.2.2.2.2.2.2.2.2.2.2.2.below hb18) (hs))))))))))))))))))))
        clear hs hb18
        go_simp
        refine hK.out _ _ hB18 (fun hHeld => ?_)
        clear hK K hHeld
        have hHeld := hB18
        refine wpAnyH_ready (rs := [25]) (by kernel_rfl) (by simp) ?_
        refine AllReadyH.cons rfl (fun K hK => ?_) AllReadyH.nil
        go_simp
        ((with_reducible refine (equal_any w18 p_f p_i (lessW X (andW Y Z)) (orW (lessW X Y) (lessW X Z)) H18.out.2.2.2.2.2.2.2.2.2.2.2.2.2.2.2.2.1 H18.out.2.2.2.2.2.2.2.2.2.2.2.2.2.2.2.2.2.2.2).mono ?_))
        rw [show ((lessW X (andW Y Z)) == (orW (lessW X Y) (lessW X Z))) = true from beq_iff_eq.2 (alg_two H18.out.2.2.2.2.2.1.1 H18.out.2.2.2.2.2.2.1.1 H18.out.2.2.2.2.2.2.2.1.1)]
        rintro e w19 ⟨rfl, hb19⟩
        have hB19 := hB18.trans (hb19.mono hB18.size)
        have H19 := Lib.hid (And.intro (H18.out.1.trans (hb19.mono H18.out.1.size)) (And.intro (H18.out.2.1.below hb19) (And.intro ((H18.out.2.2.1.below hb19).more hb19.size) (And.intro ((H18.out.2.2.2.1.below hb19).more hb19.size) (And.intro ((H18.out.2.2.2.2.1.below hb19).more hb19.size) (And.intro (H18.out.2.2.2.2.2.1.below hb19) (And.intro (H18.out.2.2.2.2.2.2.1.below hb19) (And.intro (H18.out.2.2.2.2.2.2.2.1.below hb19) (And.intro (Nat.lt_of_lt_of_le H18.out.2.2.2.2.2.2.2.2.1 hb19.size) (And.intro (Nat.lt_of_lt_of_le H18.out.2.2.2.2.2.2.2.2.2.1 hb19.size) (And.intro (Nat.lt_of_lt_of_le H18.out.2.2.2.2.2.2.2.2.2.2.1 hb19.size) (And.intro (H18.out.2.2.2.2.2.2.2.2.2.2.2.1.below hb19) (And.intro (H18.out.2.2.2.2.2.2.2.2.2.2.2.2.1.below hb19) (And.intro (H18.out.2.2.2.2.2.2.2.2.2.2.2.2.2.1.below hb19) (And.intro (H18.out.2.2.2.2.2.2.2.2.2.2.2.2.2.2.1.below hb19) (And.intro (H18.out.2.2.2.2.2.2.2.2.2.2.2.2.2.2.2.1.below hb19) (And.intro (H18.out.2.2.2.2.2.2.2.2.2.2.2.2.2.2.2.2.1.below hb19) (And.intro (H18.out.2.2.2.2.2.2.2.2.2.2.2.2.2.2.2.2.2.1.below hb19) (And.intro (H18.out.2.2.2.2.2.2.2.2.2.2.2.2.2.2.2.2.2.2.1.below hb19) (H18.out.2.2.2.2.2.2.2.2.2.2.2.2.2.2.2.2.2.2.2.below hb19))))))))))))))))))))
        clear hb19
        go_simp
        refine hK.out _ _ hB19 (fun hHeld => ?_)
        clear hK K hHeld
        have hHeld := hB19
        refine wpAnyH_take (i := 26) (v := .bool false) rfl (by kernel_rfl) (by kernel_rfl) (by kernel_rfl) (fun _ _ _ h => h) (Or.inl ⟨by rfl, ?_⟩) (by assumption) ?_
        · intro w hSw
          obtain ⟨s0, s1, s2⟩ := HLD.out _ hSw
          go_simp
        show wpAnyH _ _ _ _ _ _ _ (Act.put _ (some 53) _) _
        simp only [Act.put, List.setIfInBounds_toArray, List.set_cons_zero, List.set_cons_succ]
        refine wpAnyH_take (i := 27) (v := .bool false) rfl (by kernel_rfl) (by kernel_rfl) (by kernel_rfl) (fun _ _ _ h => h) (Or.inl ⟨by rfl, ?_⟩) (by assumption) ?_
        · intro w hSw
          obtain ⟨s0, s1, s2⟩ := HLD.out _ hSw
          go_simp
        show wpAnyH _ _ _ _ _ _ _ (Act.put _ (some 54) _) _
        simp only [Act.put, List.setIfInBounds_toArray, List.set_cons_zero, List.set_cons_succ]
        refine wpAnyH_take (i := 28) (v := .bool false) rfl (by kernel_rfl) (by kernel_rfl) (by kernel_rfl) (fun _ _ _ h => h) (Or.inl ⟨by rfl, ?_⟩) (by assumption) ?_
        · intro w hSw
          obtain ⟨s0, s1, s2⟩ := HLD.out _ hSw
          go_simp
        show wpAnyH _ _ _ _ _ _ _ (Act.put _ (some 55) _) _
        simp only [Act.put, List.setIfInBounds_toArray, List.set_cons_zero, List.set_cons_succ]
        refine wpAnyH_take (i := 29) (v := .agg #[.pointer pS]) rfl (by kernel_rfl) (by kernel_rfl) (by kernel_rfl) (fun _ _ _ h => h) (Or.inl ⟨by rfl, ?_⟩) (by assumption) ?_
        · intro w hSw
          obtain ⟨s0, s1, s2⟩ := HLD.out _ hSw
          go_simp
        show wpAnyH _ _ _ _ _ _ _ (Act.put _ (some 56) _) _
        simp only [Act.put, List.setIfInBounds_toArray, List.set_cons_zero, List.set_cons_succ]
        refine wpAnyH_take (i := 30) (v := .agg #[.pointer pT]) rfl (by kernel_rfl) (by kernel_rfl) (by kernel_rfl) (fun _ _ _ h => h) (Or.inl ⟨by rfl, ?_⟩) (by assumption) ?_
        · intro w hSw
          obtain ⟨s0, s1, s2⟩ := HLD.out _ hSw
          go_simp
        show wpAnyH _ _ _ _ _ _ _ (Act.put _ (some 57) _) _
        simp only [Act.put, List.setIfInBounds_toArray, List.set_cons_zero, List.set_cons_succ]
        refine wpAnyH_take (i := 31) (v := .agg #[.pointer pU]) rfl (by kernel_rfl) (by kernel_rfl) (by kernel_rfl) (fun _ _ _ h => h) (Or.inl ⟨by rfl, ?_⟩) (by assumption) ?_
        · intro w hSw
          obtain ⟨s0, s1, s2⟩ := HLD.out _ hSw
          go_simp
        show wpAnyH _ _ _ _ _ _ _ (Act.put _ (some 58) _) _
        simp only [Act.put, List.setIfInBounds_toArray, List.set_cons_zero, List.set_cons_succ]
        refine wpAnyH_take (i := 34) (v := .agg #[.pointer pS]) rfl (by kernel_rfl) (by kernel_rfl) (by kernel_rfl) (fun _ _ _ h => h) (Or.inl ⟨by rfl, ?_⟩) (by assumption) ?_
        · intro w hSw
          obtain ⟨s0, s1, s2⟩ := HLD.out _ hSw
          go_simp
        show wpAnyH _ _ _ _ _ _ _ (Act.put _ (some 61) _) _
        simp only [Act.put, List.setIfInBounds_toArray, List.set_cons_zero, List.set_cons_succ]
        refine wpAnyH_take (i := 35) (v := .agg #[.pointer pT]) rfl (by kernel_rfl) (by kernel_rfl) (by kernel_rfl) (fun _ _ _ h => h) (Or.inl ⟨by rfl, ?_⟩) (by assumption) ?_
        · intro w hSw
          obtain ⟨s0, s1, s2⟩ := HLD.out _ hSw
          go_simp
        show wpAnyH _ _ _ _ _ _ _ (Act.put _ (some 62) _) _
        simp only [Act.put, List.setIfInBounds_toArray, List.set_cons_zero, List.set_cons_succ]
        refine wpAnyH_take (i := 37) (v := .agg #[.pointer pS]) rfl (by kernel_rfl) (by kernel_rfl) (by kernel_rfl) (fun _ _ _ h => h) (Or.inl ⟨by rfl, ?_⟩) (by assumption) ?_
        · intro w hSw
          obtain ⟨s0, s1, s2⟩ := HLD.out _ hSw
          go_simp
        show wpAnyH _ _ _ _ _ _ _ (Act.put _ (some 64) _) _
        simp only [Act.put, List.setIfInBounds_toArray, List.set_cons_zero, List.set_cons_succ]
        refine wpAnyH_take (i := 38) (v := .agg #[.pointer pU]) rfl (by kernel_rfl) (by kernel_rfl) (by kernel_rfl) (fun _ _ _ h => h) (Or.inl ⟨by rfl, ?_⟩) (by assumption) ?_
        · intro w hSw
          obtain ⟨s0, s1, s2⟩ := HLD.out _ hSw
          go_simp
        show wpAnyH _ _ _ _ _ _ _ (Act.put _ (some 65) _) _
        simp only [Act.put, List.setIfInBounds_toArray, List.set_cons_zero, List.set_cons_succ]
        refine wpAnyH_ready (rs := [32]) (by kernel_rfl) (by simp) ?_
        refine AllReadyH.cons rfl (fun K hK => ?_) AllReadyH.nil
        go_simp
        ((with_reducible refine (orN_any w19 pT pU Y Z H19.out.2.2.2.2.2.2.1 H19.out.2.2.2.2.2.2.2.1).mono ?_))
        rintro e w20 ⟨p_j, rfl, hs, hb20⟩
        have hB20 := hB19.trans (hb20.mono hB19.size)
        have H20 := Lib.hid (And.intro (H19.out.1.trans (hb20.mono H19.out.1.size)) (And.intro (H19.out.2.1.below hb20) (And.intro ((H19.out.2.2.1.below hb20).more hb20.size) (And.intro ((H19.out.2.2.2.1.below hb20).more hb20.size) (And.intro ((H19.out.2.2.2.2.1.below hb20).more hb20.size) (And.intro (H19.out.2.2.2.2.2.1.below hb20) (And.intro (H19.out.2.2.2.2.2.2.1.below hb20) (And.intro (H19.out.2.2.2.2.2.2.2.1.below hb20) (And.intro (Nat.lt_of_lt_of_le H19.out.2.2.2.2.2.2.2.2.1 hb20.size) (And.intro (Nat.lt_of_lt_of_le H19.out.2.2.2.2.2.2.2.2.2.1 hb20.size) (And.intro (Nat.lt_of_lt_of_le H19.out.2.2.2.2.2.2.2.2.2.2.1 hb20.size) (And.intro (H19.out.2.2.2.2.2.2.2.2.2.2.2.1.below hb20) (And.intro (H19.out.2.2.2.2.2.2.2.2.2.2.2.2.1.below hb20) (And.intro (H19.out.2.2.2.2.2.2.2.2.2.2.2.2.2.1.below hb20) (And.intro (H19.out.2.2.2.2.2.2.2.2.2.2.2.2.2.2.1.below hb20) (And.intro (H19.out.2.2.2.2.2.2.2.2.2.2.2.2.2.2.2.1.below hb20) (And.intro (H19.out.2.2.2.2.2.2.2.2.2.2.2.2.2.2.2.2.1.below hb20) (And.intro (H19.out.2.2.2.2.2.2.2.2.2.2.2.2.2.2.2.2.2.1.below hb20) (And.intro (H19.out.2.2.2.2.2.2.2.2.2.2.2.2.2.2.2.2.2.2.1.below hb20) (And.intro (H19.out.2.2.2.2.2.2.2.2.2.2.2.2.2.2.2.2.2.2.2.below hb20) (hs)))))))))))))))))))))
        clear hs hb20
        go_simp
        refine hK.out _ _ hB20 (fun hHeld => ?_)
        clear hK K hHeld
        have hHeld := hB20
        refine wpAnyH_ready (rs := [33]) (by kernel_rfl) (by simp) ?_
        refine AllReadyH.cons rfl (fun K hK => ?_) AllReadyH.nil
        go_simp
        ((with_reducible refine (andN_any w20 pS p_j X (orW Y Z) H20.out.2.2.2.2.2.1 H20.out.2.2.2.2.2.2.2.2.2.2.2.2.2.2.2.2.2.2.2.2).mono ?_))
        rintro e w21 ⟨p_k, rfl, hs, hb21⟩
        have hB21 := hB20.trans (hb21.mono hB20.size)
        have H21 := Lib.hid (And.intro (H20.out.1.trans (hb21.mono H20.out.1.size)) (And.intro (H20.out.2.1.below hb21) (And.intro ((H20.out.2.2.1.below hb21).more hb21.size) (And.intro ((H20.out.2.2.2.1.below hb21).more hb21.size) (And.intro ((H20.out.2.2.2.2.1.below hb21).more hb21.size) (And.intro (H20.out.2.2.2.2.2.1.below hb21) (And.intro (H20.out.2.2.2.2.2.2.1.below hb21) (And.intro (H20.out.2.2.2.2.2.2.2.1.below hb21) (And.intro (Nat.lt_of_lt_of_le H20.out.2.2.2.2.2.2.2.2.1 hb21.size) (And.intro (Nat.lt_of_lt_of_le H20.out.2.2.2.2.2.2.2.2.2.1 hb21.size) (And.intro (Nat.lt_of_lt_of_le H20.out.2.2.2.2.2.2.2.2.2.2.1 hb21.size) (And.intro (H20.out.2.2.2.2.2.2.2.2.2.2.2.1.below hb21) (And.intro (H20.out.2.2.2.2.2.2.2.2.2.2.2.2.1.below hb21) (And.intro (H20.out.2.2.2.2.2.2.2.2.2.2.2.2.2.1.below hb21) (And.intro (H20.out.2.2.2.2.2.2.2.2.2.2.2.2.2.2.1.below hb21) (And.intro (H20.out.2.2.2.2.2.2.2.2.2.2.2.2.2.2.2.1.below hb21) (And.intro (H20.out.2.2.2.2.2.2.2.2.2.2.2.2.2.2.2.2.1.below hb21) (And.intro (H20.out.2.2.2.2.2.2.2.2.2.2.2.2.2.2.2.2.2.1.below hb21) (And.intro (H20.out.2.2.2.2.2.2.2.2.2.2.2.2.2.2.2.2.2.2.1.below hb21) (And.intro (H20.out.2.2.2.2.2.2.2.2.2.2.2.2.2.2.2.2.2.2.2.1.below hb21) (And.intro (H20.out.2.2.2.2.2.2.2.2.2.2.2.2.2.2.2.2.2.2.2.2.below hb21) (hs))))))))))))))))))))))
        clear hs hb21
        go_simp
        refine hK.out _ _ hB21 (fun hHeld => ?_)
        clear hK K hHeld
        have hHeld := hB21
        refine wpAnyH_ready (rs := [36]) (by kernel_rfl) (by simp) ?_
        refine AllReadyH.cons rfl (fun K hK => ?_) AllReadyH.nil
        go_simp
        ((with_reducible refine (andN_any w21 pS pT X Y H21.out.2.2.2.2.2.1 H21.out.2.2.2.2.2.2.1).mono ?_))
        rintro e w22 ⟨p_l, rfl, hs, hb22⟩
        have hB22 := hB21.trans (hb22.mono hB21.size)
        have H22 := Lib.hid (And.intro (H21.out.1.trans (hb22.mono H21.out.1.size)) (And.intro (H21.out.2.1.below hb22) (And.intro ((H21.out.2.2.1.below hb22).more hb22.size) (And.intro ((H21.out.2.2.2.1.below hb22).more hb22.size) (And.intro ((H21.out.2.2.2.2.1.below hb22).more hb22.size) (And.intro (H21.out.2.2.2.2.2.1.below hb22) (And.intro (H21.out.2.2.2.2.2.2.1.below hb22) (And.intro (H21.out.2.2.2.2.2.2.2.1.below hb22) (And.intro (Nat.lt_of_lt_of_le H21.out.2.2.2.2.2.2.2.2.1 hb22.size) (And.intro (Nat.lt_of_lt_of_le H21.out.2.2.2.2.2.2.2.2.2.1 hb22.size) (And.intro (Nat.lt_of_lt_of_le H21.out.2.2.2.2.2.2.2.2.2.2.1 hb22.size) (And.intro (H21.out.2.2.2.2.2.2.2.2.2.2.2.1.below hb22) (And.intro (H21.out.2.2.2.2.2.2.2.2.2.2.2.2.1.below hb22) (And.intro (H21.out.2.2.2.2.2.2.2.2.2.2.2.2.2.1.below hb22) (And.intro (H21.out.2.2.2.2.2.2.2.2.2.2.2.2.2.2.1.below hb22) (And.intro (H21.out.2.2.2.2.2.2.2.2.2.2.2.2.2.2.2.1.below hb22) (And.intro (H21.out.2.2.2.2.2.2.2.2.2.2.2.2.2.2.2.2.1.below hb22) (And.intro (H21.out.2.2.2.2.2.2.2.2.2.2.2.2.2.2.2.2.2.1.below hb22) (And.intro (H21.out.2.2.2.2.2.2.2.2.2.2.2.2.2.2.2.2.2.2.1.below hb22) (And.intro (H21.out.2.2.2.2.2.2.2.2.2.2.2.2.2.2.2.2.2.2.2.1.below hb22) (And.intro (H21.out.2.2.2.2.2.2.2.2.2.2.2.2.2.2.2.2.2.2.2.2.1.below hb22) (And.intro (H21.out.2.2.2.2.2.2.2.2.2.2.2.2.2.2.2.2.2.2.2.2.2.below hb22) (hs)))))))))))))))))))))))
        clear hs hb22
        go_simp
        refine hK.out _ _ hB22 (fun hHeld => ?_)
        clear hK K hHeld
        have hHeld := hB22
        refine wpAnyH_ready (rs := [39]) (by kernel_rfl) (by simp) ?_
        refine AllReadyH.cons rfl (fun K hK => ?_) AllReadyH.nil
        go_simp
        ((with_reducible refine (andN_any w22 pS pU X Z H22.out.2.2.2.2.2.1 H22.out.2.2.2.2.2.2.2.1).mono ?_))
        rintro e w23 ⟨p_m, rfl, hs, hb23⟩
        have hB23 := hB22.trans (hb23.mono hB22.size)
        have H23 := Lib.hid (And.intro (H22.out.1.trans (hb23.mono H22.out.1.size)) (And.intro (H22.out.2.1.below hb23) (And.intro ((H22.out.2.2.1.below hb23).more hb23.size) (And.intro ((H22.out.2.2.2.1.below hb23).more hb23.size) (And.intro ((H22.out.2.2.2.2.1.below hb23).more hb23.size) (And.intro (H22.out.2.2.2.2.2.1.below hb23) (And.intro (H22.out.2.2.2.2.2.2.1.below hb23) (And.intro (H22.out.2.2.2.2.2.2.2.1.below hb23) (And.intro (Nat.lt_of_lt_of_le H22.out.2.2.2.2.2.2.2.2.1 hb23.size) (And.intro (Nat.lt_of_lt_of_le H22.out.2.2.2.2.2.2.2.2.2.1 hb23.size) (And.intro (Nat.lt_of_lt_of_le H22.out.2.2.2.2.2.2.2.2.2.2.1 hb23.size) (And.intro (H22.out.2.2.2.2.2.2.2.2.2.2.2.1.below hb23) (And.intro (H22.out.2.2.2.2.2.2.2.2.2.2.2.2.1.below hb23) (And.intro (H22.out.2.2.2.2.2.2.2.2.2.2.2.2.2.1.below hb23) (And.intro (H22.out.2.2.2.2.2.2.2.2.2.2.2.2.2.2.1.below hb23) (And.intro (H22.out.2.2.2.2.2.2.2.2.2.2.2.2.2.2.2.1.below hb23) (And.intro (H22.out.2.2.2.2.2.2.2.2.2.2.2.2.2.2.2.2.1.below hb23) (And.intro (H22.out.2.2.2.2.2.2.2.2.2.2.2.2.2.2.2.2.2.1.below hb23) (And.intro (H22.out.2.2.2.2.2.2.2.2.2.2.2.2.2.2.2.2.2.2.1.below hb23) (And.intro (H22.out.2.2.2.2.2.2.2.2.2.2.2.2.2.2.2.2.2.2.2.1.below hb23) (And.intro (H22.out.2.2.2.2.2.2.2.2.2.2.2.2.2.2.2.2.2.2.2.2.1.below hb23) (And.intro (H22.out.2.2.2.2.2.2.2.2.2.2.2.2.2.2.2.2.2.2.2.2.2.1.below hb23) (And.intro (H22.out.2.2.2.2.2.2.2.2.2.2.2.2.2.2.2.2.2.2.2.2.2.2.below hb23) (hs))))))))))))))))))))))))
        clear hs hb23
        go_simp
        refine hK.out _ _ hB23 (fun hHeld => ?_)
        clear hK K hHeld
        have hHeld := hB23
        refine wpAnyH_ready (rs := [40]) (by kernel_rfl) (by simp) ?_
        refine AllReadyH.cons rfl (fun K hK => ?_) AllReadyH.nil
        go_simp
        ((with_reducible refine (orN_any w23 p_l p_m (andW X Y) (andW X Z) H23.out.2.2.2.2.2.2.2.2.2.2.2.2.2.2.2.2.2.2.2.2.2.2.1 H23.out.2.2.2.2.2.2.2.2.2.2.2.2.2.2.2.2.2.2.2.2.2.2.2).mono ?_))
        rintro e w24 ⟨p_n, rfl, hs, hb24⟩
        have hB24 := hB23.trans (hb24.mono hB23.size)
        have H24 := Lib.hid (And.intro (H23.out.1.trans (hb24.mono H23.out.1.size)) (And.intro (H23.out.2.1.below hb24) (And.intro ((H23.out.2.2.1.below hb24).more hb24.size) (And.intro ((H23.out.2.2.2.1.below hb24).more hb24.size) (And.intro ((H23.out.2.2.2.2.1.below hb24).more hb24.size) (And.intro (H23.out.2.2.2.2.2.1.below hb24) (And.intro (H23.out.2.2.2.2.2.2.1.below hb24) (And.intro (H23.out.2.2.2.2.2.2.2.1.below hb24) (And.intro (Nat.lt_of_lt_of_le H23.out.2.2.2.2.2.2.2.2.1 hb24.size) (And.intro (Nat.lt_of_lt_of_le H23.out.2.2.2.2.2.2.2.2.2.1 hb24.size) (And.intro (Nat.lt_of_lt_of_le H23.out.2.2.2.2.2.2.2.2.2.2.1 hb24.size) (And.intro (H23.out.2.2.2.2.2.2.2.2.2.2.2.1.below hb24) (And.intro (H23.out.2.2.2.2.2.2.2.2.2.2.2.2.1.below hb24) (And.intro (H23.out.2.2.2.2.2.2.2.2.2.2.2.2.2.1.below hb24) (And.intro (H23.out.2.2.2.2.2.2.2.2.2.2.2.2.2.2.1.below hb24) (And.intro (H23.out.2.2.2.2.2.2.2.2.2.2.2.2.2.2.2.1.below hb24) (And.intro (H23.out.2.2.2.2.2.2.2.2.2.2.2.2.2.2.2.2.1.below hb24) (And.intro (H23.out.2.2.2.2.2.2.2.2.2.2.2.2.2.2.2.2.2.1.below hb24) (And.intro (H23.out.2.2.2.2.2.2.2.2.2.2.2.2.2.2.2.2.2.2.1.below hb24) (And.intro (H23.out.2.2.2.2.2.2.2.2.2.2.2.2.2.2.2.2.2.2.2.1.below hb24) (And.intro (H23.out.2.2.2.2.2.2.2.2.2.2.2.2.2.2.2.2.2.2.2.2.1.below hb24) (And.intro (H23.out.2.2.2.2.2.2.2.2.2.2.2.2.2.2.2.2.2.2.2.2.2.1.below hb24) (And.intro (H23.out.2.2.2.2.2.2.2.2.2.2.2.2.2.2.2.2.2.2.2.2.2.2.1.below hb24) (And.intro (H23.out.2.2.2.2.2.2.2.2.2.2.2.2.2.2.2.2.2.2.2.2.2.2.2.below hb24) (hs)))))))))))))))))))))))))
        clear hs hb24
        go_simp
        refine hK.out _ _ hB24 (fun hHeld => ?_)
        clear hK K hHeld
        have hHeld := hB24
        refine wpAnyH_ready (rs := [41]) (by kernel_rfl) (by simp) ?_
        refine AllReadyH.cons rfl (fun K hK => ?_) AllReadyH.nil
        go_simp
        ((with_reducible refine (equal_any w24 p_k p_n (andW X (orW Y Z)) (orW (andW X Y) (andW X Z)) H24.out.2.2.2.2.2.2.2.2.2.2.2.2.2.2.2.2.2.2.2.2.2.1 H24.out.2.2.2.2.2.2.2.2.2.2.2.2.2.2.2.2.2.2.2.2.2.2.2.2).mono ?_))
        rw [show ((andW X (orW Y Z)) == (orW (andW X Y) (andW X Z))) = true from beq_iff_eq.2 (alg_three H24.out.2.2.2.2.2.1.1 H24.out.2.2.2.2.2.2.1.1 H24.out.2.2.2.2.2.2.2.1.1)]
        rintro e w25 ⟨rfl, hb25⟩
        have hB25 := hB24.trans (hb25.mono hB24.size)
        have H25 := Lib.hid (And.intro (H24.out.1.trans (hb25.mono H24.out.1.size)) (And.intro (H24.out.2.1.below hb25) (And.intro ((H24.out.2.2.1.below hb25).more hb25.size) (And.intro ((H24.out.2.2.2.1.below hb25).more hb25.size) (And.intro ((H24.out.2.2.2.2.1.below hb25).more hb25.size) (And.intro (H24.out.2.2.2.2.2.1.below hb25) (And.intro (H24.out.2.2.2.2.2.2.1.below hb25) (And.intro (H24.out.2.2.2.2.2.2.2.1.below hb25) (And.intro (Nat.lt_of_lt_of_le H24.out.2.2.2.2.2.2.2.2.1 hb25.size) (And.intro (Nat.lt_of_lt_of_le H24.out.2.2.2.2.2.2.2.2.2.1 hb25.size) (And.intro (Nat.lt_of_lt_of_le H24.out.2.2.2.2.2.2.2.2.2.2.1 hb25.size) (And.intro (H24.out.2.2.2.2.2.2.2.2.2.2.2.1.below hb25) (And.intro (H24.out.2.2.2.2.2.2.2.2.2.2.2.2.1.below hb25) (And.intro (H24.out.2.2.2.2.2.2.2.2.2.2.2.2.2.1.below hb25) (And.intro (H24.out.2.2.2.2.2.2.2.2.2.2.2.2.2.2.1.below hb25) (And.intro (H24.out.2.2.2.2.2.2.2.2.2.2.2.2.2.2.2.1.below hb25) (And.intro (H24.out.2.2.2.2.2.2.2.2.2.2.2.2.2.2.2.2.1.below hb25) (And.intro (H24.out.2.2.2.2.2.2.2.2.2.2.2.2.2.2.2.2.2.1.below hb25) (And.intro (H24.out.2.2.2.2.2.2.2.2.2.2.2.2.2.2.2.2.2.2.1.below hb25) (And.intro (H24.out.2.2.2.2.2.2.2.2.2.2.2.2.2.2.2.2.2.2.2.1.below hb25) (And.intro (H24.out.2.2.2.2.2.2.2.2.2.2.2.2.2.2.2.2.2.2.2.2.1.below hb25) (And.intro (H24.out.2.2.2.2.2.2.2.2.2.2.2.2.2.2.2.2.2.2.2.2.2.1.below hb25) (And.intro (H24.out.2.2.2.2.2.2.2.2.2.2.2.2.2.2.2.2.2.2.2.2.2.2.1.below hb25) (And.intro (H24.out.2.2.2.2.2.2.2.2.2.2.2.2.2.2.2.2.2.2.2.2.2.2.2.1.below hb25) (H24.out.2.2.2.2.2.2.2.2.2.2.2.2.2.2.2.2.2.2.2.2.2.2.2.2.below hb25)))))))))))))))))))))))))
        clear hb25
        go_simp
        refine hK.out _ _ hB25 (fun hHeld => ?_)
        clear hK K hHeld
        have hHeld := hB25
        refine wpAnyH_take (i := 42) (v := .bool false) rfl (by kernel_rfl) (by kernel_rfl) (by kernel_rfl) (fun _ _ _ h => h) (Or.inl ⟨by rfl, ?_⟩) (by assumption) ?_
        · intro w hSw
          obtain ⟨s0, s1, s2⟩ := HLD.out _ hSw
          go_simp
        show wpAnyH _ _ _ _ _ _ _ (Act.put _ (some 69) _) _
        simp only [Act.put, List.setIfInBounds_toArray, List.set_cons_zero, List.set_cons_succ]
        refine wpAnyH_take (i := 43) (v := .bool false) rfl (by kernel_rfl) (by kernel_rfl) (by kernel_rfl) (fun _ _ _ h => h) (Or.inl ⟨by rfl, ?_⟩) (by assumption) ?_
        · intro w hSw
          obtain ⟨s0, s1, s2⟩ := HLD.out _ hSw
          go_simp
        show wpAnyH _ _ _ _ _ _ _ (Act.put _ (some 70) _) _
        simp only [Act.put, List.setIfInBounds_toArray, List.set_cons_zero, List.set_cons_succ]
        refine wpAnyH_done (by kernel_rfl) ?_ _
        have hcS_3 := (HLD.out _ hB25).1
        have hcT_2 := (HLD.out _ hB25).2.1
        have hcU_1 := (HLD.out _ hB25).2.2
        clear HLD hHeld hcS_2 hcT_1 hcU_0
        go_wp2_with fail
        have H26 := Lib.hid (And.intro (H25.out.1) (And.intro (H25.out.2.1) (And.intro (H25.out.2.2.2.2.2.1) (And.intro (H25.out.2.2.2.2.2.2.1) (And.intro (H25.out.2.2.2.2.2.2.2.1) (And.intro (H25.out.2.2.2.2.2.2.2.2.1) (And.intro (H25.out.2.2.2.2.2.2.2.2.2.1) (H25.out.2.2.2.2.2.2.2.2.2.2.1))))))))
        obtain ⟨pa, hpa⟩ : ∃ a, a = popW X := ⟨_, rfl⟩
        obtain ⟨pb, hpb⟩ : ∃ b, b = popW (lessW Y X) := ⟨_, rfl⟩
        have hpal : pa ≤ 4096 := by rw [hpa]; exact nodes_leN H26.out.2.2.1.1
        have hpbl : pb ≤ 4096 := by rw [hpb]; exact nodes_leN (wds_less H26.out.2.2.2.1.1 H26.out.2.2.1.1)
        have HF := Lib.hid (show popW (orW X Y) = pa + pb from by rw [hpa, hpb]; exact alg_five H26.out.2.2.1.1 H26.out.2.2.2.1.1)
        have HPA := Lib.hid hpa
        have HPB := Lib.hid hpb
        clear hpa hpb
        have HWR : IntKind.i64.wrap ((pa : Int) + (pb : Int)) = (pa : Int) + (pb : Int) := IntWalk.i64_in _ (by omega)
        obtain ⟨wo, hwo⟩ : ∃ x, x = w25 := ⟨_, rfl⟩
        have HLD := Lib.hid (show ∀ V, Below wo.heap.size wo V → V.cell? ⟨w4.heap.size, 0, none⟩ = some (.pointer pS) ∧ V.cell? ⟨w5.heap.size, 0, none⟩ = some (.pointer pT) ∧ V.cell? ⟨w6.heap.size, 0, none⟩ = some (.pointer pU) from fun V hV => ⟨(hV.cell (p := ⟨w4.heap.size, 0, none⟩) (by rw [hwo]; exact H26.out.2.2.2.2.2.1)).trans (by rw [hwo]; exact hcS_3), (hV.cell (p := ⟨w5.heap.size, 0, none⟩) (by rw [hwo]; exact H26.out.2.2.2.2.2.2.1)).trans (by rw [hwo]; exact hcT_2), (hV.cell (p := ⟨w6.heap.size, 0, none⟩) (by rw [hwo]; exact H26.out.2.2.2.2.2.2.2)).trans (by rw [hwo]; exact hcU_1)⟩)
        rw [← hwo]
        obtain ⟨wd, hwd⟩ : ∃ wd, wd = wo.drew := ⟨_, rfl⟩
        have hBd : Below wo.heap.size wo wd := by rw [hwd]; exact below_drewN (Below.refl _ _) 1
        refine wp_region_held_drew (S := fun X => Below wo.heap.size wo X) (by kernel_rfl) (by rw [← hwd]; exact hBd) (fun hHeld => ?_)
        rw [← hwd]
        clear hwd hHeld
        have hHeld := hBd
        rw [hwo] at hBd
        have H27 := Lib.hid (And.intro (H26.out.1.trans (hBd.mono H26.out.1.size)) (And.intro (H26.out.2.1.below hBd) (And.intro (H26.out.2.2.1.below hBd) (And.intro (H26.out.2.2.2.1.below hBd) (And.intro (H26.out.2.2.2.2.1.below hBd) (And.intro (Nat.lt_of_lt_of_le H26.out.2.2.2.2.2.1 hBd.size) (And.intro (Nat.lt_of_lt_of_le H26.out.2.2.2.2.2.2.1 hBd.size) (Nat.lt_of_lt_of_le H26.out.2.2.2.2.2.2.2 hBd.size))))))))
        rw [← hwo] at hBd
        refine wpAnyH_take (i := 0) (v := .agg #[.pointer pS]) rfl (by kernel_rfl) (by kernel_rfl) (by kernel_rfl) (fun _ _ _ h => h) (Or.inl ⟨by rfl, ?_⟩) (by assumption) ?_
        · intro w hSw
          obtain ⟨s0, s1, s2⟩ := HLD.out _ hSw
          go_simp
        show wpAnyH _ _ _ _ _ _ _ (Act.put _ (some 71) _) _
        simp only [Act.put, List.setIfInBounds_toArray, List.set_cons_zero, List.set_cons_succ]
        refine wpAnyH_take (i := 1) (v := .agg #[.pointer pT]) rfl (by kernel_rfl) (by kernel_rfl) (by kernel_rfl) (fun _ _ _ h => h) (Or.inl ⟨by rfl, ?_⟩) (by assumption) ?_
        · intro w hSw
          obtain ⟨s0, s1, s2⟩ := HLD.out _ hSw
          go_simp
        show wpAnyH _ _ _ _ _ _ _ (Act.put _ (some 72) _) _
        simp only [Act.put, List.setIfInBounds_toArray, List.set_cons_zero, List.set_cons_succ]
        refine wpAnyH_take (i := 3) (v := .agg #[.pointer pS]) rfl (by kernel_rfl) (by kernel_rfl) (by kernel_rfl) (fun _ _ _ h => h) (Or.inl ⟨by rfl, ?_⟩) (by assumption) ?_
        · intro w hSw
          obtain ⟨s0, s1, s2⟩ := HLD.out _ hSw
          go_simp
        show wpAnyH _ _ _ _ _ _ _ (Act.put _ (some 74) _) _
        simp only [Act.put, List.setIfInBounds_toArray, List.set_cons_zero, List.set_cons_succ]
        refine wpAnyH_ready (rs := [2]) (by kernel_rfl) (by simp) ?_
        refine AllReadyH.cons rfl (fun K hK => ?_) AllReadyH.nil
        go_simp
        ((with_reducible refine (andN_any wd pS pT X Y H27.out.2.2.1 H27.out.2.2.2.1).mono ?_))
        rintro e w28 ⟨p_q, rfl, hs, hb28⟩
        have hB28 := hBd.trans (hb28.mono hBd.size)
        have H28 := Lib.hid (And.intro (H27.out.1.trans (hb28.mono H27.out.1.size)) (And.intro (H27.out.2.1.below hb28) (And.intro (H27.out.2.2.1.below hb28) (And.intro (H27.out.2.2.2.1.below hb28) (And.intro (H27.out.2.2.2.2.1.below hb28) (And.intro (Nat.lt_of_lt_of_le H27.out.2.2.2.2.2.1 hb28.size) (And.intro (Nat.lt_of_lt_of_le H27.out.2.2.2.2.2.2.1 hb28.size) (And.intro (Nat.lt_of_lt_of_le H27.out.2.2.2.2.2.2.2 hb28.size) (hs)))))))))
        clear hs hb28
        go_simp
        refine hK.out _ _ hB28 (fun hHeld => ?_)
        clear hK K hHeld
        have hHeld := hB28
        refine wpAnyH_ready (rs := [4]) (by kernel_rfl) (by simp) ?_
        refine AllReadyH.cons rfl (fun K hK => ?_) AllReadyH.nil
        go_simp
        ((with_reducible refine (lessN_any w28 p_q pS (andW X Y) X H28.out.2.2.2.2.2.2.2.2 H28.out.2.2.1).mono ?_))
        rintro e w29 ⟨p_r2, rfl, hs, hb29⟩
        have hB29 := hB28.trans (hb29.mono hB28.size)
        have H29 := Lib.hid (And.intro (H28.out.1.trans (hb29.mono H28.out.1.size)) (And.intro (H28.out.2.1.below hb29) (And.intro (H28.out.2.2.1.below hb29) (And.intro (H28.out.2.2.2.1.below hb29) (And.intro (H28.out.2.2.2.2.1.below hb29) (And.intro (Nat.lt_of_lt_of_le H28.out.2.2.2.2.2.1 hb29.size) (And.intro (Nat.lt_of_lt_of_le H28.out.2.2.2.2.2.2.1 hb29.size) (And.intro (Nat.lt_of_lt_of_le H28.out.2.2.2.2.2.2.2.1 hb29.size) (And.intro (H28.out.2.2.2.2.2.2.2.2.below hb29) (hs))))))))))
        clear hs hb29
        go_simp
        refine hK.out _ _ hB29 (fun hHeld => ?_)
        clear hK K hHeld
        have hHeld := hB29
        refine wpAnyH_ready (rs := [5]) (by kernel_rfl) (by simp) ?_
        refine AllReadyH.cons rfl (fun K hK => ?_) AllReadyH.nil
        go_simp
        ((with_reducible refine (len_any w29 p_r2 (lessW (andW X Y) X) H29.out.2.2.2.2.2.2.2.2.2).mono ?_))
        rw [alg_four H29.out.2.2.1.1 H29.out.2.2.2.1.1]
        rintro e w30 ⟨rfl, hb30⟩
        have hB30 := hB29.trans (hb30.mono hB29.size)
        have H30 := Lib.hid (And.intro (H29.out.1.trans (hb30.mono H29.out.1.size)) (And.intro (H29.out.2.1.below hb30) (And.intro (H29.out.2.2.1.below hb30) (And.intro (H29.out.2.2.2.1.below hb30) (And.intro (H29.out.2.2.2.2.1.below hb30) (And.intro (Nat.lt_of_lt_of_le H29.out.2.2.2.2.2.1 hb30.size) (And.intro (Nat.lt_of_lt_of_le H29.out.2.2.2.2.2.2.1 hb30.size) (And.intro (Nat.lt_of_lt_of_le H29.out.2.2.2.2.2.2.2.1 hb30.size) (And.intro (H29.out.2.2.2.2.2.2.2.2.1.below hb30) (H29.out.2.2.2.2.2.2.2.2.2.below hb30))))))))))
        clear hb30
        go_simp
        refine hK.out _ _ hB30 (fun hHeld => ?_)
        clear hK K hHeld
        have hHeld := hB30
        refine wpAnyH_take (i := 6) (v := .bool true) rfl (by kernel_rfl) (by kernel_rfl) (by kernel_rfl) (fun _ _ _ h => h) (Or.inl ⟨by rfl, ?_⟩) (by assumption) ?_
        · intro w hSw
          obtain ⟨s0, s1, s2⟩ := HLD.out _ hSw
          go_simp
        show wpAnyH _ _ _ _ _ _ _ (Act.put _ (some 77) _) _
        simp only [Act.put, List.setIfInBounds_toArray, List.set_cons_zero, List.set_cons_succ]
        refine wpAnyH_take (i := 7) (v := .bool true) rfl (by kernel_rfl) (by kernel_rfl) (by kernel_rfl) (fun _ _ _ h => h) (Or.inl ⟨by rfl, ?_⟩) (by assumption) ?_
        · intro w hSw
          obtain ⟨s0, s1, s2⟩ := HLD.out _ hSw
          go_simp
        show wpAnyH _ _ _ _ _ _ _ (Act.put _ (some 78) _) _
        simp only [Act.put, List.setIfInBounds_toArray, List.set_cons_zero, List.set_cons_succ]
        refine wpAnyH_take (i := 8) (v := .agg #[.pointer pS]) rfl (by kernel_rfl) (by kernel_rfl) (by kernel_rfl) (fun _ _ _ h => h) (Or.inl ⟨by rfl, ?_⟩) (by assumption) ?_
        · intro w hSw
          obtain ⟨s0, s1, s2⟩ := HLD.out _ hSw
          go_simp
        show wpAnyH _ _ _ _ _ _ _ (Act.put _ (some 79) _) _
        simp only [Act.put, List.setIfInBounds_toArray, List.set_cons_zero, List.set_cons_succ]
        refine wpAnyH_take (i := 9) (v := .agg #[.pointer pT]) rfl (by kernel_rfl) (by kernel_rfl) (by kernel_rfl) (fun _ _ _ h => h) (Or.inl ⟨by rfl, ?_⟩) (by assumption) ?_
        · intro w hSw
          obtain ⟨s0, s1, s2⟩ := HLD.out _ hSw
          go_simp
        show wpAnyH _ _ _ _ _ _ _ (Act.put _ (some 80) _) _
        simp only [Act.put, List.setIfInBounds_toArray, List.set_cons_zero, List.set_cons_succ]
        refine wpAnyH_take (i := 12) (v := .agg #[.pointer pS]) rfl (by kernel_rfl) (by kernel_rfl) (by kernel_rfl) (fun _ _ _ h => h) (Or.inl ⟨by rfl, ?_⟩) (by assumption) ?_
        · intro w hSw
          obtain ⟨s0, s1, s2⟩ := HLD.out _ hSw
          go_simp
        show wpAnyH _ _ _ _ _ _ _ (Act.put _ (some 83) _) _
        simp only [Act.put, List.setIfInBounds_toArray, List.set_cons_zero, List.set_cons_succ]
        refine wpAnyH_take (i := 14) (v := .agg #[.pointer pT]) rfl (by kernel_rfl) (by kernel_rfl) (by kernel_rfl) (fun _ _ _ h => h) (Or.inl ⟨by rfl, ?_⟩) (by assumption) ?_
        · intro w hSw
          obtain ⟨s0, s1, s2⟩ := HLD.out _ hSw
          go_simp
        show wpAnyH _ _ _ _ _ _ _ (Act.put _ (some 85) _) _
        simp only [Act.put, List.setIfInBounds_toArray, List.set_cons_zero, List.set_cons_succ]
        refine wpAnyH_take (i := 15) (v := .agg #[.pointer pS]) rfl (by kernel_rfl) (by kernel_rfl) (by kernel_rfl) (fun _ _ _ h => h) (Or.inl ⟨by rfl, ?_⟩) (by assumption) ?_
        · intro w hSw
          obtain ⟨s0, s1, s2⟩ := HLD.out _ hSw
          go_simp
        show wpAnyH _ _ _ _ _ _ _ (Act.put _ (some 86) _) _
        simp only [Act.put, List.setIfInBounds_toArray, List.set_cons_zero, List.set_cons_succ]
        refine wpAnyH_ready (rs := [10]) (by kernel_rfl) (by simp) ?_
        refine AllReadyH.cons rfl (fun K hK => ?_) AllReadyH.nil
        go_simp
        ((with_reducible refine (orN_any w30 pS pT X Y H30.out.2.2.1 H30.out.2.2.2.1).mono ?_))
        rintro e w31 ⟨p_s2, rfl, hs, hb31⟩
        have hB31 := hB30.trans (hb31.mono hB30.size)
        have H31 := Lib.hid (And.intro (H30.out.1.trans (hb31.mono H30.out.1.size)) (And.intro (H30.out.2.1.below hb31) (And.intro (H30.out.2.2.1.below hb31) (And.intro (H30.out.2.2.2.1.below hb31) (And.intro (H30.out.2.2.2.2.1.below hb31) (And.intro (Nat.lt_of_lt_of_le H30.out.2.2.2.2.2.1 hb31.size) (And.intro (Nat.lt_of_lt_of_le H30.out.2.2.2.2.2.2.1 hb31.size) (And.intro (Nat.lt_of_lt_of_le H30.out.2.2.2.2.2.2.2.1 hb31.size) (And.intro (H30.out.2.2.2.2.2.2.2.2.1.below hb31) (And.intro (H30.out.2.2.2.2.2.2.2.2.2.below hb31) (hs)))))))))))
        clear hs hb31
        go_simp
        refine hK.out _ _ hB31 (fun hHeld => ?_)
        clear hK K hHeld
        have hHeld := hB31
        refine wpAnyH_ready (rs := [11]) (by kernel_rfl) (by simp) ?_
        refine AllReadyH.cons rfl (fun K hK => ?_) AllReadyH.nil
        go_simp
        ((with_reducible refine (len_any w31 p_s2 (orW X Y) H31.out.2.2.2.2.2.2.2.2.2.2).mono ?_))
        rw [HF.out, Int.natCast_add]
        rintro e w32 ⟨rfl, hb32⟩
        have hB32 := hB31.trans (hb32.mono hB31.size)
        have H32 := Lib.hid (And.intro (H31.out.1.trans (hb32.mono H31.out.1.size)) (And.intro (H31.out.2.1.below hb32) (And.intro (H31.out.2.2.1.below hb32) (And.intro (H31.out.2.2.2.1.below hb32) (And.intro (H31.out.2.2.2.2.1.below hb32) (And.intro (Nat.lt_of_lt_of_le H31.out.2.2.2.2.2.1 hb32.size) (And.intro (Nat.lt_of_lt_of_le H31.out.2.2.2.2.2.2.1 hb32.size) (And.intro (Nat.lt_of_lt_of_le H31.out.2.2.2.2.2.2.2.1 hb32.size) (And.intro (H31.out.2.2.2.2.2.2.2.2.1.below hb32) (And.intro (H31.out.2.2.2.2.2.2.2.2.2.1.below hb32) (H31.out.2.2.2.2.2.2.2.2.2.2.below hb32)))))))))))
        clear hb32
        go_simp
        refine hK.out _ _ hB32 (fun hHeld => ?_)
        clear hK K hHeld
        have hHeld := hB32
        refine wpAnyH_ready (rs := [13]) (by kernel_rfl) (by simp) ?_
        refine AllReadyH.cons rfl (fun K hK => ?_) AllReadyH.nil
        go_simp
        ((with_reducible refine (len_any w32 pS X H32.out.2.2.1).mono ?_))
        rw [← HPA.out]
        rintro e w33 ⟨rfl, hb33⟩
        have hB33 := hB32.trans (hb33.mono hB32.size)
        have H33 := Lib.hid (And.intro (H32.out.1.trans (hb33.mono H32.out.1.size)) (And.intro (H32.out.2.1.below hb33) (And.intro (H32.out.2.2.1.below hb33) (And.intro (H32.out.2.2.2.1.below hb33) (And.intro (H32.out.2.2.2.2.1.below hb33) (And.intro (Nat.lt_of_lt_of_le H32.out.2.2.2.2.2.1 hb33.size) (And.intro (Nat.lt_of_lt_of_le H32.out.2.2.2.2.2.2.1 hb33.size) (And.intro (Nat.lt_of_lt_of_le H32.out.2.2.2.2.2.2.2.1 hb33.size) (And.intro (H32.out.2.2.2.2.2.2.2.2.1.below hb33) (And.intro (H32.out.2.2.2.2.2.2.2.2.2.1.below hb33) (H32.out.2.2.2.2.2.2.2.2.2.2.below hb33)))))))))))
        clear hb33
        go_simp
        refine hK.out _ _ hB33 (fun hHeld => ?_)
        clear hK K hHeld
        have hHeld := hB33
        refine wpAnyH_ready (rs := [16]) (by kernel_rfl) (by simp) ?_
        refine AllReadyH.cons rfl (fun K hK => ?_) AllReadyH.nil
        go_simp
        ((with_reducible refine (lessN_any w33 pT pS Y X H33.out.2.2.2.1 H33.out.2.2.1).mono ?_))
        rintro e w34 ⟨p_t2, rfl, hs, hb34⟩
        have hB34 := hB33.trans (hb34.mono hB33.size)
        have H34 := Lib.hid (And.intro (H33.out.1.trans (hb34.mono H33.out.1.size)) (And.intro (H33.out.2.1.below hb34) (And.intro (H33.out.2.2.1.below hb34) (And.intro (H33.out.2.2.2.1.below hb34) (And.intro (H33.out.2.2.2.2.1.below hb34) (And.intro (Nat.lt_of_lt_of_le H33.out.2.2.2.2.2.1 hb34.size) (And.intro (Nat.lt_of_lt_of_le H33.out.2.2.2.2.2.2.1 hb34.size) (And.intro (Nat.lt_of_lt_of_le H33.out.2.2.2.2.2.2.2.1 hb34.size) (And.intro (H33.out.2.2.2.2.2.2.2.2.1.below hb34) (And.intro (H33.out.2.2.2.2.2.2.2.2.2.1.below hb34) (And.intro (H33.out.2.2.2.2.2.2.2.2.2.2.below hb34) (hs))))))))))))
        clear hs hb34
        go_simp
        refine hK.out _ _ hB34 (fun hHeld => ?_)
        clear hK K hHeld
        have hHeld := hB34
        refine wpAnyH_ready (rs := [17]) (by kernel_rfl) (by simp) ?_
        refine AllReadyH.cons rfl (fun K hK => ?_) AllReadyH.nil
        go_simp
        ((with_reducible refine (len_any w34 p_t2 (lessW Y X) H34.out.2.2.2.2.2.2.2.2.2.2.2).mono ?_))
        rw [← HPB.out]
        rintro e w35 ⟨rfl, hb35⟩
        have hB35 := hB34.trans (hb35.mono hB34.size)
        have H35 := Lib.hid (And.intro (H34.out.1.trans (hb35.mono H34.out.1.size)) (And.intro (H34.out.2.1.below hb35) (And.intro (H34.out.2.2.1.below hb35) (And.intro (H34.out.2.2.2.1.below hb35) (And.intro (H34.out.2.2.2.2.1.below hb35) (And.intro (Nat.lt_of_lt_of_le H34.out.2.2.2.2.2.1 hb35.size) (And.intro (Nat.lt_of_lt_of_le H34.out.2.2.2.2.2.2.1 hb35.size) (And.intro (Nat.lt_of_lt_of_le H34.out.2.2.2.2.2.2.2.1 hb35.size) (And.intro (H34.out.2.2.2.2.2.2.2.2.1.below hb35) (And.intro (H34.out.2.2.2.2.2.2.2.2.2.1.below hb35) (And.intro (H34.out.2.2.2.2.2.2.2.2.2.2.1.below hb35) (H34.out.2.2.2.2.2.2.2.2.2.2.2.below hb35))))))))))))
        clear hb35
        go_simp
        refine hK.out _ _ hB35 (fun hHeld => ?_)
        clear hK K hHeld
        have hHeld := hB35
        refine wpAnyH_take (i := 18) (v := .int .i64 ((pa : Int) + (pb : Int))) rfl (by kernel_rfl) (by kernel_rfl) (by kernel_rfl) (fun _ _ _ h => h) (Or.inl ⟨by rfl, ?_⟩) (by assumption) ?_
        · intro w hSw
          obtain ⟨s0, s1, s2⟩ := HLD.out _ hSw
          go_simp
        show wpAnyH _ _ _ _ _ _ _ (Act.put _ (some 89) _) _
        simp only [Act.put, List.setIfInBounds_toArray, List.set_cons_zero, List.set_cons_succ]
        refine wpAnyH_take (i := 19) (v := .bool true) rfl (by kernel_rfl) (by kernel_rfl) (by kernel_rfl) (fun _ _ _ h => h) (Or.inl ⟨by rfl, ?_⟩) (by assumption) ?_
        · intro w hSw
          obtain ⟨s0, s1, s2⟩ := HLD.out _ hSw
          go_simp
        show wpAnyH _ _ _ _ _ _ _ (Act.put _ (some 90) _) _
        simp only [Act.put, List.setIfInBounds_toArray, List.set_cons_zero, List.set_cons_succ]
        refine wpAnyH_take (i := 20) (v := .bool true) rfl (by kernel_rfl) (by kernel_rfl) (by kernel_rfl) (fun _ _ _ h => h) (Or.inl ⟨by rfl, ?_⟩) (by assumption) ?_
        · intro w hSw
          obtain ⟨s0, s1, s2⟩ := HLD.out _ hSw
          go_simp
        show wpAnyH _ _ _ _ _ _ _ (Act.put _ (some 91) _) _
        simp only [Act.put, List.setIfInBounds_toArray, List.set_cons_zero, List.set_cons_succ]
        refine wpAnyH_take (i := 21) (v := .bool true) rfl (by kernel_rfl) (by kernel_rfl) (by kernel_rfl) (fun _ _ _ h => h) (Or.inl ⟨by rfl, ?_⟩) (by assumption) ?_
        · intro w hSw
          obtain ⟨s0, s1, s2⟩ := HLD.out _ hSw
          go_simp
        show wpAnyH _ _ _ _ _ _ _ (Act.put _ (some 92) _) _
        simp only [Act.put, List.setIfInBounds_toArray, List.set_cons_zero, List.set_cons_succ]
        refine wpAnyH_ready (rs := [22]) (by kernel_rfl) (by simp) ?_
        refine AllReadyH.cons rfl (fun K hK => ?_) AllReadyH.nil
        go_simp
        ((with_reducible refine (awake_any w35 H35.out.2.1).mono ?_))
        rintro e w36 ⟨rfl, hb36⟩
        have hB36 := hB35.trans (hb36.mono hB35.size)
        have H36 := Lib.hid (And.intro (H35.out.1.trans (hb36.mono H35.out.1.size)) (And.intro (H35.out.2.1.below hb36) (And.intro (H35.out.2.2.1.below hb36) (And.intro (H35.out.2.2.2.1.below hb36) (And.intro (H35.out.2.2.2.2.1.below hb36) (And.intro (Nat.lt_of_lt_of_le H35.out.2.2.2.2.2.1 hb36.size) (And.intro (Nat.lt_of_lt_of_le H35.out.2.2.2.2.2.2.1 hb36.size) (And.intro (Nat.lt_of_lt_of_le H35.out.2.2.2.2.2.2.2.1 hb36.size) (And.intro (H35.out.2.2.2.2.2.2.2.2.1.below hb36) (And.intro (H35.out.2.2.2.2.2.2.2.2.2.1.below hb36) (And.intro (H35.out.2.2.2.2.2.2.2.2.2.2.1.below hb36) (H35.out.2.2.2.2.2.2.2.2.2.2.2.below hb36))))))))))))
        clear hb36
        go_simp
        refine hK.out _ _ hB36 (fun hHeld => ?_)
        clear hK K hHeld
        have hHeld := hB36
        refine wpAnyH_take (i := 23) (v := .bool true) rfl (by kernel_rfl) (by kernel_rfl) (by kernel_rfl) (fun _ _ _ h => h) (Or.inl ⟨by rfl, ?_⟩) (by assumption) ?_
        · intro w hSw
          obtain ⟨s0, s1, s2⟩ := HLD.out _ hSw
          go_simp
        show wpAnyH _ _ _ _ _ _ _ (Act.put _ (some 94) _) _
        simp only [Act.put, List.setIfInBounds_toArray, List.set_cons_zero, List.set_cons_succ]
        refine wpAnyH_take (i := 24) (v := .bool true) rfl (by kernel_rfl) (by kernel_rfl) (by kernel_rfl) (fun _ _ _ h => h) (Or.inl ⟨by rfl, ?_⟩) (by assumption) ?_
        · intro w hSw
          obtain ⟨s0, s1, s2⟩ := HLD.out _ hSw
          go_simp
        show wpAnyH _ _ _ _ _ _ _ (Act.put _ (some 6) _) _
        simp only [Act.put, List.setIfInBounds_toArray, List.set_cons_zero, List.set_cons_succ]
        refine wpAnyH_done (by kernel_rfl) ?_ _
        have hcS_4 := (HLD.out _ hB36).1
        have hcT_3 := (HLD.out _ hB36).2.1
        have hcU_2 := (HLD.out _ hB36).2.2
        clear HLD hHeld hcS_3 hcT_2 hcU_1
        go_wp2_with fail
        go_ret
        exact ⟨rfl, H36.out.1⟩

theorem laid_met (os : Os) : laidMet Tryd.prog Rows.nodesetAlgebraRow.laid ((World.laidAll Tryd.prog os Rows.nodesetAlgebraRow.laid).forCall (fun _ _ => 0) ⟨#[], #[.slice none 0 0, .slice none 0 0, .slice none 0 0], []⟩).memory :=
  laidMet_laidAll _ (laid_fits os) (laid_ifaces os)
theorem reads (os : Os) {H : Type} (enc : TypeId × Value → H) : ∃ places, DataW.whole enc Tryd.prog ((World.laidAll Tryd.prog os Rows.nodesetAlgebraRow.laid).forCall (fun _ _ => 0) ⟨#[], #[.slice none 0 0, .slice none 0 0, .slice none 0 0], []⟩).memory Tryd.f8.params.toList Rows.nodesetAlgebraSpec.vars false #[Value.slice none 0 0, .slice none 0 0, .slice none 0 0].toList 8 = some ([.nil, .nil, .nil], [], places) :=
  ⟨[], by kernel_rfl⟩

set_option maxRecDepth 100000 in
theorem lifted (os : Os) (started : os.Started) (H : Type) (enc : TypeId × Value → H) (F : Stop.Interp) :
    ReturnsInHanded {} Tryd.checked os 8 .any ((OpenSpec.ofChange Rows.nodesetAlgebraSpec).preRow enc Tryd.prog Tryd.f8 Rows.nodesetAlgebraRow.domain false Rows.nodesetAlgebraRow.laid) (((OpenSpec.ofChange Rows.nodesetAlgebraSpec).at F).post enc Tryd.prog Tryd.f8 false true false false) := by
  obtain ⟨places, hx⟩ := reads os enc
  refine returnsInHanded_of_row (C := Tryd.checked) (s := OpenSpec.ofChange Rows.nodesetAlgebraSpec) own started (by kernel_rfl) Tryd.func8
    (witness_row_atRef (enc := enc) (C := Tryd.checked) false (World.laidAll Tryd.prog os Rows.nodesetAlgebraRow.laid) #[.slice none 0 0, .slice none 0 0, .slice none 0 0] (World.laidAll_os _ _ _) (laid_vars os _) (laid_rest os _) (by kernel_rfl)
      (OpenSpec.preRow_of_cond 8 hx (by kernel_rfl) (fun k hk => by cases hk) (by kernel_rfl) (laid_met os))) ?_
  intro W base args ds gs before hval0 hW _ _ _ hLH hSh _
  have hL0 := hLH
  rw [MakeChecks.laidMetH_plain _ _ _ (by kernel_rfl)] at hL0
  have hL : laidMet Tryd.prog Rows.nodesetAlgebraRow.laid W := hL0
  clear hL0
  have hr : Ready6 W := ready_of hL.tail hL.tail.tail hL.tail.tail.tail.tail.tail hL.tail.tail.tail.tail hSh
  have hval : ∀ (j : Nat) t v, Tryd.f8.params[j]? = some t → args[j]? = some v → Value.okWide Tryd.prog W .any base t v := hval0
  have hW' := hW
  obtain ⟨p, q, hA0, hV, rfl, hfz, hnd⟩ := hW
  have hA : DataW.TrodAll enc Tryd.prog W 0 (fun _ => true) true Tryd.f8.params.toList args.toList ds p := hA0
  rw [Tryd.params8] at hA hval
  obtain ⟨v0, vs0, d0, ds0, p0, q0, hargs, rfl, rfl, h0, r0⟩ := trodAll_cons hA
  obtain ⟨v1, vs1, d1, ds1, p1, q1, rfl, rfl, rfl, h1, r1⟩ := trodAll_cons r0
  obtain ⟨v2, vs2, d2, ds2, p2, q2, rfl, rfl, rfl, h2, r2⟩ := trodAll_cons r1
  obtain ⟨rfl, rfl, rfl⟩ := trodAll_nil r2
  obtain rfl : args = #[v0, v1, v2] := by cases args; simp_all
  obtain ⟨rfl, rfl⟩ := trodVars_none hV
  obtain ⟨A0, zs0, c0, rfl, hs0, hwf0, hc0, hm0, hz0⟩ := open_sl Tryd.underlying22 Tryd.underlying3 (by kernel_rfl) (hval 0 22 v0 rfl rfl) h0
  obtain ⟨A1, zs1, c1, rfl, hs1, hwf1, hc1, hm1, hz1⟩ := open_sl Tryd.underlying22 Tryd.underlying3 (by kernel_rfl) (hval 1 22 v1 rfl rfl) h1
  obtain ⟨A2, zs2, c2, rfl, hs2, hwf2, hc2, hm2, hz2⟩ := open_sl Tryd.underlying22 Tryd.underlying3 (by kernel_rfl) (hval 2 22 v2 rfl rfl) h2
  clear hA0 hval0
  refine (walk W A0 zs0 c0 hs0 A1 zs1 c1 hs1 A2 zs2 c2 hs2 hr).mono fun e W' ⟨he, hb⟩ => ?_
  subst he
  exact ⟨_, rfl, law_post laidOut (by kernel_rfl) rfl Tryd.underlying4 rfl hW' rfl rfl rfl hb⟩

theorem said : Rows.NodesetAlgebraSaid :=
  OpenClaim.holds_of_cond 8 Tryd.f8 rfl rfl rfl rfl rfl rfl rfl ⟨rfl, rfl, rfl, rfl, rfl⟩ rfl rfl rfl rfl rfl (by kernel_rfl) Tryd.func8 (by kernel_rfl)
    (of_decide_eq_true (by kernel_rfl)) (by unfold Func.isWrapper; first | (rw [if_pos (by decide +kernel)]; kernel_rfl) | (rw [if_neg (by decide +kernel)]; exact ⟨rfl, rfl⟩))
    (fun os started H enc _ F => by rw [OpenClaim.pre_eq_preRow]; exact lifted os started H enc F)

/-- No parameter wants a stand-in; the program's looks are those of the card. -/
theorem plain (f : FuncId) (fn : Func) (hf : Tryd.pinned.checked.prog.funcNamed "samaritan/samaritanlaw02.NodesetAlgebra" = some f) (hfn : Tryd.pinned.checked.prog.funcs[f]? = some fn) :
    true = Tryd.pinned.checked.prog.looks [] ∧ ∀ (j : Nat) t, fn.params[j]? = some t → Tryd.pinned.checked.prog.wantsStandIn t = false := by
  obtain rfl : f = 8 := Option.some.inj ((show Tryd.prog.funcNamed "samaritan/samaritanlaw02.NodesetAlgebra" = some 8 by kernel_rfl).symm.trans hf) |>.symm
  obtain rfl : fn = Tryd.f8 := (Option.some.inj (Tryd.func8.symm.trans hfn)).symm
  refine ⟨by kernel_rfl, fun j t ht => ?_⟩
  rw [Tryd.params8] at ht
  have hm := Array.mem_of_getElem? ht
  have hall : (#[22, 22, 22] : Array TypeId).toList.all (fun t => Tryd.prog.wantsStandIn t == false) = true := by kernel_rfl
  have := List.all_eq_true.1 hall t (by simpa using hm)
  exact beq_iff_eq.1 this

theorem card : Rows.NodesetAlgebraCardSaid :=
  Claim7.holds_tied_plain_at .later [] _ _ _ _ said (fun _ h => by cases h) (by kernel_rfl) (fun _ h => by cases h) nodesetAlgebra_row_tie rfl ⟨rfl, rfl⟩ (by kernel_rfl) rfl plain (by kernel_rfl)
#print axioms card
end Go.Proofs.YtalfjcamjdmdjaaDoor.l02Algebra
