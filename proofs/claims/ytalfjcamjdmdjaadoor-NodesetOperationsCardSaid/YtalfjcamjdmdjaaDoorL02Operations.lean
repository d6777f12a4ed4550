/-
  samaritanlaw02.NodesetOperations returns true for every input, and the arguments read afterwards as before.
  Conditions: those of the given row (its list of package variables), tied to the program's text by the given tie; the card speaks of the pruned copy of the project that the seat was translated from.
-/
import Derived.Test.YtalfjcamjdmdjaaDoorCards
import Derived.Test.YtalfjcamjdmdjaaDoorTie
import Derived.Test.YtalfjcamjdmdjaaDoorSetAlg
import Derived.Test.YtalfjcamjdmdjaaDoorLift
import Derived.Test.YtalfjcamjdmdjaaDoorLaidS
import Derived.OpenShut
import Derived.Deep.DeepHandedRow
namespace Go.Proofs.YtalfjcamjdmdjaaDoor.l02Operations
open Go.ChangeShapes Go.WideShapes Go.ChangeAt Go.RowKit Go.Maps
open Go.ChangeMaps (open_string shut_string)

set_option maxRecDepth 100000 in
set_option maxHeartbeats 4000000 in
theorem walk (w : World) (A0 : Option Addr) (zs0 : List Int) (c0 : Nat) (hs0 : Sl w w.heap.size A0 (zs0.map (Value.int .i64))) (A1 : Option Addr) (zs1 : List Int) (c1 : Nat) (hs1 : Sl w w.heap.size A1 (zs1.map (Value.int .i64))) (hr : Ready6 w) :
    Calls Tryd.prog 9 #[.slice A0 zs0.length c0, .slice A1 zs1.length c1] w fun e w' => e = .returned (.bool true) ∧ Below w.heap.size w w' := by
  have H1 := Lib.hid (And.intro (Below.refl w.heap.size w) (And.intro (hr) (And.intro (hs0) (hs1))))
  clear hr hs0 hs1
  by_cases hg0 : 60 < zs0.length
  · have dg0 : decide (60 < zs0.length) = true := decide_eq_true hg0
    go_enter Tryd.func9, Tryd.ntmps9
    go_wp2_with fail
    refine (refGreat_any A0 zs0.length c0 w).mono ?_
    rintro e w' ⟨rfl, hw⟩
    rw [hw]
    clear hw w'
    rw [dg0]
    go_wp2_with fail
    refine (awake_any w H1.out.2.1).mono ?_
    rintro e w2 ⟨rfl, hb2⟩
    have H2 := Lib.hid (And.intro (H1.out.1.trans (hb2.mono H1.out.1.size)) (And.intro (H1.out.2.1.below hb2) (And.intro ((H1.out.2.2.1.below hb2).more hb2.size) ((H1.out.2.2.2.below hb2).more hb2.size))))
    clear hb2
    go_wp2_with fail
    go_ret
    exact ⟨rfl, H2.out.1⟩
  · have dg0 : decide (60 < zs0.length) = false := decide_eq_false hg0
    have hz0 : zs0.length ≤ 60 := by omega
    by_cases hg1 : 60 < zs1.length
    · have dg1 : decide (60 < zs1.length) = true := decide_eq_true hg1
      go_enter Tryd.func9, Tryd.ntmps9
      go_wp2_with fail
      refine (refGreat_any A0 zs0.length c0 w).mono ?_
      rintro e w' ⟨rfl, hw⟩
      rw [hw]
      clear hw w'
      rw [dg0]
      go_wp2_with fail
      refine (refGreat_any A1 zs1.length c1 w).mono ?_
      rintro e w' ⟨rfl, hw⟩
      rw [hw]
      clear hw w'
      rw [dg1]
      go_wp2_with fail
      refine (awake_any w H1.out.2.1).mono ?_
      rintro e w2 ⟨rfl, hb2⟩
      have H2 := Lib.hid (And.intro (H1.out.1.trans (hb2.mono H1.out.1.size)) (And.intro (H1.out.2.1.below hb2) (And.intro ((H1.out.2.2.1.below hb2).more hb2.size) ((H1.out.2.2.2.below hb2).more hb2.size))))
      clear hb2
      go_wp2_with fail
      go_ret
      exact ⟨rfl, H2.out.1⟩
    · have dg1 : decide (60 < zs1.length) = false := decide_eq_false hg1
      have hz1 : zs1.length ≤ 60 := by omega
      go_enter Tryd.func9, Tryd.ntmps9
      go_wp2_with fail
      refine (refGreat_any A0 zs0.length c0 w).mono ?_
      rintro e w' ⟨rfl, hw⟩
      rw [hw]
      clear hw w'
      rw [dg0]
      go_wp2_with fail
      refine (refGreat_any A1 zs1.length c1 w).mono ?_
      rintro e w' ⟨rfl, hw⟩
      rw [hw]
      clear hw w'
      rw [dg1]
      go_wp2_with fail
      refine (of_any w A0 c0 zs0 H1.out.2.2.1 (by have := hz0; omega)).mono ?_
      rintro e w2 ⟨pS, rfl, hs, hb2⟩
      have H2 := Lib.hid (And.intro (H1.out.1.trans (hb2.mono H1.out.1.size)) (And.intro (H1.out.2.1.below hb2) (And.intro ((H1.out.2.2.1.below hb2).more hb2.size) (And.intro ((H1.out.2.2.2.below hb2).more hb2.size) (hs)))))
      clear hs hb2
      go_wp2_with fail
      refine (of_any w2 A1 c1 zs1 H2.out.2.2.2.1 (by have := hz1; omega)).mono ?_
      rintro e w3 ⟨pT, rfl, hs, hb3⟩
      have H3 := Lib.hid (And.intro (H2.out.1.trans (hb3.mono H2.out.1.size)) (And.intro (H2.out.2.1.below hb3) (And.intro ((H2.out.2.2.1.below hb3).more hb3.size) (And.intro ((H2.out.2.2.2.1.below hb3).more hb3.size) (And.intro (H2.out.2.2.2.2.below hb3) (hs))))))
      clear hs hb3
      go_wp2_with fail
      obtain ⟨w4, hw4⟩ : ∃ x, x = w3.alloc (.cells #[.pointer pS] 30) := ⟨_, rfl⟩
      have hb4 : Below w3.heap.size w3 w4 := by rw [hw4]; exact (Below.refl _ _).alloc (Nat.le_refl _) _
      have hcS_0 : w4.cell? ⟨w3.heap.size, 0, none⟩ = some (.pointer pS) := by rw [hw4, World.cell?_alloc_at (hn := rfl)]; rfl
      have hl4 : w3.heap.size < w4.heap.size := by rw [hw4]; simp
      rw [← hw4]
      rw [show w3.heap.size + 1 = w4.heap.size by rw [hw4]; simp]
      have H4 := Lib.hid (And.intro (H3.out.1.trans (hb4.mono H3.out.1.size)) (And.intro (H3.out.2.1.below hb4) (And.intro ((H3.out.2.2.1.below hb4).more hb4.size) (And.intro ((H3.out.2.2.2.1.below hb4).more hb4.size) (And.intro (H3.out.2.2.2.2.1.below hb4) (And.intro (H3.out.2.2.2.2.2.below hb4) (hl4)))))))
      clear hw4 hl4 hb4
      obtain ⟨w5, hw5⟩ : ∃ x, x = w4.alloc (.cells #[.pointer pT] 30) := ⟨_, rfl⟩
      have hb5 : Below w4.heap.size w4 w5 := by rw [hw5]; exact (Below.refl _ _).alloc (Nat.le_refl _) _
      have hcT_0 : w5.cell? ⟨w4.heap.size, 0, none⟩ = some (.pointer pT) := by rw [hw5, World.cell?_alloc_at (hn := rfl)]; rfl
      have hl5 : w4.heap.size < w5.heap.size := by rw [hw5]; simp
      rw [← hw5]
      have hcS_1 := (hb5.cell (p := ⟨w3.heap.size, 0, none⟩) H4.out.2.2.2.2.2.2).trans hcS_0
      have H5 := Lib.hid (And.intro (H4.out.1.trans (hb5.mono H4.out.1.size)) (And.intro (H4.out.2.1.below hb5) (And.intro ((H4.out.2.2.1.below hb5).more hb5.size) (And.intro ((H4.out.2.2.2.1.below hb5).more hb5.size) (And.intro (H4.out.2.2.2.2.1.below hb5) (And.intro (H4.out.2.2.2.2.2.1.below hb5) (And.intro (Nat.lt_of_lt_of_le H4.out.2.2.2.2.2.2 hb5.size) (hl5))))))))
      clear hw5 hl5 hcS_0 hb5
      refine (refOf_any A0 c0 zs0 w5 H5.out.2.2.1 (by have := hz0; omega)).mono ?_
      rintro e w6 ⟨v, rfl, hown, hb6⟩
      rw [refOf_nodes] at hown
      obtain ⟨AX, cX, rfl, hsl⟩ := OwnV.sl hown
      have hcS_2 := (hb6.cell (p := ⟨w3.heap.size, 0, none⟩) H5.out.2.2.2.2.2.2.1).trans hcS_1
      have hcT_1 := (hb6.cell (p := ⟨w4.heap.size, 0, none⟩) H5.out.2.2.2.2.2.2.2).trans hcT_0
      have H6 := Lib.hid (And.intro (H5.out.1.trans (hb6.mono H5.out.1.size)) (And.intro (H5.out.2.1.below hb6) (And.intro ((H5.out.2.2.1.below hb6).more hb6.size) (And.intro ((H5.out.2.2.2.1.below hb6).more hb6.size) (And.intro (H5.out.2.2.2.2.1.below hb6) (And.intro (H5.out.2.2.2.2.2.1.below hb6) (And.intro (Nat.lt_of_lt_of_le H5.out.2.2.2.2.2.2.1 hb6.size) (And.intro (Nat.lt_of_lt_of_le H5.out.2.2.2.2.2.2.2 hb6.size) (hsl)))))))))
      clear hsl hown hcS_1 hcT_0 hb6
      go_wp2_with fail
      refine (refOf_any A1 c1 zs1 w6 H6.out.2.2.2.1 (by have := hz1; omega)).mono ?_
      rintro e w7 ⟨v, rfl, hown, hb7⟩
      rw [refOf_nodes] at hown
      obtain ⟨AY, cY, rfl, hsl⟩ := OwnV.sl hown
      have hcS_3 := (hb7.cell (p := ⟨w3.heap.size, 0, none⟩) H6.out.2.2.2.2.2.2.1).trans hcS_2
      have hcT_2 := (hb7.cell (p := ⟨w4.heap.size, 0, none⟩) H6.out.2.2.2.2.2.2.2.1).trans hcT_1
      have H7 := Lib.hid (And.intro (H6.out.1.trans (hb7.mono H6.out.1.size)) (And.intro (H6.out.2.1.below hb7) (And.intro ((H6.out.2.2.1.below hb7).more hb7.size) (And.intro ((H6.out.2.2.2.1.below hb7).more hb7.size) (And.intro (H6.out.2.2.2.2.1.below hb7) (And.intro (H6.out.2.2.2.2.2.1.below hb7) (And.intro (Nat.lt_of_lt_of_le H6.out.2.2.2.2.2.2.1 hb7.size) (And.intro (Nat.lt_of_lt_of_le H6.out.2.2.2.2.2.2.2.1 hb7.size) (And.intro ((H6.out.2.2.2.2.2.2.2.2.below hb7).more hb7.size) (hsl))))))))))
      clear hsl hown hcS_2 hcT_1 hb7
      obtain ⟨V, hV⟩ : ∃ V, V = ofW zs0 := ⟨_, rfl⟩
      obtain ⟨U, hU⟩ : ∃ U, U = ofW zs1 := ⟨_, rfl⟩
      rw [← hV, ← hU] at H7
      rw [← hV, ← hU]
      clear hV hU
      go_wp2_with fail
      refine (orN_any w7 pS pT V U H7.out.2.2.2.2.1 H7.out.2.2.2.2.2.1).mono ?_
      rintro e w8 ⟨pO, rfl, hs, hb8⟩
      have hcS_4 := (hb8.cell (p := ⟨w3.heap.size, 0, none⟩) H7.out.2.2.2.2.2.2.1).trans hcS_3
      have hcT_3 := (hb8.cell (p := ⟨w4.heap.size, 0, none⟩) H7.out.2.2.2.2.2.2.2.1).trans hcT_2
      have H8 := Lib.hid (And.intro (H7.out.1.trans (hb8.mono H7.out.1.size)) (And.intro (H7.out.2.1.below hb8) (And.intro ((H7.out.2.2.1.below hb8).more hb8.size) (And.intro ((H7.out.2.2.2.1.below hb8).more hb8.size) (And.intro (H7.out.2.2.2.2.1.below hb8) (And.intro (H7.out.2.2.2.2.2.1.below hb8) (And.intro (Nat.lt_of_lt_of_le H7.out.2.2.2.2.2.2.1 hb8.size) (And.intro (Nat.lt_of_lt_of_le H7.out.2.2.2.2.2.2.2.1 hb8.size) (And.intro ((H7.out.2.2.2.2.2.2.2.2.1.below hb8).more hb8.size) (And.intro ((H7.out.2.2.2.2.2.2.2.2.2.below hb8).more hb8.size) (hs)))))))))))
      clear hs hcS_3 hcT_2 hb8
      go_wp2_with fail
      refine (refOr_any AX AY cX cY (nodesI V) (nodesI U) (nodesI_up V) (nodesI_up U) w8 H8.out.2.2.2.2.2.2.2.2.1 H8.out.2.2.2.2.2.2.2.2.2.1 (Nat.le_trans (nodesI_le H8.out.2.2.2.2.1.1) (by decide)) (Nat.le_trans (nodesI_le H8.out.2.2.2.2.2.1.1) (by decide))).mono ?_
      rintro e w9 ⟨L, ⟨v, rfl, hown, hb9⟩, hup, hmem⟩
      have hL := or_nodes H7.out.2.2.2.2.1.1 H7.out.2.2.2.2.2.1.1 hup hmem
      subst hL
      clear hup hmem
      obtain ⟨AO, cO, rfl, hsl⟩ := OwnV.sl hown
      have hcS_5 := (hb9.cell (p := ⟨w3.heap.size, 0, none⟩) H8.out.2.2.2.2.2.2.1).trans hcS_4
      have hcT_4 := (hb9.cell (p := ⟨w4.heap.size, 0, none⟩) H8.out.2.2.2.2.2.2.2.1).trans hcT_3
      have H9 := Lib.hid (And.intro (H8.out.1.trans (hb9.mono H8.out.1.size)) (And.intro (H8.out.2.1.below hb9) (And.intro ((H8.out.2.2.1.below hb9).more hb9.size) (And.intro ((H8.out.2.2.2.1.below hb9).more hb9.size) (And.intro (H8.out.2.2.2.2.1.below hb9) (And.intro (H8.out.2.2.2.2.2.1.below hb9) (And.intro (Nat.lt_of_lt_of_le H8.out.2.2.2.2.2.2.1 hb9.size) (And.intro (Nat.lt_of_lt_of_le H8.out.2.2.2.2.2.2.2.1 hb9.size) (And.intro ((H8.out.2.2.2.2.2.2.2.2.1.below hb9).more hb9.size) (And.intro ((H8.out.2.2.2.2.2.2.2.2.2.1.below hb9).more hb9.size) (And.intro (H8.out.2.2.2.2.2.2.2.2.2.2.below hb9) (hsl))))))))))))
      clear hsl hown hcS_4 hcT_3 hb9
      go_wp2_with fail
      refine (same_any w9 H9.out.2.1 pO _ H9.out.2.2.2.2.2.2.2.2.2.2.1 AO cO H9.out.2.2.2.2.2.2.2.2.2.2.2).mono ?_
      rintro e w10 ⟨rfl, hb10⟩
      have hcS_6 := (hb10.cell (p := ⟨w3.heap.size, 0, none⟩) H9.out.2.2.2.2.2.2.1).trans hcS_5
      have hcT_5 := (hb10.cell (p := ⟨w4.heap.size, 0, none⟩) H9.out.2.2.2.2.2.2.2.1).trans hcT_4
      have H10 := Lib.hid (And.intro (H9.out.1.trans (hb10.mono H9.out.1.size)) (And.intro (H9.out.2.1.below hb10) (And.intro ((H9.out.2.2.1.below hb10).more hb10.size) (And.intro ((H9.out.2.2.2.1.below hb10).more hb10.size) (And.intro (H9.out.2.2.2.2.1.below hb10) (And.intro (H9.out.2.2.2.2.2.1.below hb10) (And.intro (Nat.lt_of_lt_of_le H9.out.2.2.2.2.2.2.1 hb10.size) (And.intro (Nat.lt_of_lt_of_le H9.out.2.2.2.2.2.2.2.1 hb10.size) (And.intro ((H9.out.2.2.2.2.2.2.2.2.1.below hb10).more hb10.size) ((H9.out.2.2.2.2.2.2.2.2.2.1.below hb10).more hb10.size))))))))))
      clear hcS_5 hcT_4 hb10
      go_wp2_with fail
      refine (andN_any w10 pS pT V U H10.out.2.2.2.2.1 H10.out.2.2.2.2.2.1).mono ?_
      rintro e w11 ⟨pI, rfl, hs, hb11⟩
      have hcS_7 := (hb11.cell (p := ⟨w3.heap.size, 0, none⟩) H10.out.2.2.2.2.2.2.1).trans hcS_6
      have hcT_6 := (hb11.cell (p := ⟨w4.heap.size, 0, none⟩) H10.out.2.2.2.2.2.2.2.1).trans hcT_5
      have H11 := Lib.hid (And.intro (H10.out.1.trans (hb11.mono H10.out.1.size)) (And.intro (H10.out.2.1.below hb11) (And.intro ((H10.out.2.2.1.below hb11).more hb11.size) (And.intro ((H10.out.2.2.2.1.below hb11).more hb11.size) (And.intro (H10.out.2.2.2.2.1.below hb11) (And.intro (H10.out.2.2.2.2.2.1.below hb11) (And.intro (Nat.lt_of_lt_of_le H10.out.2.2.2.2.2.2.1 hb11.size) (And.intro (Nat.lt_of_lt_of_le H10.out.2.2.2.2.2.2.2.1 hb11.size) (And.intro ((H10.out.2.2.2.2.2.2.2.2.1.below hb11).more hb11.size) (And.intro ((H10.out.2.2.2.2.2.2.2.2.2.below hb11).more hb11.size) (hs)))))))))))
      clear hs hcS_6 hcT_5 hb11
      go_wp2_with fail
      refine (refAnd_any AX AY cX cY (nodesI V) (nodesI U) w11 H11.out.2.2.2.2.2.2.2.2.1 H11.out.2.2.2.2.2.2.2.2.2.1 (Nat.le_trans (nodesI_le H11.out.2.2.2.2.1.1) (by decide)) (Nat.le_trans (nodesI_le H11.out.2.2.2.2.2.1.1) (by decide))).mono ?_
      rintro e w12 ⟨v, rfl, hown, hb12⟩
      rw [and_nodes H10.out.2.2.2.2.1.1 H10.out.2.2.2.2.2.1.1] at hown
      obtain ⟨AI, cI, rfl, hsl⟩ := OwnV.sl hown
      have hcS_8 := (hb12.cell (p := ⟨w3.heap.size, 0, none⟩) H11.out.2.2.2.2.2.2.1).trans hcS_7
      have hcT_7 := (hb12.cell (p := ⟨w4.heap.size, 0, none⟩) H11.out.2.2.2.2.2.2.2.1).trans hcT_6
      have H12 := Lib.hid (And.intro (H11.out.1.trans (hb12.mono H11.out.1.size)) (And.intro (H11.out.2.1.below hb12) (And.intro ((H11.out.2.2.1.below hb12).more hb12.size) (And.intro ((H11.out.2.2.2.1.below hb12).more hb12.size) (And.intro (H11.out.2.2.2.2.1.below hb12) (And.intro (H11.out.2.2.2.2.2.1.below hb12) (And.intro (Nat.lt_of_lt_of_le H11.out.2.2.2.2.2.2.1 hb12.size) (And.intro (Nat.lt_of_lt_of_le H11.out.2.2.2.2.2.2.2.1 hb12.size) (And.intro ((H11.out.2.2.2.2.2.2.2.2.1.below hb12).more hb12.size) (And.intro ((H11.out.2.2.2.2.2.2.2.2.2.1.below hb12).more hb12.size) (And.intro (H11.out.2.2.2.2.2.2.2.2.2.2.below hb12) (hsl))))))))))))
      clear hsl hown hcS_7 hcT_6 hb12
      go_wp2_with fail
      refine (same_any w12 H12.out.2.1 pI _ H12.out.2.2.2.2.2.2.2.2.2.2.1 AI cI H12.out.2.2.2.2.2.2.2.2.2.2.2).mono ?_
      rintro e w13 ⟨rfl, hb13⟩
      have hcS_9 := (hb13.cell (p := ⟨w3.heap.size, 0, none⟩) H12.out.2.2.2.2.2.2.1).trans hcS_8
      have hcT_8 := (hb13.cell (p := ⟨w4.heap.size, 0, none⟩) H12.out.2.2.2.2.2.2.2.1).trans hcT_7
      have H13 := Lib.hid (And.intro (H12.out.1.trans (hb13.mono H12.out.1.size)) (And.intro (H12.out.2.1.below hb13) (And.intro ((H12.out.2.2.1.below hb13).more hb13.size) (And.intro ((H12.out.2.2.2.1.below hb13).more hb13.size) (And.intro (H12.out.2.2.2.2.1.below hb13) (And.intro (H12.out.2.2.2.2.2.1.below hb13) (And.intro (Nat.lt_of_lt_of_le H12.out.2.2.2.2.2.2.1 hb13.size) (And.intro (Nat.lt_of_lt_of_le H12.out.2.2.2.2.2.2.2.1 hb13.size) (And.intro ((H12.out.2.2.2.2.2.2.2.2.1.below hb13).more hb13.size) ((H12.out.2.2.2.2.2.2.2.2.2.1.below hb13).more hb13.size))))))))))
      clear hcS_8 hcT_7 hb13
      go_wp2_with fail
      refine (lessN_any w13 pS pT V U H13.out.2.2.2.2.1 H13.out.2.2.2.2.2.1).mono ?_
      rintro e w14 ⟨pD, rfl, hs, hb14⟩
      have hcS_10 := (hb14.cell (p := ⟨w3.heap.size, 0, none⟩) H13.out.2.2.2.2.2.2.1).trans hcS_9
      have hcT_9 := (hb14.cell (p := ⟨w4.heap.size, 0, none⟩) H13.out.2.2.2.2.2.2.2.1).trans hcT_8
      have H14 := Lib.hid (And.intro (H13.out.1.trans (hb14.mono H13.out.1.size)) (And.intro (H13.out.2.1.below hb14) (And.intro ((H13.out.2.2.1.below hb14).more hb14.size) (And.intro ((H13.out.2.2.2.1.below hb14).more hb14.size) (And.intro (H13.out.2.2.2.2.1.below hb14) (And.intro (H13.out.2.2.2.2.2.1.below hb14) (And.intro (Nat.lt_of_lt_of_le H13.out.2.2.2.2.2.2.1 hb14.size) (And.intro (Nat.lt_of_lt_of_le H13.out.2.2.2.2.2.2.2.1 hb14.size) (And.intro ((H13.out.2.2.2.2.2.2.2.2.1.below hb14).more hb14.size) (And.intro ((H13.out.2.2.2.2.2.2.2.2.2.below hb14).more hb14.size) (hs)))))))))))
      clear hs hcS_9 hcT_8 hb14
      go_wp2_with fail
      refine (refLess_any AX AY cX cY (nodesI V) (nodesI U) w14 H14.out.2.2.2.2.2.2.2.2.1 H14.out.2.2.2.2.2.2.2.2.2.1 (Nat.le_trans (nodesI_le H14.out.2.2.2.2.1.1) (by decide)) (Nat.le_trans (nodesI_le H14.out.2.2.2.2.2.1.1) (by decide))).mono ?_
      rintro e w15 ⟨v, rfl, hown, hb15⟩
      rw [less_nodes H13.out.2.2.2.2.1.1 H13.out.2.2.2.2.2.1.1] at hown
      obtain ⟨AD, cD, rfl, hsl⟩ := OwnV.sl hown
      have hcS_11 := (hb15.cell (p := ⟨w3.heap.size, 0, none⟩) H14.out.2.2.2.2.2.2.1).trans hcS_10
      have hcT_10 := (hb15.cell (p := ⟨w4.heap.size, 0, none⟩) H14.out.2.2.2.2.2.2.2.1).trans hcT_9
      have H15 := Lib.hid (And.intro (H14.out.1.trans (hb15.mono H14.out.1.size)) (And.intro (H14.out.2.1.below hb15) (And.intro ((H14.out.2.2.1.below hb15).more hb15.size) (And.intro ((H14.out.2.2.2.1.below hb15).more hb15.size) (And.intro (H14.out.2.2.2.2.1.below hb15) (And.intro (H14.out.2.2.2.2.2.1.below hb15) (And.intro (Nat.lt_of_lt_of_le H14.out.2.2.2.2.2.2.1 hb15.size) (And.intro (Nat.lt_of_lt_of_le H14.out.2.2.2.2.2.2.2.1 hb15.size) (And.intro ((H14.out.2.2.2.2.2.2.2.2.1.below hb15).more hb15.size) (And.intro ((H14.out.2.2.2.2.2.2.2.2.2.1.below hb15).more hb15.size) (And.intro (H14.out.2.2.2.2.2.2.2.2.2.2.below hb15) (hsl))))))))))))
      clear hsl hown hcS_10 hcT_9 hb15
      go_wp2_with fail
      refine (same_any w15 H15.out.2.1 pD _ H15.out.2.2.2.2.2.2.2.2.2.2.1 AD cD H15.out.2.2.2.2.2.2.2.2.2.2.2).mono ?_
      rintro e w16 ⟨rfl, hb16⟩
      have hcS_12 := (hb16.cell (p := ⟨w3.heap.size, 0, none⟩) H15.out.2.2.2.2.2.2.1).trans hcS_11
      have hcT_11 := (hb16.cell (p := ⟨w4.heap.size, 0, none⟩) H15.out.2.2.2.2.2.2.2.1).trans hcT_10
      have H16 := Lib.hid (And.intro (H15.out.1.trans (hb16.mono H15.out.1.size)) (And.intro (H15.out.2.1.below hb16) (And.intro ((H15.out.2.2.1.below hb16).more hb16.size) (And.intro ((H15.out.2.2.2.1.below hb16).more hb16.size) (And.intro (H15.out.2.2.2.2.1.below hb16) (And.intro (H15.out.2.2.2.2.2.1.below hb16) (And.intro (Nat.lt_of_lt_of_le H15.out.2.2.2.2.2.2.1 hb16.size) (And.intro (Nat.lt_of_lt_of_le H15.out.2.2.2.2.2.2.2.1 hb16.size) (And.intro ((H15.out.2.2.2.2.2.2.2.2.1.below hb16).more hb16.size) ((H15.out.2.2.2.2.2.2.2.2.2.1.below hb16).more hb16.size))))))))))
      clear hcS_11 hcT_10 hb16
      go_wp2_with fail
      refine (same_any w16 H16.out.2.1 pS _ H16.out.2.2.2.2.1 AX cX H16.out.2.2.2.2.2.2.2.2.1).mono ?_
      rintro e w17 ⟨rfl, hb17⟩
      have hcS_13 := (hb17.cell (p := ⟨w3.heap.size, 0, none⟩) H16.out.2.2.2.2.2.2.1).trans hcS_12
      have hcT_12 := (hb17.cell (p := ⟨w4.heap.size, 0, none⟩) H16.out.2.2.2.2.2.2.2.1).trans hcT_11
      have H17 := Lib.hid (And.intro (H16.out.1.trans (hb17.mono H16.out.1.size)) (And.intro (H16.out.2.1.below hb17) (And.intro ((H16.out.2.2.1.below hb17).more hb17.size) (And.intro ((H16.out.2.2.2.1.below hb17).more hb17.size) (And.intro (H16.out.2.2.2.2.1.below hb17) (And.intro (H16.out.2.2.2.2.2.1.below hb17) (And.intro (Nat.lt_of_lt_of_le H16.out.2.2.2.2.2.2.1 hb17.size) (And.intro (Nat.lt_of_lt_of_le H16.out.2.2.2.2.2.2.2.1 hb17.size) (And.intro ((H16.out.2.2.2.2.2.2.2.2.1.below hb17).more hb17.size) ((H16.out.2.2.2.2.2.2.2.2.2.below hb17).more hb17.size))))))))))
      clear hcS_12 hcT_11 hb17
      go_wp2_with fail
      refine (same_any w17 H17.out.2.1 pT _ H17.out.2.2.2.2.2.1 AY cY H17.out.2.2.2.2.2.2.2.2.2).mono ?_
      rintro e w18 ⟨rfl, hb18⟩
      have hcS_14 := (hb18.cell (p := ⟨w3.heap.size, 0, none⟩) H17.out.2.2.2.2.2.2.1).trans hcS_13
      have hcT_13 := (hb18.cell (p := ⟨w4.heap.size, 0, none⟩) H17.out.2.2.2.2.2.2.2.1).trans hcT_12
      have H18 := Lib.hid (And.intro (H17.out.1.trans (hb18.mono H17.out.1.size)) (And.intro (H17.out.2.1.below hb18) (And.intro ((H17.out.2.2.1.below hb18).more hb18.size) (And.intro ((H17.out.2.2.2.1.below hb18).more hb18.size) (And.intro (H17.out.2.2.2.2.1.below hb18) (And.intro (H17.out.2.2.2.2.2.1.below hb18) (And.intro (Nat.lt_of_lt_of_le H17.out.2.2.2.2.2.2.1 hb18.size) (And.intro (Nat.lt_of_lt_of_le H17.out.2.2.2.2.2.2.2.1 hb18.size) (And.intro ((H17.out.2.2.2.2.2.2.2.2.1.below hb18).more hb18.size) ((H17.out.2.2.2.2.2.2.2.2.2.below hb18).more hb18.size))))))))))
      clear hcS_13 hcT_12 hb18
      go_wp2_with fail
      refine (equal_any w18 pS pT V U H18.out.2.2.2.2.1 H18.out.2.2.2.2.2.1).mono ?_
      rintro e w19 ⟨rfl, hb19⟩
      have hcS_15 := (hb19.cell (p := ⟨w3.heap.size, 0, none⟩) H18.out.2.2.2.2.2.2.1).trans hcS_14
      have hcT_14 := (hb19.cell (p := ⟨w4.heap.size, 0, none⟩) H18.out.2.2.2.2.2.2.2.1).trans hcT_13
      have H19 := Lib.hid (And.intro (H18.out.1.trans (hb19.mono H18.out.1.size)) (And.intro (H18.out.2.1.below hb19) (And.intro ((H18.out.2.2.1.below hb19).more hb19.size) (And.intro ((H18.out.2.2.2.1.below hb19).more hb19.size) (And.intro (H18.out.2.2.2.2.1.below hb19) (And.intro (H18.out.2.2.2.2.2.1.below hb19) (And.intro (Nat.lt_of_lt_of_le H18.out.2.2.2.2.2.2.1 hb19.size) (And.intro (Nat.lt_of_lt_of_le H18.out.2.2.2.2.2.2.2.1 hb19.size) (And.intro ((H18.out.2.2.2.2.2.2.2.2.1.below hb19).more hb19.size) ((H18.out.2.2.2.2.2.2.2.2.2.below hb19).more hb19.size))))))))))
      clear hcS_14 hcT_13 hb19
      go_wp2_with fail
      refine (refSame_any AX AY cX cY (nodesI V) (nodesI U) w19 H19.out.2.2.2.2.2.2.2.2.1 H19.out.2.2.2.2.2.2.2.2.2 (Nat.le_trans (nodesI_le H19.out.2.2.2.2.1.1) (by decide)) (Nat.le_trans (nodesI_le H19.out.2.2.2.2.2.1.1) (by decide))).mono ?_
      rw [nodesI_eq H19.out.2.2.2.2.1.1 H19.out.2.2.2.2.2.1.1]
      rintro e w20 ⟨rfl, hb20⟩
      have hcS_16 := (hb20.cell (p := ⟨w3.heap.size, 0, none⟩) H19.out.2.2.2.2.2.2.1).trans hcS_15
      have hcT_15 := (hb20.cell (p := ⟨w4.heap.size, 0, none⟩) H19.out.2.2.2.2.2.2.2.1).trans hcT_14
      have H20 := Lib.hid (And.intro (H19.out.1.trans (hb20.mono H19.out.1.size)) (And.intro (H19.out.2.1.below hb20) (And.intro ((H19.out.2.2.1.below hb20).more hb20.size) (And.intro ((H19.out.2.2.2.1.below hb20).more hb20.size) (And.intro (H19.out.2.2.2.2.1.below hb20) (And.intro (H19.out.2.2.2.2.2.1.below hb20) (And.intro (Nat.lt_of_lt_of_le H19.out.2.2.2.2.2.2.1 hb20.size) (And.intro (Nat.lt_of_lt_of_le H19.out.2.2.2.2.2.2.2.1 hb20.size) (And.intro ((H19.out.2.2.2.2.2.2.2.2.1.below hb20).more hb20.size) ((H19.out.2.2.2.2.2.2.2.2.2.below hb20).more hb20.size))))))))))
      clear hcS_15 hcT_14 hb20
      obtain ⟨q, hq⟩ : ∃ q, q = (V == U) := ⟨_, rfl⟩
      rw [← hq]
      clear hq
      have hqq : (q == q) = true := beq_iff_eq.2 rfl
      go_wp2_with fail
      refine (awake_any w20 H20.out.2.1).mono ?_
      rintro e w21 ⟨rfl, hb21⟩
      have hcS_17 := (hb21.cell (p := ⟨w3.heap.size, 0, none⟩) H20.out.2.2.2.2.2.2.1).trans hcS_16
      have hcT_16 := (hb21.cell (p := ⟨w4.heap.size, 0, none⟩) H20.out.2.2.2.2.2.2.2.1).trans hcT_15
      have H21 := Lib.hid (And.intro (H20.out.1.trans (hb21.mono H20.out.1.size)) (And.intro (H20.out.2.1.below hb21) (And.intro ((H20.out.2.2.1.below hb21).more hb21.size) (And.intro ((H20.out.2.2.2.1.below hb21).more hb21.size) (And.intro (H20.out.2.2.2.2.1.below hb21) (And.intro (H20.out.2.2.2.2.2.1.below hb21) (And.intro (Nat.lt_of_lt_of_le H20.out.2.2.2.2.2.2.1 hb21.size) (And.intro (Nat.lt_of_lt_of_le H20.out.2.2.2.2.2.2.2.1 hb21.size) (And.intro ((H20.out.2.2.2.2.2.2.2.2.1.below hb21).more hb21.size) ((H20.out.2.2.2.2.2.2.2.2.2.below hb21).more hb21.size))))))))))
      clear hcS_16 hcT_15 hb21
      go_wp2_with fail
      go_ret
      exact ⟨rfl, H21.out.1⟩

theorem laid_met (os : Os) : laidMet Tryd.prog Rows.nodesetOperationsRow.laid ((World.laidAll Tryd.prog os Rows.nodesetOperationsRow.laid).forCall (fun _ _ => 0) ⟨#[], #[.slice none 0 0, .slice none 0 0], []⟩).memory :=
  laidMet_laidAll _ (laid_fits os) (laid_ifaces os)
theorem reads (os : Os) {H : Type} (enc : TypeId × Value → H) : ∃ places, DataW.whole enc Tryd.prog ((World.laidAll Tryd.prog os Rows.nodesetOperationsRow.laid).forCall (fun _ _ => 0) ⟨#[], #[.slice none 0 0, .slice none 0 0], []⟩).memory Tryd.f9.params.toList Rows.nodesetOperationsSpec.vars false #[Value.slice none 0 0, .slice none 0 0].toList 8 = some ([.nil, .nil], [], places) :=
  ⟨[], by kernel_rfl⟩

set_option maxRecDepth 100000 in
theorem lifted (os : Os) (started : os.Started) (H : Type) (enc : TypeId × Value → H) (F : Stop.Interp) :
    ReturnsInHanded {} Tryd.checked os 9 .any ((OpenSpec.ofChange Rows.nodesetOperationsSpec).preRow enc Tryd.prog Tryd.f9 Rows.nodesetOperationsRow.domain false Rows.nodesetOperationsRow.laid) (((OpenSpec.ofChange Rows.nodesetOperationsSpec).at F).post enc Tryd.prog Tryd.f9 false true false false) := by
  obtain ⟨places, hx⟩ := reads os enc
  refine returnsInHanded_of_row (C := Tryd.checked) (s := OpenSpec.ofChange Rows.nodesetOperationsSpec) own started (by kernel_rfl) Tryd.func9
    (witness_row_atRef (enc := enc) (C := Tryd.checked) false (World.laidAll Tryd.prog os Rows.nodesetOperationsRow.laid) #[.slice none 0 0, .slice none 0 0] (World.laidAll_os _ _ _) (laid_vars os _) (laid_rest os _) (by kernel_rfl)
      (OpenSpec.preRow_of_cond 8 hx (by kernel_rfl) (fun k hk => by cases hk) (by kernel_rfl) (laid_met os))) ?_
  intro W base args ds gs before hval0 hW _ _ _ hLH hSh _
  have hL0 := hLH
  rw [MakeChecks.laidMetH_plain _ _ _ (by kernel_rfl)] at hL0
  have hL : laidMet Tryd.prog Rows.nodesetOperationsRow.laid W := hL0
  clear hL0
  have hr : Ready6 W := ready_of hL.tail hL.tail.tail hL.tail.tail.tail.tail.tail hL.tail.tail.tail.tail hSh
  have hval : ∀ (j : Nat) t v, Tryd.f9.params[j]? = some t → args[j]? = some v → Value.okWide Tryd.prog W .any base t v := hval0
  have hW' := hW
  obtain ⟨p, q, hA0, hV, rfl, hfz, hnd⟩ := hW
  have hA : DataW.TrodAll enc Tryd.prog W 0 (fun _ => true) true Tryd.f9.params.toList args.toList ds p := hA0
  rw [Tryd.params9] at hA hval
  obtain ⟨v0, vs0, d0, ds0, p0, q0, hargs, rfl, rfl, h0, r0⟩ := trodAll_cons hA
  obtain ⟨v1, vs1, d1, ds1, p1, q1, rfl, rfl, rfl, h1, r1⟩ := trodAll_cons r0
  obtain ⟨rfl, rfl, rfl⟩ := trodAll_nil r1
  obtain rfl : args = #[v0, v1] := by cases args; simp_all
  obtain ⟨rfl, rfl⟩ := trodVars_none hV
  obtain ⟨A0, zs0, c0, rfl, hs0, hwf0, hc0, hm0, hz0⟩ := open_sl Tryd.underlying22 Tryd.underlying3 (by kernel_rfl) (hval 0 22 v0 rfl rfl) h0
  obtain ⟨A1, zs1, c1, rfl, hs1, hwf1, hc1, hm1, hz1⟩ := open_sl Tryd.underlying22 Tryd.underlying3 (by kernel_rfl) (hval 1 22 v1 rfl rfl) h1
  clear hA0 hval0
  refine (walk W A0 zs0 c0 hs0 A1 zs1 c1 hs1 hr).mono fun e W' ⟨he, hb⟩ => ?_
  subst he
  exact ⟨_, rfl, law_post laidOut (by kernel_rfl) rfl Tryd.underlying4 rfl hW' rfl rfl rfl hb⟩

theorem said : Rows.NodesetOperationsSaid :=
  OpenClaim.holds_of_cond 9 Tryd.f9 rfl rfl rfl rfl rfl rfl rfl ⟨rfl, rfl, rfl, rfl, rfl⟩ rfl rfl rfl rfl rfl (by kernel_rfl) Tryd.func9 (by kernel_rfl)
    (of_decide_eq_true (by kernel_rfl)) (by unfold Func.isWrapper; first | (rw [if_pos (by decide +kernel)]; kernel_rfl) | (rw [if_neg (by decide +kernel)]; exact ⟨rfl, rfl⟩))
    (fun os started H enc _ F => by rw [OpenClaim.pre_eq_preRow]; exact lifted os started H enc F)

/-- No parameter wants a stand-in; the program's looks are those of the card. -/
theorem plain (f : FuncId) (fn : Func) (hf : Tryd.pinned.checked.prog.funcNamed "samaritan/samaritanlaw02.NodesetOperations" = some f) (hfn : Tryd.pinned.checked.prog.funcs[f]? = some fn) :
    true = Tryd.pinned.checked.prog.looks [] ∧ ∀ (j : Nat) t, fn.params[j]? = some t → Tryd.pinned.checked.prog.wantsStandIn t = false := by
  obtain rfl : f = 9 := Option.some.inj ((show Tryd.prog.funcNamed "samaritan/samaritanlaw02.NodesetOperations" = some 9 by kernel_rfl).symm.trans hf) |>.symm
  obtain rfl : fn = Tryd.f9 := (Option.some.inj (Tryd.func9.symm.trans hfn)).symm
  refine ⟨by kernel_rfl, fun j t ht => ?_⟩
  rw [Tryd.params9] at ht
  have hm := Array.mem_of_getElem? ht
  have hall : (#[22, 22] : Array TypeId).toList.all (fun t => Tryd.prog.wantsStandIn t == false) = true := by kernel_rfl
  have := List.all_eq_true.1 hall t (by simpa using hm)
  exact beq_iff_eq.1 this

theorem card : Rows.NodesetOperationsCardSaid :=
  Claim7.holds_tied_plain_at .later [] _ _ _ _ said (fun _ h => by cases h) (by kernel_rfl) (fun _ h => by cases h) nodesetOperations_row_tie rfl ⟨rfl, rfl⟩ (by kernel_rfl) rfl plain (by kernel_rfl)
#print axioms card
end Go.Proofs.YtalfjcamjdmdjaaDoor.l02Operations
