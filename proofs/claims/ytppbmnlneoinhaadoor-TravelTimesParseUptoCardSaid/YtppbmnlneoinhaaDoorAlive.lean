/-
  samaritanlaw08.alive: the chapter's example.
-/
import Derived.Test.YtppbmnlneoinhaaDoorFmtD
import Derived.Test.YtppbmnlneoinhaaDoorAppB
import Derived.Test.YtppbmnlneoinhaaDoorAt
namespace Go.Proofs.YtppbmnlneoinhaaDoor
open Go.RowKit Go.Maps

def alE : List EdgeT := [⟨0, 1, 5⟩]
def alC1 : ChgT := ⟨10, 0, 4611686018427387904⟩
def alC2 : ChgT := ⟨20, 0, 7⟩
theorem al_err1 : errC 1 [] alC1 = 0 := by decide
theorem al_put1 : putL 1 [] alC1 = [alC1] := putL_ok al_err1
theorem al_err2 : errC 1 [alC1] alC2 = 0 := by decide
theorem al_put2 : putL 1 [alC1] alC2 = [alC1, alC2] := putL_ok al_err2
theorem al_at1 : atE alE [alC1, alC2] 0 9 = 5 := by decide
theorem al_at2 : atE alE [alC1, alC2] 0 10 = 4611686018427387904 := by decide
theorem al_at3 : atE alE [alC1, alC2] 0 20 = 7 := by decide
theorem itoa_10 : Lib.itoa 10 = [49, 48] := by decide +kernel
theorem itoa_20 : Lib.itoa 20 = [50, 48] := by decide +kernel
theorem itoa_0 : Lib.itoa 0 = [48] := by decide +kernel
theorem itoa_7 : Lib.itoa 7 = [55] := by decide +kernel
theorem al_text : bs (textC [alC1, alC2]) = ⟨#[49, 48, 32, 48, 32, 99, 108, 111, 115, 101, 100, 10, 50, 48, 32, 48, 32, 55, 10]⟩ := by
  have h1 : timeText 4611686018427387904 = [99, 108, 111, 115, 101, 100] := if_pos rfl
  have h2 : timeText 7 = [55] := (if_neg (by decide)).trans itoa_7
  unfold textC
  simp only [List.flatMap_cons, List.flatMap_nil, lineC, alC1, alC2, itoa_10, itoa_20, itoa_0, h1, h2]
  rfl
theorem al_edges (w : World) : EdgesAt (w.alloc (.cells #[.int .i64 0, .int .i64 1, .int .i64 5] 53)) (w.alloc (.cells #[.int .i64 0, .int .i64 1, .int .i64 5] 53)).heap.size (some ⟨w.heap.size, 0, none⟩) alE := Sl.lit w [.int .i64 0, .int .i64 1, .int .i64 5] 53 rfl

set_option maxRecDepth 100000 in
set_option maxHeartbeats 2000000 in
theorem alive_any (w : World) (hr : Ready w) : Calls Tryd.prog 6 #[] w fun e w' => e = .returned (.bool true) ∧ Below w.heap.size w w' := by
  obtain ⟨W, hW⟩ : ∃ W, W = w.alloc (.cells #[.int .i64 0, .int .i64 1, .int .i64 5] 53) := ⟨_, rfl⟩
  have hb0 : Below w.heap.size w W := by rw [hW]; exact (Below.refl _ _).alloc (Nat.le_refl _) _
  have hed := al_edges w
  rw [← hW] at hed
  have hnew := new_any 2 (some ⟨w.heap.size, 0, none⟩) 1 alE W (by omega) (by omega) (by decide) hed (fun h => by cases h) (by
    intro e he
    have : e = ⟨0, 1, 5⟩ := by simpa [alE] using he
    subst this
    unfold validE
    dsimp only
    omega)
  have HNEW := Lib.hid hnew
  have HW := Lib.hid hW
  have HB0 := Lib.hid hb0
  have HR := Lib.hid hr
  clear hW hb0 hed hnew hr
  go_enter Tryd.func6, Tryd.ntmps6
  go_wp2_with fail
  rw [← HW.out]
  refine HNEW.out.mono ?_
  rintro e w1 ⟨gp, rfl, hg, _, hb1⟩
  have HG := Lib.hid hg
  have HB1 := Lib.hid (HB0.out.trans (hb1.mono HB0.out.size))
  clear hg hb1
  go_wp2_with fail
  refine (newT_any w1 gp 2 alE HG.out (by decide)).mono ?_
  rintro e w2 ⟨rfl, ht2, hb2⟩
  have HT2 := Lib.hid ht2
  have HB2 := Lib.hid (HB1.out.trans (hb2.mono HB1.out.size))
  have hB1 : w.heap.size ≤ w1.heap.size := HB1.out.size
  clear ht2 hb2
  go_wp2_with fail
  refine (append_any HT2.out alC1 (by decide)).mono ?_
  rintro e w3 ⟨he, F3, ht3, h3, hF3, _⟩
  have he : e = .returned (.int .i64 0) := by rw [he]; exact congrArg (fun z => Ending.returned (.int .i64 z)) al_err1
  subst he
  have HT3 := Lib.hid (show TabAt w3 w1.heap.size gp 2 alE (w1.heap.size + 1) w1.heap.size F3 [alC1] from ht3)
  have HB3 := Lib.hid (HB2.out.trans (h3.below (B := w.heap.size) (Nat.le_trans hB1 (by have := HT2.out.size; omega)) (fun b hb => Nat.le_trans hB1 (HT2.out.lt hb).1)))
  clear ht3 h3 hF3
  go_wp2_with fail
  refine (append_any HT3.out alC2 (by decide)).mono ?_
  rintro e w4 ⟨he, F4, ht4, h4, hF4, _⟩
  have he : e = .returned (.int .i64 0) := by rw [he]; exact congrArg (fun z => Ending.returned (.int .i64 z)) al_err2
  subst he
  have HT4 := Lib.hid (show TabAt w4 w1.heap.size gp 2 alE (w1.heap.size + 1) w1.heap.size F4 [alC1, alC2] from ht4)
  have HB4 := Lib.hid (HB3.out.trans (h4.below (B := w.heap.size) (Nat.le_trans hB1 (by have := HT3.out.size; omega)) (fun b hb => Nat.le_trans hB1 (HT3.out.lt hb).1)))
  clear ht4 h4 hF4
  go_wp2_with fail
  have c5 := at_any HT4.out (by decide) 0 9
  rw [al_at1] at c5
  refine c5.mono ?_
  clear c5
  rintro e w5 ⟨rfl, hb5⟩
  have HT5 := Lib.hid (HT4.out.below hb5)
  have HB5 := Lib.hid (HB4.out.trans (hb5.mono HB4.out.size))
  clear hb5
  go_wp2_with fail
  have c6 := at_any HT5.out (by decide) 0 10
  rw [al_at2] at c6
  refine c6.mono ?_
  clear c6
  rintro e w6 ⟨rfl, hb6⟩
  have HT6 := Lib.hid (HT5.out.below hb6)
  have HB6 := Lib.hid (HB5.out.trans (hb6.mono HB5.out.size))
  clear hb6
  go_wp2_with fail
  have c7 := at_any HT6.out (by decide) 0 20
  rw [al_at3] at c7
  refine c7.mono ?_
  clear c7
  rintro e w7 ⟨rfl, hb7⟩
  have HT7 := Lib.hid (HT6.out.below hb7)
  have HB7 := Lib.hid (HB6.out.trans (hb7.mono HB6.out.size))
  clear hb7
  go_wp2_with fail
  have c8 := format_any HT7.out (by decide) (by decide) (HR.out.below HB7.out)
  rw [al_text] at c8
  refine c8.mono ?_
  clear c8
  rintro e w8 ⟨rfl, hb8⟩
  have HB8 := Lib.hid (HB7.out.trans (hb8.mono HB7.out.size))
  clear hb8
  go_wp2_with fail
  go_ret
  exact ⟨ret_bool (by first | rfl | simp), HB8.out⟩
end Go.Proofs.YtppbmnlneoinhaaDoor
