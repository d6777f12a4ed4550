/-
  samaritanlaw01.awake returns true in every world that is ready.
-/
import Derived.Test.YtcpplebgocbnhaaDoorParseE
namespace Go.Proofs.YtcpplebgocbnhaaDoor
open Go.RowKit Go.Maps

theorem text_183845 : bs (text 183845) = ⟨#[50, 100, 32, 48, 51, 58, 48, 52, 58, 48, 53]⟩ := by
  rw [text, if_neg (by decide), show ((183845 : Int) / 86400).toNat = 2 by decide, dec_small (by decide)]
  rfl
theorem text_0 : bs (text 0) = ⟨#[48, 100, 32, 48, 48, 58, 48, 48, 58, 48, 48]⟩ := by
  rw [text, if_neg (by decide), show ((0 : Int) / 86400).toNat = 0 by decide, dec_small (by decide)]
  rfl
theorem span_3723 : bs (span 3723) = ⟨#[49, 104, 32, 50, 109, 32, 51, 115]⟩ := by
  rw [span, if_neg (by decide), parts, if_pos (by decide), if_pos (by decide), if_pos (by decide), show ((3723 : Int) / 3600).toNat = 1 by decide, show ((3723 : Int) % 3600 / 60).toNat = 2 by decide, show ((3723 : Int) % 60).toNat = 3 by decide,
    dec_small (n := 1) (by decide), dec_small (n := 2) (by decide), dec_small (n := 3) (by decide)]
  rfl
theorem span_7200 : bs (span 7200) = ⟨#[50, 104]⟩ := by
  rw [span, if_neg (by decide), parts, if_pos (by decide), if_neg (by decide), if_neg (by decide), show ((7200 : Int) / 3600).toNat = 2 by decide, dec_small (by decide)]
  rfl
theorem span_0 : bs (span 0) = ⟨#[48, 115]⟩ := by
  rw [span, if_neg (by decide), parts, if_neg (by decide), if_neg (by decide), if_pos (by decide), show ((0 : Int) % 60).toNat = 0 by decide, dec_small (by decide)]
  rfl
theorem span_never : bs (span 4611686018427387904) = ⟨#[110, 101, 118, 101, 114]⟩ := rfl
theorem short_not (x : Int) : bs (text x) ≠ ⟨#[50, 100, 32, 51, 58, 48, 52, 58, 48, 53]⟩ := by
  intro e
  have h := congrArg ByteArray.size e
  rw [bs_size] at h
  by_cases hn : x = 4611686018427387904
  · rw [hn] at h
    exact absurd h (by decide)
  · have hl := List.length_pos_iff.2 (dec_ne (x / 86400).toNat)
    rw [text_split hn, List.length_append, List.length_append, ← bs_size (tail8 x), tail8_size] at h
    have h2 : (⟨#[50, 100, 32, 51, 58, 48, 52, 58, 48, 53]⟩ : ByteArray).size = 10 := rfl
    rw [h2] at h
    simp only [List.length_cons, List.length_nil] at h
    omega
theorem hold_c (x : Int) (h : 0 ≤ x ∧ x ≤ 4611686018427387904) : hold x = x := hold_time h

set_option maxRecDepth 100000 in
set_option maxHeartbeats 2000000 in
theorem awake_any (w : World) (hr : Ready w) : Calls Tryd.prog 11 #[] w fun e w' => e = .returned (.bool true) ∧ Below w.heap.size w w' := by
  have p1 : plus 4611686018427387904 1 = 4611686018427387904 := by decide
  have p2 : plus (-5) 7 = 7 := by decide
  have p3 : since 9 4 = 5 := by decide
  have p4 : since 4 9 = 0 := by decide
  have q1 : hold 183845 = 183845 := by decide
  have q2 : hold 3723 = 3723 := by decide
  have q3 : hold 7200 = 7200 := by decide
  have q4 : hold 0 = 0 := by decide
  have q5 : hold (-1) = 0 := by decide
  go_enter Tryd.func11, Tryd.ntmps11
  go_wp2_with fail
  have c1 := parse_good 183845 (by unfold Time; omega) w hr
  rw [text_183845] at c1
  refine c1.mono ?_
  clear c1
  rintro e w1 ⟨rfl, hb1⟩
  have hr1 := hr.below hb1
  have HB1 := Lib.hid hb1
  clear hb1
  go_wp2_with fail
  have c2 := parseD_good 3723 (by unfold Time; omega) w1 hr1
  rw [span_3723] at c2
  refine c2.mono ?_
  clear c2
  rintro e w2 ⟨rfl, hb⟩
  have hr2 := hr1.below hb
  have HB2 := Lib.hid (below_then HB1.out hb)
  clear hb HB1
  go_wp2_with fail
  refine (parse_bad ⟨#[50, 100, 32, 51, 58, 48, 52, 58, 48, 53]⟩ (by decide) (fun x _ => short_not x) w2 hr2).mono ?_
  rintro e w3 ⟨rfl, hb⟩
  have hr3 := hr2.below hb
  have HB3 := Lib.hid (below_then HB2.out hb)
  clear hb HB2
  go_wp2_with fail
  have c4 := parseD_good 4611686018427387904 (by unfold Time; omega) w3 hr3
  rw [span_never] at c4
  refine c4.mono ?_
  clear c4
  rintro e w4 ⟨rfl, hb⟩
  have hr4 := hr3.below hb
  have HB4 := Lib.hid (below_then HB3.out hb)
  clear hb HB3
  go_wp2_with fail
  refine (add_any _ _ _).mono ?_
  rintro e w' ⟨rfl, rfl⟩
  rw [p1]
  go_wp2_with fail
  refine (add_any _ _ _).mono ?_
  rintro e w' ⟨rfl, rfl⟩
  rw [p2]
  go_wp2_with fail
  refine (elapsed_any _ _ _).mono ?_
  rintro e w' ⟨rfl, rfl⟩
  rw [p3]
  go_wp2_with fail
  refine (elapsed_any _ _ _).mono ?_
  rintro e w' ⟨rfl, rfl⟩
  rw [p4]
  go_wp2_with fail
  have c5 := format_any 183845 w' hr4
  rw [q1, text_183845] at c5
  refine c5.mono ?_
  clear c5
  rintro e w5 ⟨rfl, hb⟩
  have hr5 := hr4.below hb
  have HB5 := Lib.hid (below_then HB4.out hb)
  clear hb HB4
  go_wp2_with fail
  have c6 := formatDuration_any 3723 w5 hr5
  rw [q2, span_3723] at c6
  refine c6.mono ?_
  clear c6
  rintro e w6 ⟨rfl, hb⟩
  have hr6 := hr5.below hb
  have HB6 := Lib.hid (below_then HB5.out hb)
  clear hb HB5
  go_wp2_with fail
  have c7 := formatDuration_any 7200 w6 hr6
  rw [q3, span_7200] at c7
  refine c7.mono ?_
  clear c7
  rintro e w7 ⟨rfl, hb⟩
  have hr7 := hr6.below hb
  have HB7 := Lib.hid (below_then HB6.out hb)
  clear hb HB6
  go_wp2_with fail
  have c8 := formatDuration_any 0 w7 hr7
  rw [q4, span_0] at c8
  refine c8.mono ?_
  clear c8
  rintro e w8 ⟨rfl, hb⟩
  have hr8 := hr7.below hb
  have HB8 := Lib.hid (below_then HB7.out hb)
  clear hb HB7
  go_wp2_with fail
  have c9 := format_any (-1) w8 hr8
  rw [q5, text_0] at c9
  refine c9.mono ?_
  clear c9
  rintro e w9 ⟨rfl, hb⟩
  have HB9 := Lib.hid (below_then HB8.out hb)
  clear hb HB8
  go_wp2_with fail
  go_ret
  exact ⟨rfl, HB9.out⟩

end Go.Proofs.YtcpplebgocbnhaaDoor
