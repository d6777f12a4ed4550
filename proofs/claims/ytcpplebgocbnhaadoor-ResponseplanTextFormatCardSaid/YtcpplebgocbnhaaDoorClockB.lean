/-
  The clock: what twoDigits and Format compute, and the reference's two and Text, for all integers.
-/
import Derived.Test.YtcpplebgocbnhaaDoorClockA
namespace Go.Proofs.YtcpplebgocbnhaaDoor
open Go.RowKit

def neverL : List UInt8 := [110, 101, 118, 101, 114]
def twoD (n : Int) : List UInt8 := [UInt8.ofNat (48 + (n / 10).toNat), UInt8.ofNat (48 + (n % 10).toNat)]
/-- the text of a time between 0 and 2^62. -/
def text (x : Int) : List UInt8 :=
  if x = 4611686018427387904 then neverL else Lib.decDigits (x / 86400).toNat ++ [100, 32] ++ twoD (x % 86400 / 3600) ++ [58] ++ twoD (x % 3600 / 60) ++ [58] ++ twoD (x % 60)

theorem itoa_dec {n : Int} (h : 0 ≤ n) : Lib.itoa n = Lib.decDigits n.toNat := by
  have := Lib.itoa_nonneg n.toNat
  rwa [Int.toNat_of_nonneg h] at this
theorem twoD_size (n : Int) : (bs (twoD n)).size = 2 := by rw [bs_size]; rfl

theorem twoDigits_any (n : Int) (h0 : 0 ≤ n) (h1 : n < 100) (w : World) (hr : Ready w) : Calls Tryd.prog 35 #[.int .i64 n] w fun e w' => e = .returned (.string (bs (twoD n))) ∧ Below w.heap.size w w' := by
  by_cases h : n < 10
  · go_enter Tryd.func35, Tryd.ntmps35
    go_wp2_with fail
    refine (formatInt_any n (by omega) (by omega) _ hr).mono ?_
    rintro e w1 ⟨rfl, hb1⟩
    have HB1 := Lib.hid hb1
    clear hb1
    rw [itoa_dec h0]
    have l1 := dec_len n (by omega)
    go_wp2_with fail
    go_ret
    refine ⟨ret_str ?_, HB1.out⟩
    show bs [48] ++ bs _ = _
    rw [bs_append, dec_small (by omega), twoD, show (n / 10).toNat = 0 by omega, show (n % 10).toNat = n.toNat by omega]
    rfl
  · go_enter Tryd.func35, Tryd.ntmps35
    go_wp2_with fail
    refine (formatInt_any n (by omega) (by omega) _ hr).mono ?_
    rintro e w1 ⟨rfl, hb1⟩
    have HB1 := Lib.hid hb1
    clear hb1
    rw [itoa_dec h0]
    go_wp2_with fail
    go_ret
    refine ⟨ret_str ?_, HB1.out⟩
    show bs _ = _
    rw [dec_big (by omega), dec_small (n := n.toNat / 10) (by omega), twoD, show (n / 10).toNat = n.toNat / 10 by omega, show (n % 10).toNat = n.toNat % 10 by omega]
    rfl

theorem two_any (n : Int) (h0 : 0 ≤ n) (h1 : n < 100) (w : World) : Calls Tryd.prog 39 #[.int .i64 n] w fun e w' => e = .returned (.string (bs (twoD n))) ∧ Below w.heap.size w w' := by
  go_enter Tryd.func39, Tryd.ntmps39
  go_wp2_with fail
  refine (num_any (n / 10) (by omega) (by omega) _).mono ?_
  rintro e w1 ⟨rfl, hb1⟩
  have HB1 := Lib.hid hb1
  clear hb1
  go_wp2_with fail
  refine (num_any (n % 10) (by omega) (by omega) _).mono ?_
  rintro e w2 ⟨rfl, hb2⟩
  have HB2 := Lib.hid hb2
  clear hb2
  have l1 := dec_len (n / 10) (by omega)
  have l2 := dec_len (n % 10) (by omega)
  go_wp2_with fail
  go_ret
  refine ⟨ret_str ?_, below_then HB1.out HB2.out⟩
  show bs _ ++ bs _ = _
  rw [bs_append, dec_small (n := (n / 10).toNat) (by omega), dec_small (n := (n % 10).toNat) (by omega), twoD]
  rfl

set_option maxHeartbeats 1000000 in
theorem format_any (t : Int) (w : World) (hr : Ready w) : Calls Tryd.prog 16 #[.int .i64 t] w fun e w' => e = .returned (.string (bs (text (hold t)))) ∧ Below w.heap.size w w' := by
  go_enter Tryd.func16, Tryd.ntmps16
  go_wp2_with fail
  refine (clamp_any _ _).mono ?_
  rintro e w' ⟨rfl, rfl⟩
  have a0 := hold_ge t
  have a1 := hold_le t
  obtain ⟨x, hx⟩ : ∃ x, x = hold t := ⟨_, rfl⟩
  rw [← hx] at a0 a1 ⊢
  have HX := Lib.hid hx
  clear hx
  by_cases hn : x = 4611686018427387904
  · subst hn
    go_wp2_with fail
    go_ret
    exact ⟨ret_str (by rw [← HX.out]; rfl), Below.refl _ _⟩
  · go_wp2_with fail
    refine (formatInt_any (x / 86400) (by omega) (by omega) _ hr).mono ?_
    rintro e w1 ⟨rfl, hb1⟩
    have hr1 := hr.below hb1
    have HB1 := Lib.hid hb1
    clear hb1
    rw [itoa_dec (show 0 ≤ x / 86400 by omega)]
    have l1 := dec_len (x / 86400) (by omega)
    go_wp2_with fail
    refine (twoDigits_any (x % 86400 / 3600) (by omega) (by omega) _ hr1).mono ?_
    rintro e w2 ⟨rfl, hb2⟩
    have hr2 := hr1.below hb2
    have HB2 := Lib.hid (below_then HB1.out hb2)
    clear hb2 HB1
    have l2 := twoD_size (x % 86400 / 3600)
    go_wp2_with fail
    refine (twoDigits_any (x % 3600 / 60) (by omega) (by omega) _ hr2).mono ?_
    rintro e w3 ⟨rfl, hb3⟩
    have hr3 := hr2.below hb3
    have HB3 := Lib.hid (below_then HB2.out hb3)
    clear hb3 HB2
    have l3 := twoD_size (x % 3600 / 60)
    go_wp2_with fail
    refine (twoDigits_any (x % 60) (by omega) (by omega) _ hr3).mono ?_
    rintro e w4 ⟨rfl, hb4⟩
    have HB4 := Lib.hid (below_then HB3.out hb4)
    clear hb4 HB3
    have l4 := twoD_size (x % 60)
    go_wp2_with fail
    go_ret
    refine ⟨ret_str ?_, HB4.out⟩
    show bs _ ++ bs [100, 32] ++ bs _ ++ bs [58] ++ bs _ ++ bs [58] ++ bs _ = _
    simp only [bs_append]
    rw [← HX.out, text, if_neg hn]

set_option maxHeartbeats 1000000 in
theorem text_any (t : Int) (w : World) : Calls Tryd.prog 18 #[.int .i64 t] w fun e w' => e = .returned (.string (bs (text (hold t)))) ∧ Below w.heap.size w w' := by
  go_enter Tryd.func18, Tryd.ntmps18
  go_wp2_with fail
  refine (hold_any _ _).mono ?_
  rintro e w' ⟨rfl, rfl⟩
  have a0 := hold_ge t
  have a1 := hold_le t
  obtain ⟨x, hx⟩ : ∃ x, x = hold t := ⟨_, rfl⟩
  rw [← hx] at a0 a1 ⊢
  have HX := Lib.hid hx
  clear hx
  go_wp2_with fail
  refine (never_any _).mono ?_
  rintro e w' ⟨rfl, rfl⟩
  by_cases hn : x = 4611686018427387904
  · subst hn
    go_wp2_with fail
    go_ret
    exact ⟨ret_str (by rw [← HX.out]; rfl), Below.refl _ _⟩
  · go_wp2_with fail
    refine (num_any (x / 86400) (by omega) (by omega) _).mono ?_
    rintro e w1 ⟨rfl, hb1⟩
    have HB1 := Lib.hid hb1
    clear hb1
    have l1 := dec_len (x / 86400) (by omega)
    go_wp2_with fail
    refine (two_any (x % 86400 / 3600) (by omega) (by omega) _).mono ?_
    rintro e w2 ⟨rfl, hb2⟩
    have HB2 := Lib.hid (below_then HB1.out hb2)
    clear hb2 HB1
    have l2 := twoD_size (x % 86400 / 3600)
    go_wp2_with fail
    refine (two_any (x % 3600 / 60) (by omega) (by omega) _).mono ?_
    rintro e w3 ⟨rfl, hb3⟩
    have HB3 := Lib.hid (below_then HB2.out hb3)
    clear hb3 HB2
    have l3 := twoD_size (x % 3600 / 60)
    go_wp2_with fail
    refine (two_any (x % 60) (by omega) (by omega) _).mono ?_
    rintro e w4 ⟨rfl, hb4⟩
    have HB4 := Lib.hid (below_then HB3.out hb4)
    clear hb4 HB3
    have l4 := twoD_size (x % 60)
    go_wp2_with fail
    go_ret
    refine ⟨ret_str ?_, HB4.out⟩
    show bs _ ++ bs [100, 32] ++ bs _ ++ bs [58] ++ bs _ ++ bs [58] ++ bs _ = _
    simp only [bs_append]
    rw [← HX.out, text, if_neg hn]

end Go.Proofs.YtcpplebgocbnhaaDoor
