/-
  The reference's Parse reads the text of a time as that time, and no other text.
-/
import Derived.Test.YtcpplebgocbnhaaDoorRefP
namespace Go.Proofs.YtcpplebgocbnhaaDoor
open Go.RowKit Go.Maps

theorem days_digits : ∀ (l : List UInt8) (n : Nat), (∀ c ∈ l, isDig c) → valFrom n l ≤ 100000000000000 → daysFrom n l = some (valFrom n l : Int)
  | [], n, _, _ => by rw [valFrom_nil]; rfl
  | c :: l, n, hd, hv => by
    have hc := hd c (by simp)
    unfold isDig at hc
    rw [valFrom_cons] at hv ⊢
    have hg := valFrom_ge l (n * 10 + (c.toNat - 48))
    rw [daysFrom, if_neg (by omega)]
    have e : (10 * (n : Int) + c.toNat - 48) = ((n * 10 + (c.toNat - 48) : Nat) : Int) := by omega
    rw [e]
    exact days_digits l _ (fun x hx => hd x (by simp [hx])) hv

theorem sec_step {s b : Int} {bl : List Int} {c : UInt8} {r : List UInt8} {d : Nat} (hd : d < 10) (hc : c.toNat = 48 + d) : secFrom s (b :: bl) (c :: r) = secFrom (s + b * d) bl r := by
  rw [secFrom, if_neg (by omega), hc]
  have e : ((48 + d : Nat) : Int) - 48 = d := by omega
  rw [e]
theorem sec_gap {s : Int} {bl : List Int} {c : UInt8} {r : List UInt8} : secFrom s (0 :: bl) (c :: r) = secFrom s bl r := by
  rw [secFrom, if_neg (by omega), Int.zero_mul, Int.add_zero]
theorem sec_six (a b c d e f : Nat) (ha : a < 10) (hb : b < 10) (hc : c < 10) (hd : d < 10) (he : e < 10) (hf : f < 10) (s : Int) (hs : s = 36000 * a + 3600 * b + 600 * c + 60 * d + 10 * e + f) :
    secFrom 0 byL [UInt8.ofNat (48 + a), UInt8.ofNat (48 + b), 58, UInt8.ofNat (48 + c), UInt8.ofNat (48 + d), 58, UInt8.ofNat (48 + e), UInt8.ofNat (48 + f)] = some s := by
  unfold byL
  rw [sec_step ha (dig_toNat ha), sec_step hb (dig_toNat hb), sec_gap, sec_step hc (dig_toNat hc), sec_step hd (dig_toNat hd), sec_gap, sec_step he (dig_toNat he), sec_step hf (dig_toNat hf)]
  show some _ = some s
  congr 1
  omega

theorem sec_tail (x : Int) : secFrom 0 byL (tail8 x) = some (x % 86400) := by
  have e : tail8 x = [UInt8.ofNat (48 + (x % 86400 / 3600 / 10).toNat), UInt8.ofNat (48 + (x % 86400 / 3600 % 10).toNat), 58, UInt8.ofNat (48 + (x % 3600 / 60 / 10).toNat), UInt8.ofNat (48 + (x % 3600 / 60 % 10).toNat), 58, UInt8.ofNat (48 + (x % 60 / 10).toNat), UInt8.ofNat (48 + (x % 60 % 10).toNat)] := rfl
  rw [e]
  apply sec_six <;> omega

theorem clock_text {x : Int} (h : Time x) (hn : x ≠ 4611686018427387904) : clockOf (text x) = x := by
  unfold Time at h
  have hd := dec_length (x / 86400) (by omega)
  have hne : 0 < (Lib.decDigits (x / 86400).toNat).length := List.length_pos_iff.2 (dec_ne _)
  have hl : (text x).length = (Lib.decDigits (x / 86400).toNat).length + 10 := by
    rw [text_split hn, List.length_append]
    rfl
  have h1 : (text x).take ((text x).length - 10) = Lib.decDigits (x / 86400).toNat := by
    rw [hl, text_split hn]
    exact List.take_left' (by omega)
  have h2 : (text x).drop ((text x).length - 8) = tail8 x := by
    rw [hl, text_split hn, ← List.append_assoc]
    exact List.drop_left' (by rw [List.length_append]; show _ + 2 = _; omega)
  have h3 := days_digits (Lib.decDigits (x / 86400).toNat) 0 (dec_dig _) (by rw [val_dec]; omega)
  rw [val_dec] at h3
  unfold clockOf
  rw [if_neg (by omega), h1, h2]
  rw [show daysFrom 0 (Lib.decDigits (x / 86400).toNat) = some ((x / 86400).toNat : Int) from h3, sec_tail x]
  simp only
  rw [Int.toNat_of_nonneg (by omega), worth_fits (by omega) (by omega) (by omega)]
  omega

set_option maxHeartbeats 400000 in
theorem parseR_good (x : Int) (hx : Time x) (w : World) :
    Calls Tryd.prog 20 #[.string (bs (text x))] w fun e w' => e = .returned (.tuple #[.int .i64 x, .int .i64 0]) ∧ Below w.heap.size w w' := by
  by_cases hn : x = 4611686018427387904
  · subst hn
    have hnn : ((bs (text 4611686018427387904)).toList == [110, 101, 118, 101, 114]) = true := by
      rw [toL_bs, beq_iff_eq]
      rfl
    go_enter Tryd.func20, Tryd.ntmps20
    go_wp2_with fail
    refine (never_any _).mono ?_
    rintro e w' ⟨rfl, rfl⟩
    go_wp2_with fail
    go_ret2
    exact ⟨rfl, Below.refl _ _⟩
  · have hb := hx
    unfold Time at hb
    have hnn : ((bs (text x)).toList == [110, 101, 118, 101, 114]) = false := by
      rw [toL_bs, beq_eq_false_iff_ne]
      exact text_ne hn
    have hd := dec_length (x / 86400) (by omega)
    have hsz : (bs (text x)).size ≤ 1099511627 := by
      rw [bs_size, text_split hn, List.length_append]
      have : (([100, 32] : List UInt8) ++ tail8 x).length = 10 := rfl
      omega
    go_enter Tryd.func20, Tryd.ntmps20
    go_wp2_with fail
    refine (clock_any _ hsz _).mono ?_
    rw [bs_data, clock_text hx hn]
    rintro e w1 ⟨rfl, hb1⟩
    have HB1 := Lib.hid hb1
    clear hb1
    go_wp2_with fail
    refine (text_any x _).mono ?_
    rw [hold_time hx]
    rintro e w2 ⟨rfl, hb2⟩
    have HB2 := Lib.hid (below_then HB1.out hb2)
    clear hb2
    have hq : ((bs (text x)).toList != (bs (text x)).toList) = false := by simp
    go_wp2_with fail
    go_ret2
    exact ⟨rfl, HB2.out⟩

set_option maxHeartbeats 400000 in
theorem parseR_bad (s : ByteArray) (hs : s.size ≤ 1099511627) (hno : ∀ x, Time x → bs (text x) ≠ s) (w : World) :
    Calls Tryd.prog 20 #[.string s] w fun e w' => e = .returned (.tuple #[.int .i64 0, .int .i64 2]) ∧ Below w.heap.size w w' := by
  have hn : (s.toList == [110, 101, 118, 101, 114]) = false := by
    rw [beq_eq_false_iff_ne]
    exact fun e => hno 4611686018427387904 (by unfold Time; omega) (toL_inj ((toL_bs _).trans e.symm))
  have HNO := Lib.hid hno
  clear hno
  go_enter Tryd.func20, Tryd.ntmps20
  go_wp2_with fail
  refine (clock_any s hs _).mono ?_
  obtain ⟨d, hd⟩ : ∃ d, d = clockOf s.data.toList := ⟨_, rfl⟩
  rw [← hd]
  clear hd
  rintro e w1 ⟨rfl, hb1⟩
  have HB1 := Lib.hid hb1
  clear hb1
  by_cases h0 : d < 0
  · go_wp2_with fail
    go_ret2
    exact ⟨rfl, HB1.out⟩
  · go_wp2_with fail
    refine (text_any d _).mono ?_
    rintro e w2 ⟨rfl, hb2⟩
    have HB2 := Lib.hid (below_then HB1.out hb2)
    clear hb2
    have hq : ((bs (text (hold d))).toList == s.toList) = false := by
      rw [beq_eq_false_iff_ne]
      exact fun e => HNO.out (hold d) ⟨hold_ge d, hold_le d⟩ (toL_inj e)
    have hq2 : ((bs (text (hold d))).toList != s.toList) = true := by rw [bne, hq]; rfl
    go_wp2_with fail
    go_ret2
    exact ⟨rfl, HB2.out⟩

end Go.Proofs.YtcpplebgocbnhaaDoor
