/-
  The clock: Parse reads the text of a time as that time.
-/
import Derived.Test.YtcpplebgocbnhaaDoorClockD
namespace Go.Proofs.YtcpplebgocbnhaaDoor
open Go.RowKit

theorem twoD_dig {n : Int} (h0 : 0 ≤ n) (h1 : n < 100) : ∀ c ∈ twoD n, isDig c := by
  intro c hc
  unfold twoD at hc
  rcases List.mem_cons.1 hc with rfl | hc
  · exact dig_is (by omega)
  · rcases List.mem_cons.1 hc with rfl | hc
    · exact dig_is (by omega)
    · cases hc
theorem twoD_val {n : Int} (h0 : 0 ≤ n) (h1 : n < 100) : (valFrom 0 (twoD n) : Int) = n := by
  unfold twoD
  rw [valFrom_cons, valFrom_one, dig_toNat (by omega), dig_toNat (by omega)]
  omega
theorem scale_two {n u : Int} (h0 : 0 ≤ n) (h1 : n < 100) (hu : 0 < u) (hu1 : u ≤ 86400) : scaleOf (twoD n) u = (n * u, true) := by
  have hv := twoD_val h0 h1
  have hm : n * u ≤ 100 * 86400 := Int.mul_le_mul (by omega) hu1 (by omega) (by omega)
  rw [scale_val (twoD_dig h0 h1) (by simp [twoD]) hu (by rw [hv]; omega) (by omega), hv]
theorem scale_dec {n : Nat} {u : Int} (hu : 0 < u) (hv : (n : Int) * u ≤ 4611686018427387904) : scaleOf (Lib.decDigits n) u = (n * u, true) := by
  have h1 : (n : Int) ≤ n * u := by
    have := Int.mul_le_mul_of_nonneg_left (show (1 : Int) ≤ u by omega) (show (0 : Int) ≤ n by omega)
    omega
  rw [scale_val (dec_dig n) (dec_ne n) hu (by rw [val_dec]; exact hv) (by rw [val_dec]; omega), val_dec]
theorem not_mem_dig {l : List UInt8} (h : ∀ c ∈ l, isDig c) {c : UInt8} (hc : ¬ isDig c) : c ∉ l := fun e => hc (h c e)

def tail8 (x : Int) : List UInt8 := twoD (x % 86400 / 3600) ++ [58] ++ twoD (x % 3600 / 60) ++ [58] ++ twoD (x % 60)
theorem text_split {x : Int} (hn : x ≠ 4611686018427387904) : text x = Lib.decDigits (x / 86400).toNat ++ (([100, 32] : List UInt8) ++ tail8 x) := by
  rw [text, if_neg hn, tail8]
  simp only [List.append_assoc]
theorem tail8_size (x : Int) : (bs (tail8 x)).size = 8 := by rw [bs_size]; rfl
theorem tail8_at (x : Int) (a b : Nat) : ((bs (tail8 x)).extract a b).data.toList = ((tail8 x).drop a).take (b - a) := by
  rw [Lib.extract_data, bs_data]
theorem text_ne {x : Int} (hn : x ≠ 4611686018427387904) : text x ≠ neverL := by
  rw [text_split hn]
  intro h
  have hd := dec_dig (x / 86400).toNat
  have hne := dec_ne (x / 86400).toNat
  cases hl : Lib.decDigits (x / 86400).toNat with
  | nil => exact hne hl
  | cons c r =>
    rw [hl] at h hd
    have hc := hd c (by simp)
    rw [neverL, List.cons_append] at h
    have := (List.cons.inj h).1
    subst this
    revert hc
    unfold isDig
    decide

set_option maxRecDepth 100000 in
set_option maxHeartbeats 2000000 in
theorem parse_good (x : Int) (hx : Time x) (w : World) (hr : Ready w) :
    Calls Tryd.prog 17 #[.string (bs (text x))] w fun e w' => e = .returned (.tuple #[.int .i64 x, .int .i64 0]) ∧ Below w.heap.size w w' := by
  by_cases hn : x = 4611686018427387904
  · subst hn
    have hnn : ((bs (text 4611686018427387904)).toList == [110, 101, 118, 101, 114]) = true := by
      rw [toL_bs, beq_iff_eq]
      rfl
    go_enter Tryd.func17, Tryd.ntmps17
    go_wp2_with fail
    go_ret2
    exact ⟨rfl, Below.refl _ _⟩
  · have hb := hx
    unfold Time at hb
    have h0 : 0 ≤ x / 86400 := by omega
    have hnn : ((bs (text x)).toList == [110, 101, 118, 101, 114]) = false := by
      rw [toL_bs, beq_eq_false_iff_ne]
      exact text_ne hn
    have hcut : Lib.cut (bs (text x)).data.toList (⟨#[100, 32]⟩ : ByteArray).data.toList = (Lib.decDigits (x / 86400).toNat, tail8 x, true) := by
      rw [bs_data, text_split hn]
      exact cut_at (not_mem_dig (dec_dig _) (by unfold isDig; decide))
    have hsd : scaleOf (bs (Lib.decDigits (x / 86400).toNat)).data.toList 86400 = (x / 86400 * 86400, true) := by
      rw [bs_data, scale_dec (by omega) (by omega), Int.toNat_of_nonneg h0]
    have hs0 : scaleOf ((bs (tail8 x)).extract 0 2).data.toList 3600 = (x % 86400 / 3600 * 3600, true) := by
      rw [tail8_at]
      exact scale_two (by omega) (by omega) (by omega) (by omega)
    have hs1 : scaleOf ((bs (tail8 x)).extract 3 5).data.toList 60 = (x % 3600 / 60 * 60, true) := by
      rw [tail8_at]
      exact scale_two (by omega) (by omega) (by omega) (by omega)
    have hs2 : scaleOf ((bs (tail8 x)).extract 6 8).data.toList 1 = (x % 60, true) := by
      rw [tail8_at, show (x % 60, true) = (x % 60 * 1, true) by rw [Int.mul_one]]
      exact scale_two (by omega) (by omega) (by omega) (by omega)
    have hdl := dec_len (x / 86400) (by omega)
    have hss : (bs (text x)).size ≤ 1099511627 := by
      rw [bs_size, text_split hn, List.length_append, List.length_append, ← bs_size, ← bs_size (tail8 x), tail8_size]
      simp
      omega
    have hz := tail8_size x
    obtain ⟨S, hS⟩ : ∃ S, S = bs (text x) := ⟨_, rfl⟩
    obtain ⟨R, hR⟩ : ∃ R, R = tail8 x := ⟨_, rfl⟩
    rw [← hS] at hnn hcut hss ⊢
    rw [← hR] at hs0 hs1 hs2 hz hcut
    have HS := Lib.hid hS
    have H0 := Lib.hid hs0
    have H1 := Lib.hid hs1
    have H2 := Lib.hid hs2
    have HD := Lib.hid hsd
    have HC := Lib.hid hcut
    clear hS hR hs0 hs1 hs2 hsd hcut
    go_enter Tryd.func17, Tryd.ntmps17
    go_wp2_with fail
    refine (cut_any S ⟨#[100, 32]⟩ _ R true HC.out hss w hr).mono ?_
    rintro e w1 ⟨rfl, hb1⟩
    have hr1 := hr.below hb1
    have HB1 := Lib.hid hb1
    clear hb1
    go_wp2_with fail
    refine (scale_any (bs (Lib.decDigits (x / 86400).toNat)) (by omega) 86400 (by omega) (by omega) w1 hr1).mono ?_
    rw [HD.out]
    rintro e w2 ⟨rfl, hb2⟩
    have hr2 := hr1.below hb2
    have HB2 := Lib.hid (below_then HB1.out hb2)
    clear hb2 HB1
    go_wp2_with fail
    go_loopw [7, 38] (fun tv i wr => ∃ (k : Nat) (t : Int), k ≤ 3 ∧ i = .int .i64 k ∧ tv = .int .i64 t ∧ t = (if k = 0 then x / 86400 * 86400 else if k = 1 then x / 3600 * 3600 else if k = 2 then x / 60 * 60 else x) ∧ Ready wr ∧ Below w.heap.size w wr) (fun _ i _ => 3 - (intOf i).toNat)
    case atStart => exact ⟨0, x / 86400 * 86400, by omega, rfl, rfl, rfl, hr2.below ((Below.refl _ w2).alloc (Nat.le_refl _) _), HB2.out.alloc HB2.out.size _⟩
    case round =>
      obtain ⟨k, t, hk, rfl, rfl, ht, hrr, hbr⟩ := hrel
      have HBR := Lib.hid hbr
      clear hbr
      have hk4 : k = 0 ∨ k = 1 ∨ k = 2 ∨ k = 3 := by omega
      rcases hk4 with rfl | rfl | rfl | rfl
      · have htx : t = x / 86400 * 86400 := ht
        clear ht
        have hun := unit0 wr
        go_wp2_with fail
        refine (scale_any ((bs R).extract 0 2) (by rw [ByteArray.size_extract]; omega) 3600 (by omega) (by omega) wr hrr).mono ?_
        rw [H0.out]
        rintro e w3 ⟨rfl, hb3⟩
        have hr3 := hrr.below hb3
        have HB3 := Lib.hid (below_then HBR.out hb3)
        clear hb3 HBR
        have HTX := Lib.hid htx
        clear htx
        go_wp2_with fail
        refine (add_any _ _ _).mono ?_
        rintro e w4 ⟨rfl, rfl⟩
        have hpl : plus t (x % 86400 / 3600 * 3600) = x / 3600 * 3600 := by
          have := HTX.out
          unfold plus hold
          omega
        rw [hpl]
        clear hpl
        go_wp2_with fail
        go_roundw
        case rel => exact ⟨1, _, by omega, rfl, rfl, rfl, hr3, HB3.out⟩
        case measure => simp [intOf]
      · have htx : t = x / 3600 * 3600 := ht
        clear ht
        have hun := unit1 wr
        go_wp2_with fail
        refine (scale_any ((bs R).extract 3 5) (by rw [ByteArray.size_extract]; omega) 60 (by omega) (by omega) wr hrr).mono ?_
        rw [H1.out]
        rintro e w3 ⟨rfl, hb3⟩
        have hr3 := hrr.below hb3
        have HB3 := Lib.hid (below_then HBR.out hb3)
        clear hb3 HBR
        have HTX := Lib.hid htx
        clear htx
        go_wp2_with fail
        refine (add_any _ _ _).mono ?_
        rintro e w4 ⟨rfl, rfl⟩
        have hpl : plus t (x % 3600 / 60 * 60) = x / 60 * 60 := by
          have := HTX.out
          unfold plus hold
          omega
        rw [hpl]
        clear hpl
        go_wp2_with fail
        go_roundw
        case rel => exact ⟨2, _, by omega, rfl, rfl, rfl, hr3, HB3.out⟩
        case measure => simp [intOf]
      · have htx : t = x / 60 * 60 := ht
        clear ht
        have hun := unit2 wr
        go_wp2_with fail
        refine (scale_any ((bs R).extract 6 8) (by rw [ByteArray.size_extract]; omega) 1 (by omega) (by omega) wr hrr).mono ?_
        rw [H2.out]
        rintro e w3 ⟨rfl, hb3⟩
        have hr3 := hrr.below hb3
        have HB3 := Lib.hid (below_then HBR.out hb3)
        clear hb3 HBR
        have HTX := Lib.hid htx
        clear htx
        go_wp2_with fail
        refine (add_any _ _ _).mono ?_
        rintro e w4 ⟨rfl, rfl⟩
        have hpl : plus t (x % 60) = x := by
          have := HTX.out
          unfold plus hold
          omega
        rw [hpl]
        clear hpl
        go_wp2_with fail
        go_roundw
        case rel => exact ⟨3, _, by omega, rfl, rfl, rfl, hr3, HB3.out⟩
        case measure => simp [intOf]
      · have htx : t = x := ht
        subst htx
        clear ht
        go_wp2_with fail
        refine (format_any t wr hrr).mono ?_
        rintro e w5 ⟨rfl, hb5⟩
        rw [hold_time hx, ← HS.out]
        have HB5 := Lib.hid (below_then HBR.out hb5)
        clear hb5 HBR
        go_wp2_with fail
        go_ret2
        exact ⟨rfl, HB5.out⟩

end Go.Proofs.YtcpplebgocbnhaaDoor
