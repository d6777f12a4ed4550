/-
  The reference's Length reads the text of a duration as that duration, and no other text.
-/
import Derived.Test.YtcpplebgocbnhaaDoorRefD
namespace Go.Proofs.YtcpplebgocbnhaaDoor
open Go.RowKit Go.Maps

theorem read_digits : ∀ (l : List UInt8) (sum : Int) (n : Nat) (r : List UInt8), (∀ c ∈ l, isDig c) → valFrom n l ≤ 1000000000000000000 → readFrom sum n (l ++ r) = readFrom sum (valFrom n l) r
  | [], sum, n, r, _, _ => by rw [valFrom_nil]; rfl
  | c :: l, sum, n, r, hd, hv => by
    have hc := hd c (by simp)
    unfold isDig at hc
    rw [valFrom_cons] at hv ⊢
    have hg := valFrom_ge l (n * 10 + (c.toNat - 48))
    rw [List.cons_append, readFrom, if_pos hc, if_neg (by omega)]
    have e : (10 * (n : Int) + c.toNat - 48) = ((n * 10 + (c.toNat - 48) : Nat) : Int) := by omega
    rw [e]
    exact read_digits l sum _ r (fun x hx => hd x (by simp [hx])) hv

theorem read_dec (n sum : Int) (h0 : 0 ≤ n) (h1 : n ≤ 1000000000000000000) (r : List UInt8) : readFrom sum 0 (Lib.decDigits n.toNat ++ r) = readFrom sum n r := by
  have := read_digits (Lib.decDigits n.toNat) sum 0 r (dec_dig _) (by rw [val_dec]; omega)
  rw [val_dec, Int.toNat_of_nonneg h0] at this
  exact this

theorem read_h (sum n : Int) (r : List UInt8) : readFrom sum n (104 :: r) = readFrom (worthOf sum 3600 n) 0 r := by
  rw [readFrom, if_neg (by decide), if_pos (by decide)]
theorem read_m (sum n : Int) (r : List UInt8) : readFrom sum n (109 :: r) = readFrom (worthOf sum 60 n) 0 r := by
  rw [readFrom, if_neg (by decide), if_neg (by decide), if_pos (by decide)]
theorem read_s (sum n : Int) (r : List UInt8) : readFrom sum n (115 :: r) = readFrom (worthOf sum 1 n) 0 r := by
  rw [readFrom, if_neg (by decide), if_neg (by decide), if_neg (by decide), if_pos (by decide)]
theorem read_b (sum n : Int) (r : List UInt8) : readFrom sum n (32 :: r) = readFrom sum n r := by
  rw [readFrom, if_neg (by decide), if_neg (by decide), if_neg (by decide), if_neg (by decide)]
theorem read_e (sum n : Int) : readFrom sum n [] = sum := rfl

theorem read_parts {x : Int} (h : Time x) (hn : x ≠ 4611686018427387904) : readFrom 0 0 (span x) = x := by
  unfold Time at h
  rw [span, if_neg hn]
  have pl : ∀ sum u n : Int, 0 < u → 0 ≤ sum → sum + u * n ≤ 4611686018427387904 → worthOf sum u n = sum + u * n := fun _ _ _ a b c => worth_fits a b c
  unfold parts
  split <;> split <;> split <;> simp only [List.nil_append, List.append_nil, List.cons_append, Lib.join_cons, Lib.joinTail, List.map_cons, List.map_nil, List.flatten_cons, List.flatten_nil, List.append_assoc, Lib.join_nil]
  · rw [read_dec _ _ (by omega) (by omega), read_h, pl 0 _ _ (by omega) (by omega) (by omega), read_b, read_dec _ _ (by omega) (by omega), read_m, pl _ _ _ (by omega) (by omega) (by omega), read_b, read_dec _ _ (by omega) (by omega), read_s, pl _ _ _ (by omega) (by omega) (by omega), read_e]
    omega
  · rw [read_dec _ _ (by omega) (by omega), read_h, pl 0 _ _ (by omega) (by omega) (by omega), read_b, read_dec _ _ (by omega) (by omega), read_m, pl _ _ _ (by omega) (by omega) (by omega), read_e]
    omega
  · rw [read_dec _ _ (by omega) (by omega), read_h, pl 0 _ _ (by omega) (by omega) (by omega), read_b, read_dec _ _ (by omega) (by omega), read_s, pl _ _ _ (by omega) (by omega) (by omega), read_e]
    omega
  · rw [read_dec _ _ (by omega) (by omega), read_h, pl 0 _ _ (by omega) (by omega) (by omega), read_e]
    omega
  · rw [read_dec _ _ (by omega) (by omega), read_m, pl 0 _ _ (by omega) (by omega) (by omega), read_b, read_dec _ _ (by omega) (by omega), read_s, pl _ _ _ (by omega) (by omega) (by omega), read_e]
    omega
  · rw [read_dec _ _ (by omega) (by omega), read_m, pl 0 _ _ (by omega) (by omega) (by omega), read_e]
    omega
  · rw [read_dec _ _ (by omega) (by omega), read_s, pl 0 _ _ (by omega) (by omega) (by omega), read_e]
    omega
  · omega

theorem length_good (x : Int) (hx : Time x) (w : World) :
    Calls Tryd.prog 24 #[.string (bs (span x))] w fun e w' => e = .returned (.tuple #[.int .i64 x, .int .i64 0]) ∧ Below w.heap.size w w' := by
  by_cases hn : x = 4611686018427387904
  · subst hn
    have hnn : ((bs (span 4611686018427387904)).toList == [110, 101, 118, 101, 114]) = true := by
      rw [toL_bs, beq_iff_eq]
      rfl
    go_enter Tryd.func24, Tryd.ntmps24
    go_wp2_with fail
    refine (never_any _).mono ?_
    rintro e w' ⟨rfl, rfl⟩
    go_wp2_with fail
    go_ret2
    exact ⟨rfl, Below.refl _ _⟩
  · have hb := hx
    unfold Time at hb
    have hnn : ((bs (span x)).toList == [110, 101, 118, 101, 114]) = false := by
      rw [toL_bs, beq_eq_false_iff_ne]
      exact span_head hb.1 hn
    have hl := join_parts_len x hb.1 hb.2
    have hsz : (bs (span x)).size ≤ 1099511627 := by
      rw [bs_size, span, if_neg hn]
      omega
    go_enter Tryd.func24, Tryd.ntmps24
    go_wp2_with fail
    refine (read_any _ hsz _).mono ?_
    rw [bs_data, read_parts hx hn]
    rintro e w' ⟨rfl, rfl⟩
    go_wp2_with fail
    refine (span_any x _).mono ?_
    rw [hold_time hx]
    rintro e w1 ⟨rfl, hb1⟩
    have HB1 := Lib.hid hb1
    clear hb1
    have hq : ((bs (span x)).toList != (bs (span x)).toList) = false := by simp
    go_wp2_with fail
    go_ret2
    exact ⟨rfl, HB1.out⟩

theorem length_bad (s : ByteArray) (hs : s.size ≤ 1099511627) (hno : ∀ x, Time x → bs (span x) ≠ s) (w : World) :
    Calls Tryd.prog 24 #[.string s] w fun e w' => e = .returned (.tuple #[.int .i64 0, .int .i64 2]) ∧ Below w.heap.size w w' := by
  have hn : (s.toList == [110, 101, 118, 101, 114]) = false := by
    rw [beq_eq_false_iff_ne]
    exact fun e => hno 4611686018427387904 (by unfold Time; omega) (toL_inj ((toL_bs _).trans e.symm))
  have HNO := Lib.hid hno
  clear hno
  go_enter Tryd.func24, Tryd.ntmps24
  go_wp2_with fail
  refine (read_any s hs _).mono ?_
  obtain ⟨d, hd⟩ : ∃ d, d = readFrom 0 0 s.data.toList := ⟨_, rfl⟩
  rw [← hd]
  clear hd
  rintro e w' ⟨rfl, rfl⟩
  by_cases h0 : d < 0
  · go_wp2_with fail
    go_ret2
    exact ⟨rfl, Below.refl _ _⟩
  · go_wp2_with fail
    refine (span_any d _).mono ?_
    rintro e w1 ⟨rfl, hb1⟩
    have HB1 := Lib.hid hb1
    clear hb1
    have hq : ((bs (span (hold d))).toList == s.toList) = false := by
      rw [beq_eq_false_iff_ne]
      exact fun e => HNO.out (hold d) ⟨hold_ge d, hold_le d⟩ (toL_inj e)
    have hq2 : ((bs (span (hold d))).toList != s.toList) = true := by rw [bne, hq]; rfl
    go_wp2_with fail
    go_ret2
    exact ⟨rfl, HB1.out⟩

end Go.Proofs.YtcpplebgocbnhaaDoor
