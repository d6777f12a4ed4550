/-
  The clock: what clamp, Add, Elapsed, twoDigits and Format compute, for all integers; and the reference's Hold, Add, Ago, Num, two, Text.
-/
import Derived.Test.YtcpplebgocbnhaaDoorReady
import Derived.Test.YtcpplebgocbnhaaDoorNum
import Derived.BigGuardPart
import Derived.Lib.SlBytesRow
import Derived.Lib.ItoaLen
namespace Go.Proofs.YtcpplebgocbnhaaDoor
open Go.RowKit

def hold (n : Int) : Int := min (max n 0) 4611686018427387904
def plus (a b : Int) : Int := min (hold a + hold b) 4611686018427387904
def since (a b : Int) : Int := max (hold a - hold b) 0
theorem hold_ge (n : Int) : 0 ≤ hold n := by unfold hold; omega
theorem hold_le (n : Int) : hold n ≤ 4611686018427387904 := by unfold hold; omega

theorem clamp_any (n : Int) (w : World) : Calls Tryd.prog 32 #[.int .i64 n] w fun e w' => e = .returned (.int .i64 (hold n)) ∧ w' = w := by
  go_enter Tryd.func32, Tryd.ntmps32
  go_wp2_with fail
  go_ret
  exact ⟨rfl, rfl⟩

theorem add_any (a b : Int) (w : World) : Calls Tryd.prog 12 #[.int .i64 a, .int .i64 b] w fun e w' => e = .returned (.int .i64 (plus a b)) ∧ w' = w := by
  go_enter Tryd.func12, Tryd.ntmps12
  go_wp2_with fail
  refine (clamp_any _ _).mono ?_
  rintro e w' ⟨rfl, rfl⟩
  go_wp2_with fail
  refine (clamp_any _ _).mono ?_
  rintro e w' ⟨rfl, rfl⟩
  have a0 := hold_ge a
  have a1 := hold_le a
  have b0 := hold_ge b
  have b1 := hold_le b
  go_wp2_with fail
  · go_ret
    exact ⟨ret_int (by unfold plus; omega), rfl⟩
  · go_ret
    exact ⟨ret_int (by unfold plus; omega), rfl⟩

theorem elapsed_any (a b : Int) (w : World) : Calls Tryd.prog 14 #[.int .i64 a, .int .i64 b] w fun e w' => e = .returned (.int .i64 (since a b)) ∧ w' = w := by
  go_enter Tryd.func14, Tryd.ntmps14
  go_wp2_with fail
  refine (clamp_any _ _).mono ?_
  rintro e w' ⟨rfl, rfl⟩
  go_wp2_with fail
  refine (clamp_any _ _).mono ?_
  rintro e w' ⟨rfl, rfl⟩
  have a0 := hold_ge a
  have a1 := hold_le a
  have b0 := hold_ge b
  have b1 := hold_le b
  go_wp2_with fail
  go_ret
  exact ⟨rfl, rfl⟩

theorem never_any (w : World) : Calls Tryd.prog 33 #[] w fun e w' => e = .returned (.int .i64 4611686018427387904) ∧ w' = w := by
  go_enter Tryd.func33, Tryd.ntmps33
  go_wp2_with fail
  go_ret
  exact ⟨rfl, rfl⟩

theorem hold_any (t : Int) (w : World) : Calls Tryd.prog 19 #[.int .i64 t] w fun e w' => e = .returned (.int .i64 (hold t)) ∧ w' = w := by
  go_enter Tryd.func19, Tryd.ntmps19
  go_wp2_with fail
  · go_ret
    exact ⟨ret_int (by unfold hold; omega), rfl⟩
  · refine (never_any _).mono ?_
    rintro e w' ⟨rfl, rfl⟩
    go_wp2_with fail
    · refine (never_any _).mono ?_
      rintro e w' ⟨rfl, rfl⟩
      go_wp2_with fail
      go_ret
      exact ⟨ret_int (by unfold hold; omega), rfl⟩
    · go_ret
      exact ⟨ret_int (by unfold hold; omega), rfl⟩

theorem refAdd_any (a b : Int) (w : World) : Calls Tryd.prog 13 #[.int .i64 a, .int .i64 b] w fun e w' => e = .returned (.int .i64 (plus a b)) ∧ w' = w := by
  go_enter Tryd.func13, Tryd.ntmps13
  go_wp2_with fail
  refine (hold_any _ _).mono ?_
  rintro e w' ⟨rfl, rfl⟩
  go_wp2_with fail
  refine (hold_any _ _).mono ?_
  rintro e w' ⟨rfl, rfl⟩
  have a0 := hold_ge a
  have a1 := hold_le a
  have b0 := hold_ge b
  have b1 := hold_le b
  go_wp2_with fail
  refine (never_any _).mono ?_
  rintro e w' ⟨rfl, rfl⟩
  go_wp2_with fail
  · refine (never_any _).mono ?_
    rintro e w' ⟨rfl, rfl⟩
    go_wp2_with fail
    go_ret
    exact ⟨ret_int (by unfold plus; omega), rfl⟩
  · go_ret
    exact ⟨ret_int (by unfold plus; omega), rfl⟩

theorem ago_any (a b : Int) (w : World) : Calls Tryd.prog 15 #[.int .i64 a, .int .i64 b] w fun e w' => e = .returned (.int .i64 (since a b)) ∧ w' = w := by
  go_enter Tryd.func15, Tryd.ntmps15
  go_wp2_with fail
  refine (hold_any _ _).mono ?_
  rintro e w' ⟨rfl, rfl⟩
  go_wp2_with fail
  refine (hold_any _ _).mono ?_
  rintro e w' ⟨rfl, rfl⟩
  have a0 := hold_ge a
  have a1 := hold_le a
  have b0 := hold_ge b
  have b1 := hold_le b
  go_wp2_with fail
  refine (hold_any _ _).mono ?_
  rintro e w' ⟨rfl, rfl⟩
  go_wp2_with fail
  go_ret
  exact ⟨ret_int (by unfold since; rw [hold]; omega), rfl⟩

theorem below_then {a b c : World} (h1 : Below a.heap.size a b) (h2 : Below b.heap.size b c) : Below a.heap.size a c :=
  ⟨h2.os.trans h1.os, h2.tape.trans h1.tape, h2.output.trans h1.output, Nat.le_trans h1.size h2.size, fun k hk => (h2.block k (Nat.lt_of_lt_of_le hk h1.size)).trans (h1.block k hk)⟩
theorem ret_str {a b : ByteArray} (h : a = b) : Ending.returned (.string a) = Ending.returned (.string b) := by rw [h]

theorem byte_conv (w : World) (n : Int) (h0 : 0 ≤ n) (h1 : n < 10) :
    (convert 61 9 (.slice (some ⟨w.heap.size, 0, none⟩) 1 1)).run Tryd.prog (w.alloc (.cells #[.int .u8 (48 + n)] 5)) = .ok (.string (bs (Lib.decDigits n.toNat))) (w.alloc (.cells #[.int .u8 (48 + n)] 5)) := by
  have hd : Lib.decDigits n.toNat = [UInt8.ofNat (48 + n.toNat)] := dec_small (by omega)
  have hs : (bs (Lib.decDigits n.toNat)).size = 1 := by rw [bs_size, hd]; rfl
  have h := Lib.run_convert_whole (P := Tryd.prog) (w.alloc (.cells #[.int .u8 (48 + n)] 5)) 61 5 9 Tryd.underlying61 Tryd.underlying5 Tryd.underlying9 w.heap.size 0 (bs (Lib.decDigits n.toNat)) ?_ 1
  · rw [hs] at h
    exact h
  · intro i hi
    have hi0 : i = 0 := by rw [hs] at hi; omega
    subst hi0
    have e1 : (bs (Lib.decDigits n.toNat))[0] = UInt8.ofNat (48 + n.toNat) := by
      simp [bs, hd, ByteArray.getElem_eq_getElem_data]
    rw [e1, dig_toNat (by omega)]
    have e2 : ((48 + n.toNat : Nat) : Int) = 48 + n := by omega
    rw [e2]
    simp

theorem dec_len (n : Int) (h : n ≤ 9223372036854775807) : (bs (Lib.decDigits n.toNat)).size ≤ 20 := by
  rw [bs_size, Lib.decDigits_length]
  exact Lib.nDigits_le20 _ (by omega)

set_option maxRecDepth 100000 in
theorem num_go : ∀ (k : Nat) (n : Int) (_ : 0 ≤ n) (_ : n.toNat < k) (_ : n ≤ 9223372036854775807) (w : World), Calls Tryd.prog 38 #[.int .i64 n] w fun e w' => e = .returned (.string (bs (Lib.decDigits n.toNat))) ∧ Below w.heap.size w w' := by
  intro k
  induction k with
  | zero => intro n _ h; omega
  | succ k ih =>
    intro n h0 hk hn w
    by_cases h : n < 10
    · have hcv := byte_conv w n h0 h
      go_enter Tryd.func38, Tryd.ntmps38
      go_wp2_with fail
      go_ret
      exact ⟨rfl, (Below.refl _ _).alloc (Nat.le_refl _) _⟩
    · go_enter Tryd.func38, Tryd.ntmps38
      go_wp2_with fail
      refine (ih (n / 10) (by omega) (by omega) (by omega) _).mono ?_
      rintro e w1 ⟨rfl, hb1⟩
      have HB1 := Lib.hid hb1
      clear hb1
      go_wp2_with fail
      refine (ih (n % 10) (by omega) (by omega) (by omega) _).mono ?_
      rintro e w2 ⟨rfl, hb2⟩
      have HB2 := Lib.hid hb2
      clear hb2
      have l1 := dec_len (n / 10) (by omega)
      have l2 := dec_len (n % 10) (by omega)
      go_wp2_with fail
      go_ret
      refine ⟨ret_str ?_, below_then HB1.out HB2.out⟩
      rw [bs_append, dec_big (n := n.toNat) (by omega), show (n / 10).toNat = n.toNat / 10 by omega, show (n % 10).toNat = n.toNat % 10 by omega, dec_small (n := n.toNat % 10) (by omega)]

theorem num_any (n : Int) (h0 : 0 ≤ n) (hn : n ≤ 9223372036854775807) (w : World) : Calls Tryd.prog 38 #[.int .i64 n] w fun e w' => e = .returned (.string (bs (Lib.decDigits n.toNat))) ∧ Below w.heap.size w w' :=
  num_go (n.toNat + 1) n h0 (by omega) hn w

end Go.Proofs.YtcpplebgocbnhaaDoor
