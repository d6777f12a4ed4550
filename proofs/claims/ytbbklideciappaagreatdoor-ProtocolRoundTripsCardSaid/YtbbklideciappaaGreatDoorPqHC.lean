/-
  The checksum of bytes: package checksum and the reference (a byte at a time; the exclusive or bit by bit).
-/
import Derived.Test.YtbbklideciappaaGreatDoorPqAA
import Derived.Test.YtbbklideciappaaGreatDoorPqC
import Derived.Laws.BitsAllLaws
import Derived.Lib.ConvBytes
import Derived.BigGuardPart
import Derived.Deep.QuietTactic
import Derived.BigQuiet
import Derived.Deep.Light
namespace Go.Proofs.YtbbklideciappaaGreatDoor
open Go.RowKit Go.Maps

def byteV (b : UInt8) : Value := .int .u8 b.toNat
theorem byte_lt (b : UInt8) : b.toNat < 256 := by have := UInt8.toNat_lt b; omega
theorem wrap_nat {n : Nat} (h : n < 18446744073709551616) : IntKind.u64.wrap (n : Int) = (n : Int) := by
  rw [IntKind.wrap_u64]
  omega
theorem mul_wrap (x : Nat) : IntKind.u64.wrap ((x : Int) * 1099511628211) = ((x * 1099511628211 % 18446744073709551616 : Nat) : Int) := by
  rw [IntKind.wrap_u64]
  omega
set_option maxRecDepth 100000 in
set_option maxHeartbeats 4000000 in
theorem addByte_any (s b : Nat) (hs : s < 18446744073709551616) (hb : b < 256) (w : World) : Calls Tryz.prog 84 #[.int .u64 s, .int .u8 b] w fun e w' => e = .returned (.int .u64 (sumB s b : Nat)) ∧ w' = w := by
  have hx : s ^^^ b < 18446744073709551616 := by
    have e : (18446744073709551616 : Nat) = 2 ^ 64 := by decide
    rw [e] at hs ⊢
    exact Nat.xor_lt_two_pow hs (by omega)
  have e0 : IntKind.u64.wrap (b : Int) = (b : Int) := wrap_nat (by omega)
  have e1 := Go.u64_xor_nat s b hs (by omega)
  obtain ⟨x, hxx⟩ : ∃ x, x = s ^^^ b := ⟨_, rfl⟩
  rw [← hxx] at e1 hx
  have e2 := mul_wrap x
  obtain ⟨y, hy⟩ : ∃ y, y = x * 1099511628211 % 18446744073709551616 := ⟨_, rfl⟩
  rw [← hy] at e2
  have hyl : y < 18446744073709551616 := by rw [hy]; exact Nat.mod_lt _ (by decide)
  have e3 := Go.u64_xor_nat y (y / 4294967296) hyl (Nat.lt_of_le_of_lt (Nat.div_le_self _ _) hyl)
  have e4 : ((y / 4294967296 : Nat) : Int) = (y : Int) / 4294967296 := by omega
  rw [e4] at e3
  have HR := Lib.hid (show y ^^^ (y / 4294967296) = sumB s b from by rw [hy, hxx]; rfl)
  clear hxx hy e4
  go_enter Tryz.func84, Tryz.ntmps84
  go_wp2_with fail
  go_ret
  exact ⟨by rw [← HR.out]; rfl, rfl⟩
set_option maxRecDepth 100000 in
set_option maxHeartbeats 4000000 in
theorem update_any (s : Nat) (hs : s < 18446744073709551616) (A : Option Addr) (l : List UInt8) (c : Nat) (w : World) (B : Nat) (hA : Sl w B A (l.map byteV)) (hl : l.length ≤ 9223372036854775807) : Calls Tryz.prog 60 #[.int .u64 s, .slice A l.length c] w fun e w' => e = .returned (.int .u64 (sumL s l : Nat)) ∧ w' = w := by
  obtain ⟨m, hm⟩ : ∃ m, m = l.length := ⟨_, rfl⟩
  have HM := Lib.hid (And.intro hm (And.intro hs hA))
  rw [← hm] at hl ⊢
  clear hm hA
  have hz : ((s : Nat) : Int) = ((sumL s (l.take 0) : Nat) : Int) := rfl
  go_enter Tryz.func60, Tryz.ntmps60
  go_wp2_with fail
  clear hz
  go_loopw [9, 0] (fun i v X => ∃ k : Nat, k ≤ m ∧ i = .int .i64 k ∧ v = .int .u64 (sumL s (l.take k) : Nat) ∧ X = w) (fun i _ _ => m - (intOf i).toNat)
  case atStart => exact ⟨0, Nat.zero_le _, rfl, rfl, rfl⟩
  case round =>
    obtain ⟨k, hk, rfl, rfl, rfl⟩ := hrel
    by_cases hlt : k < m
    · have hlt' : (k : Int) < (m : Int) := by omega
      obtain ⟨x, hx⟩ : ∃ x, l[k]? = some x := ⟨l[k]'(by have := HM.out.1; omega), by simp⟩
      obtain ⟨b, o, rfl, _, q⟩ := HM.out.2.2 k (byteV x) (by rw [List.getElem?_map, hx]; rfl)
      unfold byteV at q
      have HC := Lib.hid (addByte_any (sumL s (l.take k)) x.toNat (sumL_lt HM.out.2.1 _) (byte_lt x) wr)
      have HN := Lib.hid (show sumL s (l.take (k + 1)) = sumB (sumL s (l.take k)) x.toNat from by rw [take_snoc' hx, sumL_snoc])
      obtain ⟨S, hS⟩ : ∃ S, S = sumL s (l.take k) := ⟨_, rfl⟩
      rw [← hS] at HC ⊢
      rw [← hS] at HN
      clear hx hS
      go_wp2_with fail
      refine HC.out.mono ?_
      rintro e w' ⟨rfl, rfl⟩
      go_wp2_with fail
      go_roundw
      case rel => exact ⟨k + 1, by omega, by go_num, by rw [HN.out], by first | rfl | trivial⟩
      case measure => simp [intOf]; omega
    · obtain rfl : k = m := by omega
      have HN := Lib.hid (show sumL s (l.take k) = sumL s l from by rw [HM.out.1, List.take_length])
      obtain ⟨S, hS⟩ : ∃ S, S = sumL s (l.take k) := ⟨_, rfl⟩
      rw [← hS] at HN ⊢
      clear hS
      go_wp2_with fail
      go_ret
      exact ⟨by rw [HN.out]; rfl, rfl⟩
def sum0 : Nat := 14695981039346656037
set_option maxRecDepth 100000 in
set_option maxHeartbeats 4000000 in
theorem sum_any (A : Option Addr) (l : List UInt8) (c : Nat) (w : World) (B : Nat) (hA : Sl w B A (l.map byteV)) (hl : l.length ≤ 9223372036854775807) : Calls Tryz.prog 39 #[.slice A l.length c] w fun e w' => e = .returned (.int .u64 (sumL sum0 l : Nat)) ∧ w' = w := by
  have HU := Lib.hid (update_any sum0 (by decide) A l c w B hA hl)
  clear hA
  obtain ⟨m, hm⟩ : ∃ m, m = l.length := ⟨_, rfl⟩
  rw [← hm] at HU ⊢
  clear hm hl
  go_enter Tryz.func39, Tryz.ntmps39
  go_wp2_with fail
  refine HU.out.mono ?_
  rintro e w' ⟨rfl, rfl⟩
  go_wp2_with fail
  go_ret
  exact ⟨rfl, rfl⟩
theorem div_nat (a b : Nat) : (a : Int).tdiv (b : Int) = ((a / b : Nat) : Int) := by
  rw [Int.tdiv_eq_ediv_of_nonneg (by omega)]
  rfl
theorem mod_two (a : Nat) : (a : Int).tmod 2 = ((a % 2 : Nat) : Int) := by
  rw [Int.tmod_eq_emod_of_nonneg (by omega)]
  rfl
set_option maxRecDepth 100000 in
set_option maxHeartbeats 4000000 in
theorem step_any (s b : Nat) (hs : s < 18446744073709551616) (hb : b < 256) (w : World) : Calls Tryz.prog 85 #[.int .u64 s, .int .u8 b] w fun e w' => e = .returned (.int .u64 (sumB s b : Nat)) ∧ ∃ n, w' = w.drewN n := by
  have hx : s ^^^ b < 18446744073709551616 := by
    have e : (18446744073709551616 : Nat) = 2 ^ 64 := by decide
    rw [e] at hs ⊢
    exact Nat.xor_lt_two_pow hs (by omega)
  obtain ⟨low, hlow⟩ : ∃ x, x = s % 256 := ⟨_, rfl⟩
  have hll : low < 256 := by rw [hlow]; exact Nat.mod_lt _ (by decide)
  have e0 : IntKind.u64.wrap (b : Int) = (b : Int) := wrap_nat (by omega)
  have el : (s : Int) % 256 = (low : Int) := by omega
  have el2 : (s : Int).tmod 256 = (low : Int) := by rw [Int.tmod_eq_emod_of_nonneg (by omega)]; exact el
  have wl : IntKind.u64.wrap (low : Int) = (low : Int) := wrap_nat (by omega)
  have hsl : low ≤ s := by rw [hlow]; exact Nat.mod_le _ _
  have HL := Lib.hid (And.intro hlow hx)
  clear hlow hx
  go_enter Tryz.func85, Tryz.ntmps85
  go_wp2_with fail
  clear el el2
  go_loopw [6, 7] (fun x v X => ∃ k : Nat, k ≤ 8 ∧ x = .int .u64 (xorK low b k : Nat) ∧ v = .int .u64 ((2 ^ k : Nat) : Int) ∧ ∃ n, X = w.drewN n) (fun _ v _ => 256 - (intOf v).toNat)
  case atStart => exact ⟨0, by omega, by rw [xorK_zero]; rfl, rfl, 0, rfl⟩
  case round =>
    obtain ⟨k, hk, rfl, rfl, n, rfl⟩ := hrel
    have hxk := xorK_lt low b k
    obtain ⟨P, hP⟩ : ∃ P, P = 2 ^ k := ⟨_, rfl⟩
    obtain ⟨X, hX⟩ : ∃ X, X = xorK low b k := ⟨_, rfl⟩
    have HK := Lib.hid (And.intro hP hX)
    rw [← hP] at hxk
    rw [← hX] at hxk
    rw [← hP, ← hX]
    by_cases hlt : k < 8
    · have hPl : 0 < P ∧ P ≤ 128 := by
        rw [hP]
        refine ⟨Nat.two_pow_pos k, ?_⟩
        have : (2 : Nat) ^ k ≤ 2 ^ 7 := Nat.pow_le_pow_right (by decide) (by omega)
        exact this
      have hp0 : ¬ (P : Int) = 0 := by omega
      have d1 := div_nat low P
      have d2 := div_nat b P
      have d3 : (low : Int) / (P : Int) = ((low / P : Nat) : Int) := rfl
      have d4 : (b : Int) / (P : Int) = ((b / P : Nat) : Int) := rfl
      obtain ⟨u, hu⟩ : ∃ u, u = low / P := ⟨_, rfl⟩
      obtain ⟨v, hv⟩ : ∃ u, u = b / P := ⟨_, rfl⟩
      have hul : u < 256 := by rw [hu]; exact Nat.lt_of_le_of_lt (Nat.div_le_self _ _) hll
      have hvl : v < 256 := by rw [hv]; exact Nat.lt_of_le_of_lt (Nat.div_le_self _ _) hb
      rw [← hu] at d1 d3
      rw [← hv] at d2 d4
      have HUV := Lib.hid (And.intro hu hv)
      have w1 : IntKind.u64.wrap (u : Int) = (u : Int) := wrap_nat (by omega)
      have w2 : IntKind.u64.wrap (v : Int) = (v : Int) := wrap_nat (by omega)
      have m1 := mod_two u
      have m2 := mod_two v
      have m3 : (u : Int) % 2 = ((u % 2 : Nat) : Int) := rfl
      have m4 : (v : Int) % 2 = ((v % 2 : Nat) : Int) := rfl
      obtain ⟨u2, hu2⟩ : ∃ x, x = u % 2 := ⟨_, rfl⟩
      obtain ⟨v2, hv2⟩ : ∃ x, x = v % 2 := ⟨_, rfl⟩
      rw [← hu2] at m1 m3
      rw [← hv2] at m2 m4
      have w3 : IntKind.u64.wrap (u2 : Int) = (u2 : Int) := wrap_nat (by omega)
      have w4 : IntKind.u64.wrap (v2 : Int) = (v2 : Int) := wrap_nat (by omega)
      have w5 : IntKind.u64.wrap ((P : Int) * 2) = ((2 * P : Nat) : Int) := by rw [IntKind.wrap_u64]; omega
      have hP2 : Hid (2 * P = 2 ^ (k + 1)) := Lib.hid (by rw [HK.out.1, Nat.pow_succ]; omega)
      have HU2 := Lib.hid (And.intro hu2 hv2)
      clear hu hv hu2 hv2 hP hX
      by_cases hne : u2 = v2
      · have hb1 : ((u2 : Int) != (v2 : Int)) = false := by simp [hne]
        have HX2 := Lib.hid (show xorK low b (k + 1) = X from by
          rw [HK.out.2]
          refine xorK_eq ?_
          rw [← HK.out.1, ← HUV.out.1, ← HUV.out.2, ← HU2.out.1, ← HU2.out.2]
          exact hne)
        clear hne
        go_wp2_with fail
        go_quiet (fail)
        go_wp2_with fail
        go_roundw
        case rel => exact ⟨k + 1, by omega, congrArg (Value.int .u64) (by rw [HX2.out] <;> omega), congrArg (Value.int .u64) (by rw [← hP2.out]; omega), _, rfl⟩
        case measure => simp [intOf]; omega
      · have hb1 : ((u2 : Int) != (v2 : Int)) = true := by simp; omega
        have HX2 := Lib.hid (show xorK low b (k + 1) = X + P from by
          rw [HK.out.2, HK.out.1]
          refine xorK_ne ?_
          rw [← HK.out.1, ← HUV.out.1, ← HUV.out.2, ← HU2.out.1, ← HU2.out.2]
          exact hne)
        have w6 : IntKind.u64.wrap ((X : Int) + (P : Int)) = ((X + P : Nat) : Int) := by rw [IntKind.wrap_u64]; omega
        clear hne
        go_wp2_with fail
        go_quiet (fail)
        go_wp2_with fail
        go_roundw
        case rel => exact ⟨k + 1, by omega, congrArg (Value.int .u64) (by rw [HX2.out] <;> omega), congrArg (Value.int .u64) (by rw [← hP2.out]; omega), _, rfl⟩
        case measure => simp [intOf]; omega
    · obtain rfl : k = 8 := by omega
      have hP8 : P = 256 := hP
      subst hP8
      have hxl := xor_low (s := s) hb
      rw [← HL.out.1, ← hX] at hxl
      have e1 : IntKind.u64.wrap ((s : Int) - (low : Int)) = ((s - low : Nat) : Int) := by rw [IntKind.wrap_u64]; omega
      have e2 : IntKind.u64.wrap (((s - low : Nat) : Int) + (X : Int)) = ((s ^^^ b : Nat) : Int) := by
        have := HL.out.2
        rw [← hxl, IntKind.wrap_u64]
        omega
      obtain ⟨x, hxx⟩ : ∃ x, x = s ^^^ b := ⟨_, rfl⟩
      rw [← hxx] at e2
      have e3 := mul_wrap x
      obtain ⟨y, hy⟩ : ∃ y, y = x * 1099511628211 % 18446744073709551616 := ⟨_, rfl⟩
      rw [← hy] at e3
      have hyl : y < 18446744073709551616 := by rw [hy]; exact Nat.mod_lt _ (by decide)
      have e4 := Go.u64_xor_nat y (y / 4294967296) hyl (Nat.lt_of_le_of_lt (Nat.div_le_self _ _) hyl)
      have e5 : (y : Int) / 4294967296 = ((y / 4294967296 : Nat) : Int) := by omega
      have e6 : (y : Int).tdiv 4294967296 = ((y / 4294967296 : Nat) : Int) := div_nat y 4294967296
      have e7 : IntKind.u64.wrap ((y / 4294967296 : Nat) : Int) = ((y / 4294967296 : Nat) : Int) := wrap_nat (Nat.lt_of_le_of_lt (Nat.div_le_self _ _) hyl)
      obtain ⟨z, hz⟩ : ∃ z, z = y / 4294967296 := ⟨_, rfl⟩
      rw [← hz] at e4 e5 e6 e7
      have HR := Lib.hid (show y ^^^ z = sumB s b from by rw [hz, hy, hxx]; rfl)
      obtain ⟨D, hD⟩ : ∃ D, D = s - low := ⟨_, rfl⟩
      rw [← hD] at e1 e2
      clear hxx hy hz hxl hP hX HK hD
      go_wp2_with fail
      go_ret
      exact ⟨by rw [← HR.out]; rfl, n, rfl⟩
set_option maxRecDepth 100000 in
set_option maxHeartbeats 4000000 in
theorem more_any (s : Nat) (hs : s < 18446744073709551616) (A : Option Addr) (l : List UInt8) (c : Nat) (w : World) (B : Nat) (hA : Sl w B A (l.map byteV)) (hl : l.length ≤ 9223372036854775807) : Calls Tryz.prog 61 #[.int .u64 s, .slice A l.length c] w fun e w' => e = .returned (.int .u64 (sumL s l : Nat)) ∧ ∃ n, w' = w.drewN n := by
  obtain ⟨m, hm⟩ : ∃ m, m = l.length := ⟨_, rfl⟩
  have HM := Lib.hid (And.intro hm (And.intro hs hA))
  rw [← hm] at hl ⊢
  clear hm hA
  go_enter Tryz.func61, Tryz.ntmps61
  go_wp2_with fail
  go_loopw [5, 0] (fun i v X => ∃ k : Nat, k ≤ m ∧ i = .int .i64 k ∧ v = .int .u64 (sumL s (l.take k) : Nat) ∧ ∃ n, X = w.drewN n) (fun i _ _ => m - (intOf i).toNat)
  case atStart => exact ⟨0, Nat.zero_le _, rfl, rfl, 0, rfl⟩
  case round =>
    obtain ⟨k, hk, rfl, rfl, n, rfl⟩ := hrel
    by_cases hlt : k < m
    · have hlt' : (k : Int) < (m : Int) := by omega
      obtain ⟨x, hx⟩ : ∃ x, l[k]? = some x := ⟨l[k]'(by have := HM.out.1; omega), by simp⟩
      obtain ⟨b, o, rfl, _, q⟩ := HM.out.2.2 k (byteV x) (by rw [List.getElem?_map, hx]; rfl)
      unfold byteV at q
      have HC := Lib.hid (fun W => step_any (sumL s (l.take k)) x.toNat (sumL_lt HM.out.2.1 _) (byte_lt x) W)
      have HN := Lib.hid (show sumL s (l.take (k + 1)) = sumB (sumL s (l.take k)) x.toNat from by rw [take_snoc' hx, sumL_snoc])
      obtain ⟨S, hS⟩ : ∃ S, S = sumL s (l.take k) := ⟨_, rfl⟩
      rw [← hS] at HC ⊢
      rw [← hS] at HN
      clear hx hS
      go_wp2_with fail
      refine (HC.out _).mono ?_
      rintro e w' ⟨rfl, n2, rfl⟩
      go_wp2_with fail
      go_roundw
      case rel => exact ⟨k + 1, by omega, by go_num, by rw [HN.out], n + n2, rfl⟩
      case measure => simp [intOf]; omega
    · obtain rfl : k = m := by omega
      have HN := Lib.hid (show sumL s (l.take k) = sumL s l from by rw [HM.out.1, List.take_length])
      obtain ⟨S, hS⟩ : ∃ S, S = sumL s (l.take k) := ⟨_, rfl⟩
      rw [← hS] at HN ⊢
      clear hS
      go_wp2_with fail
      go_ret
      exact ⟨by rw [HN.out]; rfl, n, rfl⟩
set_option maxRecDepth 100000 in
set_option maxHeartbeats 4000000 in
theorem of_any (A : Option Addr) (l : List UInt8) (c : Nat) (w : World) (B : Nat) (hA : Sl w B A (l.map byteV)) (hl : l.length ≤ 9223372036854775807) : Calls Tryz.prog 40 #[.slice A l.length c] w fun e w' => e = .returned (.int .u64 (sumL sum0 l : Nat)) ∧ ∃ n, w' = w.drewN n := by
  have HU := Lib.hid (more_any sum0 (by decide) A l c w B hA hl)
  clear hA
  obtain ⟨m, hm⟩ : ∃ m, m = l.length := ⟨_, rfl⟩
  rw [← hm] at HU ⊢
  clear hm hl
  go_enter Tryz.func40, Tryz.ntmps40
  go_wp2_with fail
  refine HU.out.mono ?_
  rintro e w' ⟨rfl, n, rfl⟩
  go_wp2_with fail
  go_ret
  exact ⟨rfl, n, rfl⟩
theorem conv_sl (w : World) (l : List UInt8) : Sl (Lib.bytesWorld w 5 (bs l)) (w.heap.size + 1) (some ⟨w.heap.size, 0, none⟩) (l.map byteV) := by
  intro j u hj
  rw [List.getElem?_map] at hj
  obtain ⟨x, hx, rfl⟩ := Option.map_eq_some_iff.1 hj
  have hl := (List.getElem?_eq_some_iff.1 hx).1
  refine ⟨w.heap.size, 0, rfl, by omega, ?_⟩
  have h := Lib.bytesWorld_cell w 5 (bs l) j (by rw [bs_size]; exact hl)
  rw [bs_data, List.getD_eq_getElem?_getD, hx] at h
  rw [Nat.zero_add]
  exact h
end Go.Proofs.YtbbklideciappaaGreatDoor
