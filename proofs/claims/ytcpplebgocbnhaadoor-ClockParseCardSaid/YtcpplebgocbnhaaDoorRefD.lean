/-
  The reference's worth, read and Length: what they compute, for every text.
-/
import Derived.Test.YtcpplebgocbnhaaDoorAwake
namespace Go.Proofs.YtcpplebgocbnhaaDoor
open Go.RowKit Go.Maps

def worthOf (sum u n : Int) : Int := if sum < 0 ∨ (4611686018427387904 - sum) / u < n then -1 else sum + u * n

theorem worth_range {sum u n : Int} (hu : 0 < u) (h1 : sum ≤ 4611686018427387904) (hn : 0 ≤ n) : -1 ≤ worthOf sum u n ∧ worthOf sum u n ≤ 4611686018427387904 := by
  unfold worthOf
  split
  · omega
  · rename_i h
    have h2 : n ≤ (4611686018427387904 - sum) / u := by omega
    have h3 := Int.mul_le_of_le_ediv hu h2
    have h4 : 0 ≤ u * n := Int.mul_nonneg (by omega) hn
    rw [Int.mul_comm] at h3
    omega
theorem worth_fits {sum u n : Int} (hu : 0 < u) (h0 : 0 ≤ sum) (h : sum + u * n ≤ 4611686018427387904) : worthOf sum u n = sum + u * n := by
  unfold worthOf
  rw [if_neg]
  intro q
  rcases q with q | q
  · omega
  · have := Int.le_ediv_of_mul_le (a := n) (b := 4611686018427387904 - sum) hu (by rw [Int.mul_comm]; omega)
    omega

theorem worth_any (sum u n : Int) (h0 : -1 ≤ sum) (h1 : sum ≤ 4611686018427387904) (hu : 0 < u) (hu1 : u ≤ 86400) (hn : 0 ≤ n) (w : World) :
    Calls Tryd.prog 57 #[.int .i64 sum, .int .i64 u, .int .i64 n] w fun e w' => e = .returned (.int .i64 (worthOf sum u n)) ∧ w' = w := by
  by_cases hs : sum < 0
  · have HW : Hid (worthOf sum u n = -1) := Lib.hid (by unfold worthOf; rw [if_pos (Or.inl hs)])
    go_enter Tryd.func57, Tryd.ntmps57
    go_wp2_with fail
    go_ret
    exact ⟨ret_int HW.out.symm, rfl⟩
  · by_cases hq : (4611686018427387904 - sum) / u < n
    · have HW : Hid (worthOf sum u n = -1) := Lib.hid (by unfold worthOf; rw [if_pos (Or.inr hq)])
      go_enter Tryd.func57, Tryd.ntmps57
      go_wp2_with fail
      refine (never_any _).mono ?_
      rintro e w' ⟨rfl, rfl⟩
      go_wp2_with fail
      go_ret
      exact ⟨ret_int HW.out.symm, rfl⟩
    · have hv : worthOf sum u n = sum + u * n := by unfold worthOf; rw [if_neg (by omega)]
      have hr := worth_range (sum := sum) (u := u) (n := n) hu h1 hn
      rw [hv] at hr
      have h4 : 0 ≤ u * n := Int.mul_nonneg (by omega) hn
      have h5 : u * n ≤ 4611686018427387904 := by omega
      have HW := Lib.hid hv
      clear hv
      go_enter Tryd.func57, Tryd.ntmps57
      go_wp2_with fail
      refine (never_any _).mono ?_
      rintro e w' ⟨rfl, rfl⟩
      go_wp2_with fail
      go_ret
      exact ⟨ret_int HW.out.symm, rfl⟩

def readFrom : Int → Int → List UInt8 → Int
  | sum, _, [] => sum
  | sum, n, c :: r =>
    if 48 ≤ c.toNat ∧ c.toNat ≤ 57 then (if 100000000000000000 < n then -1 else readFrom sum (10 * n + c.toNat - 48) r)
    else if c.toNat = 104 then readFrom (worthOf sum 3600 n) 0 r else if c.toNat = 109 then readFrom (worthOf sum 60 n) 0 r else if c.toNat = 115 then readFrom (worthOf sum 1 n) 0 r else readFrom sum n r

set_option maxRecDepth 100000 in
set_option maxHeartbeats 2000000 in
theorem read_any (s : ByteArray) (hs : s.size ≤ 1099511627) (w : World) :
    Calls Tryd.prog 44 #[.string s] w fun e w' => e = .returned (.int .i64 (readFrom 0 0 s.data.toList)) ∧ w' = w := by
  go_enter Tryd.func44, Tryd.ntmps44
  go_wp2_with fail
  go_loop [3, 4, 5] (fun sv nv i => ∃ (k : Nat) (sum n : Int), k ≤ s.size ∧ i = .int .i64 k ∧ sv = .int .i64 sum ∧ nv = .int .i64 n ∧ -1 ≤ sum ∧ sum ≤ 4611686018427387904 ∧ 0 ≤ n ∧ n ≤ 1000000000000000009 ∧ readFrom 0 0 s.data.toList = readFrom sum n (s.data.toList.drop k)) (fun _ _ i => s.size - (intOf i).toNat)
  case atStart => exact ⟨0, 0, 0, by omega, rfl, rfl, rfl, by omega, by omega, by omega, by omega, rfl⟩
  case round =>
    obtain ⟨k, sum, n, hk, rfl, rfl, rfl, h0, h1, n0, n1, hrd⟩ := hrel
    have HR := Lib.hid hrd
    clear hrd
    by_cases hlt : k < s.size
    · have hdr : s.data.toList.drop k = s[k] :: s.data.toList.drop (k + 1) := by
        have hl : k < s.data.toList.length := by simpa using hlt
        rw [List.drop_eq_getElem_cons hl]
        rfl
      have HD := Lib.hid hdr
      clear hdr
      have hc255 : s[k].toNat ≤ 255 := by have := s[k].toNat_lt; omega
      have hcs : (48 ≤ s[k].toNat ∧ s[k].toNat ≤ 57) ∨ s[k].toNat = 104 ∨ s[k].toNat = 109 ∨ s[k].toNat = 115 ∨ (¬ (48 ≤ s[k].toNat ∧ s[k].toNat ≤ 57) ∧ s[k].toNat ≠ 104 ∧ s[k].toNat ≠ 109 ∧ s[k].toNat ≠ 115) := by omega
      rcases hcs with ⟨d0, d1⟩ | h104 | h109 | h115 | ⟨hd, n104, n109, n115⟩
      · by_cases hbig : 100000000000000000 < n
        · have hst : readFrom 0 0 s.data.toList = -1 := by
            rw [HR.out, HD.out, readFrom, if_pos ⟨d0, d1⟩, if_pos hbig]
          have HST := Lib.hid hst
          clear hst
          go_wp2_with fail
          go_ret
          exact ⟨ret_int HST.out.symm, rfl⟩
        · have hst : readFrom 0 0 s.data.toList = readFrom sum (10 * n + s[k].toNat - 48) (s.data.toList.drop (k + 1)) := by
            rw [HR.out, HD.out, readFrom, if_pos ⟨d0, d1⟩, if_neg hbig]
          have HST := Lib.hid hst
          clear hst
          go_wp2_with fail
          go_round
          case rel => exact ⟨k + 1, sum, 10 * n + s[k].toNat - 48, by omega, by go_num, rfl, rfl, h0, h1, by omega, by omega, HST.out⟩
          case measure => simp [intOf]; omega
      · have n48 : ¬ (48 ≤ s[k].toNat ∧ s[k].toNat ≤ 57) := by omega
        have hst : readFrom 0 0 s.data.toList = readFrom (worthOf sum 3600 n) 0 (s.data.toList.drop (k + 1)) := by
          rw [HR.out, HD.out, readFrom, if_neg n48]
          simp only [h104]
          rfl
        have hwr := worth_range (sum := sum) (u := 3600) (n := n) (by omega) h1 n0
        have HST := Lib.hid hst
        clear hst n48
        go_wp2_with fail
        refine (worth_any sum 3600 n h0 h1 (by omega) (by omega) n0 _).mono ?_
        rintro e w1 ⟨rfl, rfl⟩
        go_wp2_with fail
        go_round
        case rel => exact ⟨k + 1, _, 0, by omega, by go_num, rfl, rfl, hwr.1, hwr.2, by omega, by omega, HST.out⟩
        case measure => simp [intOf]; omega
      · have n48 : ¬ (48 ≤ s[k].toNat ∧ s[k].toNat ≤ 57) := by omega
        have hst : readFrom 0 0 s.data.toList = readFrom (worthOf sum 60 n) 0 (s.data.toList.drop (k + 1)) := by
          rw [HR.out, HD.out, readFrom, if_neg n48]
          simp only [h109]
          rfl
        have hwr := worth_range (sum := sum) (u := 60) (n := n) (by omega) h1 n0
        have HST := Lib.hid hst
        clear hst n48
        go_wp2_with fail
        refine (worth_any sum 60 n h0 h1 (by omega) (by omega) n0 _).mono ?_
        rintro e w1 ⟨rfl, rfl⟩
        go_wp2_with fail
        go_round
        case rel => exact ⟨k + 1, _, 0, by omega, by go_num, rfl, rfl, hwr.1, hwr.2, by omega, by omega, HST.out⟩
        case measure => simp [intOf]; omega
      · have n48 : ¬ (48 ≤ s[k].toNat ∧ s[k].toNat ≤ 57) := by omega
        have hst : readFrom 0 0 s.data.toList = readFrom (worthOf sum 1 n) 0 (s.data.toList.drop (k + 1)) := by
          rw [HR.out, HD.out, readFrom, if_neg n48]
          simp only [h115]
          rfl
        have hwr := worth_range (sum := sum) (u := 1) (n := n) (by omega) h1 n0
        have HST := Lib.hid hst
        clear hst n48
        go_wp2_with fail
        refine (worth_any sum 1 n h0 h1 (by omega) (by omega) n0 _).mono ?_
        rintro e w1 ⟨rfl, rfl⟩
        go_wp2_with fail
        go_round
        case rel => exact ⟨k + 1, _, 0, by omega, by go_num, rfl, rfl, hwr.1, hwr.2, by omega, by omega, HST.out⟩
        case measure => simp [intOf]; omega
      · have hst : readFrom 0 0 s.data.toList = readFrom sum n (s.data.toList.drop (k + 1)) := by
          rw [HR.out, HD.out, readFrom, if_neg hd, if_neg n104, if_neg n109, if_neg n115]
        have HST := Lib.hid hst
        clear hst
        by_cases hlo : s[k].toNat < 48
        · have hd2 : ¬ 48 ≤ s[k].toNat := by omega
          go_wp2_with fail
          go_round
          case rel => exact ⟨k + 1, sum, n, by omega, by go_num, rfl, rfl, h0, h1, n0, n1, HST.out⟩
          case measure => simp [intOf]; omega
        · have hd2 : ¬ s[k].toNat ≤ 57 := by omega
          go_wp2_with fail
          go_round
          case rel => exact ⟨k + 1, sum, n, by omega, by go_num, rfl, rfl, h0, h1, n0, n1, HST.out⟩
          case measure => simp [intOf]; omega
    · have hkk : k = s.size := by omega
      subst hkk
      have he : readFrom 0 0 s.data.toList = sum := by
        rw [HR.out, List.drop_eq_nil_of_le (by simp)]
        rfl
      have HE := Lib.hid he
      clear he
      go_wp2_with fail
      go_ret
      exact ⟨ret_int HE.out.symm, rfl⟩
end Go.Proofs.YtcpplebgocbnhaaDoor
