/-
  The clock: what scale computes, for every text of at most 2^40 bytes.
-/
import Derived.Test.YtcpplebgocbnhaaDoorClockB
import Derived.Test.YtcpplebgocbnhaaDoorTexts
import Derived.Lib.AtoiErrMem
namespace Go.Proofs.YtcpplebgocbnhaaDoor
open Go.RowKit

theorem scale_any (s : ByteArray) (hs : s.size ≤ 1099511627776) (u : Int) (h0 : 0 < u) (h1 : u ≤ 86400) (w : World) (hr : Ready w) :
    Calls Tryd.prog 37 #[.string s, .int .i64 u] w fun e w' => e = .returned (.tuple #[.int .i64 (scaleOf s.data.toList u).1, .bool (scaleOf s.data.toList u).2]) ∧ Below w.heap.size w w' := by
  go_enter Tryd.func37, Tryd.ntmps37
  go_wp2_with fail
  have hcase : (∃ n, Lib.parseIntB 64 s.data.toList = .ok n) ∨ Lib.parseIntB 64 s.data.toList = .range ∨ (¬ (∃ n, Lib.parseIntB 64 s.data.toList = .ok n) ∧ ¬ Lib.parseIntB 64 s.data.toList = .range) := by
    by_cases h1 : ∃ n, Lib.parseIntB 64 s.data.toList = .ok n
    · exact .inl h1
    · by_cases h2 : Lib.parseIntB 64 s.data.toList = .range
      · exact .inr (.inl h2)
      · exact .inr (.inr ⟨h1, h2⟩)
  rcases hcase with ⟨n, hp⟩ | hp | ⟨hp1, hp2⟩
  · skip
    refine (Tryd.strconv_ParseInt_10_at64_ok s (by omega) n hp w).mono ?_
    rintro e w1 ⟨rfl, hb1⟩
    have hb : Below w.heap.size w w1 := by
      rcases hb1 with rfl | ⟨t, rfl⟩
      · exact Below.refl _ _
      · exact Lib.bytesWorld_below _ _ _
    have HB := Lib.hid hb
    have HP := Lib.hid hp
    clear hb hb1 hp
    by_cases hn : n < 0
    · go_wp2_with fail
      go_ret2
      have := HP.out
      refine ⟨?_, HB.out⟩
      unfold scaleOf
      rw [HP.out]
      simp only
      rw [if_pos (Or.inl hn)]
      rfl
    · by_cases hm : 4611686018427387904 / u < n
      · go_wp2_with fail
        go_ret2
        refine ⟨?_, HB.out⟩
        unfold scaleOf
        rw [HP.out]
        simp only
        rw [if_pos (Or.inr hm)]
        rfl
      · have hm2 := Int.mul_le_of_le_ediv h0 (show n ≤ 4611686018427387904 / u by omega)
        have hm3 : 0 ≤ n * u := Int.mul_nonneg (by omega) (by omega)
        go_wp2_with fail
        go_ret2
        refine ⟨?_, HB.out⟩
        unfold scaleOf
        rw [HP.out]
        simp only
        rw [if_neg (by omega)]
        rfl
  · skip
    obtain ⟨tp, p, hv⟩ := hr.rng
    refine (Tryd.strconv_ParseInt_10_at64_range_var s (by omega) hp tp p w hv).mono ?_
    rintro e w1 ⟨N, rfl, _, _, hb⟩
    have HB := Lib.hid hb
    have HP := Lib.hid hp
    clear hb hp
    go_wp2_with fail
    go_ret2
    refine ⟨?_, HB.out⟩
    unfold scaleOf
    rw [HP.out]
    rfl
  · cases hp : Lib.parseIntB 64 s.data.toList
    case ok n => exact absurd ⟨n, hp⟩ hp1
    case range => exact absurd hp hp2
    obtain ⟨tp, p, hv⟩ := hr.syn
    refine (Any.strconv_ParseInt_10_at64_syntax_var Tryd.laysC174 s (by omega) hp tp p w hv).mono ?_
    rintro e w1 ⟨N, rfl, _, _, hb⟩
    have HB := Lib.hid hb
    have HP := Lib.hid hp
    clear hb hp hp1 hp2
    go_wp2_with fail
    go_ret2
    refine ⟨?_, HB.out⟩
    unfold scaleOf
    rw [HP.out]
    rfl
end Go.Proofs.YtcpplebgocbnhaaDoor
