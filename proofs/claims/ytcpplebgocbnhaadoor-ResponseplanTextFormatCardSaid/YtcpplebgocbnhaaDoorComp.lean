/-
  The clock: what component computes, for every text of at most 2^40 bytes.
-/
import Derived.Test.YtcpplebgocbnhaaDoorSpanR
namespace Go.Proofs.YtcpplebgocbnhaaDoor
open Go.RowKit Go.Maps

def compEnd (l : List UInt8) (c : UInt8) : Int × Bool :=
  if c = 104 then scaleOf l 3600 else if c = 109 then scaleOf l 60 else if c = 115 then scaleOf l 1 else (0, false)
def compOf (l : List UInt8) : Int × Bool := match l.getLast? with
  | none => (0, false)
  | some c => compEnd l.dropLast c

theorem comp_snoc (l : List UInt8) (c : UInt8) : compOf (l ++ [c]) = compEnd l c := by
  unfold compOf
  simp

set_option maxRecDepth 100000 in
theorem comp_some (l : List UInt8) (c : UInt8) (hs : l.length ≤ 1099511627) (w : World) (hr : Ready w) :
    Calls Tryd.prog 43 #[.string (bs (l ++ [c]))] w fun e w' => e = .returned (.tuple #[.int .i64 (compEnd l c).1, .bool (compEnd l c).2]) ∧ Below w.heap.size w w' := by
  have hz : (bs (l ++ [c])).size = l.length + 1 := by rw [bs_size]; simp
  have he : ((bs (l ++ [c])).toList == []) = false := by rw [toL_bs, beq_eq_false_iff_ne]; simp
  have hlt : l.length < (bs (l ++ [c])).size := by omega
  have hq : (bs (l ++ [c]))[l.length].toNat = c.toNat := by
    have : (bs (l ++ [c]))[l.length] = c := by simp [bs, ByteArray.getElem_eq_getElem_data]
    rw [this]
  have hx : ((bs (l ++ [c])).extract 0 l.length).data.toList = l := by
    rw [Lib.extract_data, bs_data]
    simp
  by_cases h104 : c = 104
  · have hv : (bs (l ++ [c]))[l.length].toNat = 104 := by rw [hq, h104]; rfl
    have HC := Lib.hid h104
    clear h104 hq
    go_enter Tryd.func43, Tryd.ntmps43
    go_wp2_with fail
    refine (scale_any ((bs (l ++ [c])).extract 0 l.length) (by rw [ByteArray.size_extract]; omega) 3600 (by omega) (by omega) w hr).mono ?_
    rw [hx]
    rintro e w1 ⟨rfl, hb⟩
    have HB := Lib.hid hb
    clear hb
    go_wp2_with fail
    go_ret2
    exact ⟨by rw [show compEnd l c = scaleOf l 3600 by rw [HC.out]; rfl]; rfl, HB.out⟩
  have n104 : (bs (l ++ [c]))[l.length].toNat ≠ 104 := fun q => h104 (UInt8.toNat.inj (by rw [← hq, q]; rfl))
  by_cases h109 : c = 109
  · have hv : (bs (l ++ [c]))[l.length].toNat = 109 := by rw [hq, h109]; rfl
    have HC := Lib.hid h109
    clear h109 hq
    go_enter Tryd.func43, Tryd.ntmps43
    go_wp2_with fail
    refine (scale_any ((bs (l ++ [c])).extract 0 l.length) (by rw [ByteArray.size_extract]; omega) 60 (by omega) (by omega) w hr).mono ?_
    rw [hx]
    rintro e w1 ⟨rfl, hb⟩
    have HB := Lib.hid hb
    clear hb
    go_wp2_with fail
    go_ret2
    exact ⟨by rw [show compEnd l c = scaleOf l 60 by rw [HC.out]; rfl]; rfl, HB.out⟩
  have n109 : (bs (l ++ [c]))[l.length].toNat ≠ 109 := fun q => h109 (UInt8.toNat.inj (by rw [← hq, q]; rfl))
  by_cases h115 : c = 115
  · have hv : (bs (l ++ [c]))[l.length].toNat = 115 := by rw [hq, h115]; rfl
    have HC := Lib.hid h115
    clear h115 hq
    go_enter Tryd.func43, Tryd.ntmps43
    go_wp2_with fail
    refine (scale_any ((bs (l ++ [c])).extract 0 l.length) (by rw [ByteArray.size_extract]; omega) 1 (by omega) (by omega) w hr).mono ?_
    rw [hx]
    rintro e w1 ⟨rfl, hb⟩
    have HB := Lib.hid hb
    clear hb
    go_wp2_with fail
    go_ret2
    exact ⟨by rw [show compEnd l c = scaleOf l 1 by rw [HC.out]; rfl]; rfl, HB.out⟩
  have n115 : (bs (l ++ [c]))[l.length].toNat ≠ 115 := fun q => h115 (UInt8.toNat.inj (by rw [← hq, q]; rfl))
  have HC : Hid (compEnd l c = (0, false)) := Lib.hid (by unfold compEnd; rw [if_neg h104, if_neg h109, if_neg h115])
  clear h104 h109 h115 hq hx
  go_enter Tryd.func43, Tryd.ntmps43
  go_wp2_with fail
  go_ret2
  exact ⟨by rw [HC.out]; rfl, Below.refl _ _⟩

theorem comp_none (w : World) :
    Calls Tryd.prog 43 #[.string (bs [])] w fun e w' => e = .returned (.tuple #[.int .i64 0, .bool false]) ∧ Below w.heap.size w w' := by
  have he : ((bs []).toList == []) = true := by rw [toL_bs]; rfl
  go_enter Tryd.func43, Tryd.ntmps43
  go_wp2_with fail
  go_ret2
  exact ⟨rfl, Below.refl _ _⟩

theorem comp_any (s : ByteArray) (hs : s.size ≤ 1099511627) (w : World) (hr : Ready w) :
    Calls Tryd.prog 43 #[.string s] w fun e w' => e = .returned (.tuple #[.int .i64 (compOf s.data.toList).1, .bool (compOf s.data.toList).2]) ∧ Below w.heap.size w w' := by
  obtain ⟨l, rfl⟩ : ∃ l, s = bs l := ⟨_, bs_of s⟩
  rw [bs_data]
  rcases List.eq_nil_or_concat l with rfl | ⟨l', c, rfl⟩
  · exact comp_none w
  · rw [List.concat_eq_append] at hs ⊢
    rw [comp_snoc]
    rw [bs_size] at hs
    exact comp_some l' c (by simp at hs; omega) w hr

theorem compEnd_range (l : List UInt8) (c : UInt8) : Time (compEnd l c).1 := by
  unfold compEnd
  split
  · exact scale_range l (by omega)
  · split
    · exact scale_range l (by omega)
    · split
      · exact scale_range l (by omega)
      · unfold Time
        simp
end Go.Proofs.YtcpplebgocbnhaaDoor
