/-
  protocol.number.
-/
import Derived.Test.YtbbklideciappaaGreatDoorPqB
import Derived.Test.YtbbklideciappaaGreatDoorRunP
import Derived.Lib.AtoiAllCases
namespace Go.Proofs.YtbbklideciappaaGreatDoor
open Go.RowKit

/-- z and b are what number makes of the text l. -/
def NumR (l : List UInt8) (z : Int) (b : Bool) : Prop := (∀ n : Nat, n ≤ 1000000000 → Lib.decDigits n = l → z = n ∧ b = true) ∧ (b = true → 0 ≤ z ∧ Lib.decDigits z.toNat = l)
def RetNm (l : List UInt8) (w : World) (e : Ending) (w' : World) : Prop := (∃ z b, NumR l z b ∧ e = .returned (.tuple #[.int .i64 z, .bool b])) ∧ Below w.heap.size w w'
theorem atoi_dec (n : Nat) (h : n ≤ 1000000000) : Lib.atoiAll (Lib.decDigits n) = .ok n := by
  have := atoi_itoa (n := (n : Int)) (by omega) (by omega)
  rwa [show Lib.itoa (n : Int) = Lib.decDigits n by rw [itoa_nat (by omega)]; rfl] at this
set_option maxRecDepth 100000 in
set_option maxHeartbeats 1000000 in
theorem number_any (s : ByteArray) (hs : s.size ≤ 1099511627776) (w : World) (hr : Ready w) : Calls Tryz.prog 50 #[.string s] w (RetNm s.data.toList w) := by
  have HAT := Lib.hid (atoi_any s hs w hr)
  have HR := Lib.hid hr
  clear hr
  go_enter Tryz.func50, Tryz.ntmps50
  go_wp2_with fail
  refine HAT.out.mono ?_
  rintro e w2 ⟨⟨n, hn, rfl⟩ | ⟨hno, n, N, rfl⟩, hb2⟩
  · have HR2 := Lib.hid (HR.out.below hb2)
    have HB2 := Lib.hid hb2
    have HN := Lib.hid hn
    have HNO : Hid (∀ m : Nat, m ≤ 1000000000 → Lib.decDigits m = s.data.toList → n = m) := Lib.hid (fun m hm e => by
      have h1 := atoi_dec m hm
      rw [e, hn] at h1
      cases h1
      rfl)
    have HWF := Lib.hid (Lib.atoiAll_bounds hn)
    clear hb2 hn HAT
    by_cases h0 : n < 0
    · go_wp2_with fail
      go_ret2
      exact ⟨⟨0, false, ⟨(fun m hm e => by have := HNO.out m hm e; omega), (fun h => by cases h)⟩, rfl⟩, HB2.out⟩
    · have HIT := Lib.hid (itoaZ_any n (by omega) HWF.out.2 w2 HR2.out)
      by_cases hq : bs (dec n) = s
      · have HE := Lib.hid (show Lib.decDigits n.toNat = s.data.toList by rw [← hq, bs_data]; rfl)
        rw [hq] at HIT
        clear hq
        go_wp2_with fail
        refine HIT.out.mono ?_
        rintro e w3 ⟨rfl, hb3⟩
        have HB3 := Lib.hid hb3
        clear hb3
        go_wp2_with fail
        go_ret2
        exact ⟨⟨n, true, ⟨(fun m hm e => ⟨HNO.out m hm e, rfl⟩), (fun _ => ⟨by omega, HE.out⟩)⟩, rfl⟩, below_then HB2.out HB3.out⟩
      · have HE := Lib.hid (show dec n ≠ s.data.toList from fun e => hq (by rw [e]; exact (bs_of s).symm))
        obtain ⟨y, hy⟩ : ∃ y, y = bs (dec n) := ⟨_, rfl⟩
        rw [← hy] at hq HIT
        have hne : (y.toList == s.toList) = false := str_ne hq
        clear hy hq
        go_wp2_with fail
        refine HIT.out.mono ?_
        rintro e w3 ⟨rfl, hb3⟩
        have HB3 := Lib.hid hb3
        clear hb3
        go_wp2_with fail
        go_ret2
        refine ⟨⟨0, false, ⟨(fun m hm e => absurd ?_ HE.out), (fun h => by cases h)⟩, rfl⟩, below_then HB2.out HB3.out⟩
        rw [HNO.out m hm e]
        exact e
  · have HB2 := Lib.hid hb2
    have HNO := Lib.hid hno
    clear hb2 hno HAT
    go_wp2_with fail
    go_ret2
    exact ⟨⟨0, false, ⟨(fun m hm e => absurd (by rw [← e]; exact atoi_dec m hm) (HNO.out m)), (fun h => by cases h)⟩, rfl⟩, HB2.out⟩
end Go.Proofs.YtbbklideciappaaGreatDoor
