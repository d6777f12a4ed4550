/-
  The clock: what Parse computes: the time whose text it is, or ErrSyntax.
-/
import Derived.Test.YtcpplebgocbnhaaDoorClockC
namespace Go.Proofs.YtcpplebgocbnhaaDoor
open Go.RowKit

theorem toL (a : ByteArray) : a.toList = a.data.toList := ByteArray.toList_eq a
theorem toL_bs (l : List UInt8) : (bs l).toList = l := by rw [toL, bs_data]
theorem toL_inj {a b : ByteArray} (h : a.toList = b.toList) : a = b := by
  rw [toL, toL] at h
  exact ByteArray.ext (Array.toList_inj.1 h)
theorem below_drewN (w : World) (n : Nat) : Below w.heap.size w (w.drewN n) := ⟨rfl, rfl, rfl, Nat.le_refl _, fun _ _ => rfl⟩
theorem cut_any (s sep : ByteArray) (p r : List UInt8) (b : Bool) (h : Lib.cut s.data.toList sep.data.toList = (p, r, b)) (hs : s.size ≤ 1099511627) (w : World) (hr : Ready w) :
    Calls Tryd.prog 36 #[.string s, .string sep] w fun e w' => e = .returned (.tuple #[.string (bs p), .string (bs r), .bool b]) ∧ Below w.heap.size w w' := by
  obtain ⟨m, hm⟩ := hr.most
  refine (Tryd.strings_Cut s sep m w (by omega) hm).mono ?_
  rintro e w' ⟨rfl, n, rfl⟩
  rw [h]
  exact ⟨rfl, below_drewN _ _⟩

theorem cut_len (s sep : List UInt8) : (Lib.cut s sep).1.length ≤ s.length ∧ (Lib.cut s sep).2.1.length ≤ s.length := by
  unfold Lib.cut
  split
  · simp; omega
  · simp

def Time (x : Int) : Prop := 0 ≤ x ∧ x ≤ 4611686018427387904

theorem unit0 (w : World) : (Instr.index 50 (.agg #[.int .i64 3600, .int .i64 60, .int .i64 1]) (.int .i64 0)).run Tryd.prog w = .ok (.int .i64 3600) w := by kernel_rfl
theorem unit1 (w : World) : (Instr.index 50 (.agg #[.int .i64 3600, .int .i64 60, .int .i64 1]) (.int .i64 1)).run Tryd.prog w = .ok (.int .i64 60) w := by kernel_rfl
theorem unit2 (w : World) : (Instr.index 50 (.agg #[.int .i64 3600, .int .i64 60, .int .i64 1]) (.int .i64 2)).run Tryd.prog w = .ok (.int .i64 1) w := by kernel_rfl

theorem hold_time {x : Int} (h : Time x) : hold x = x := by
  unfold Time at h
  unfold hold
  omega
theorem plus_time (a b : Int) : Time (plus a b) := by
  unfold Time plus hold
  omega

set_option maxRecDepth 100000 in
set_option maxHeartbeats 2000000 in
theorem parse_bad (s : ByteArray) (hs : s.size ≤ 1099511627) (hno : ∀ x, Time x → bs (text x) ≠ s) (w : World) (hr : Ready w) :
    Calls Tryd.prog 17 #[.string s] w fun e w' => e = .returned (.tuple #[.int .i64 0, .int .i64 2]) ∧ Below w.heap.size w w' := by
  go_enter Tryd.func17, Tryd.ntmps17
  have hn : (s.toList == [110, 101, 118, 101, 114]) = false := by
    rw [beq_eq_false_iff_ne]
    exact fun e => hno 4611686018427387904 (by unfold Time; omega) (toL_inj ((toL_bs _).trans e.symm))
  have HNO := Lib.hid hno
  clear hno
  go_wp2_with fail
  have hcl := cut_len s.data.toList [100, 32]
  obtain ⟨⟨p, r, b⟩, hc⟩ : ∃ c, Lib.cut s.data.toList [100, 32] = c := ⟨_, rfl⟩
  rw [hc] at hcl
  have hsz : s.data.toList.length = s.size := by simp
  have hp : (bs p).size ≤ 1099511627 := by rw [bs_size]; exact Nat.le_trans hcl.1 (by omega)
  refine (cut_any s ⟨#[100, 32]⟩ p r b hc (by omega) w hr).mono ?_
  clear hcl hc
  rintro e w1 ⟨rfl, hb1⟩
  have hr1 := hr.below hb1
  have HB1 := Lib.hid hb1
  clear hb1
  cases b with
  | false =>
    go_wp2_with fail
    go_ret2
    exact ⟨rfl, HB1.out⟩
  | true =>
    by_cases hz : (bs r).size = 8
    · go_wp2_with fail
      refine (scale_any (bs p) (by omega) 86400 (by omega) (by omega) w1 hr1).mono ?_
      have hsr := scale_range (bs p).data.toList (u := 86400) (by omega)
      obtain ⟨⟨t, f⟩, hf⟩ : ∃ c, scaleOf (bs p).data.toList 86400 = c := ⟨_, rfl⟩
      rw [hf] at hsr ⊢
      clear hf
      simp only at hsr ⊢
      rintro e w2 ⟨rfl, hb2⟩
      have hr2 := hr1.below hb2
      have HB2 := Lib.hid (below_then HB1.out hb2)
      clear hb2 HB1
      cases f with
      | false =>
        go_wp2_with fail
        go_ret2
        exact ⟨rfl, HB2.out⟩
      | true =>
        go_wp2_with fail
        go_loopw [7, 38] (fun tv i wr => ∃ (k : Nat) (x : Int), k ≤ 3 ∧ i = .int .i64 k ∧ tv = .int .i64 x ∧ Time x ∧ Ready wr ∧ Below w.heap.size w wr) (fun _ i _ => 3 - (intOf i).toNat)
        case atStart => exact ⟨0, t, by omega, rfl, rfl, hsr, hr2.below ((Below.refl _ w2).alloc (Nat.le_refl _) _), HB2.out.alloc HB2.out.size _⟩
        case round =>
          obtain ⟨k, x, hk, rfl, rfl, hx, hrr, hbr⟩ := hrel
          have HBR := Lib.hid hbr
          clear hbr hsr
          have hk4 : k = 0 ∨ k = 1 ∨ k = 2 ∨ k = 3 := by omega
          rcases hk4 with rfl | rfl | rfl | rfl
          · have hun := unit0 wr
            go_wp2_with fail
            refine (scale_any ((bs r).extract 0 2) (by rw [ByteArray.size_extract]; omega) 3600 (by omega) (by omega) wr hrr).mono ?_
            have hsr := scale_range ((bs r).extract 0 2).data.toList (u := 3600) (by omega)
            obtain ⟨⟨t2, f2⟩, hf⟩ : ∃ c, scaleOf ((bs r).extract 0 2).data.toList 3600 = c := ⟨_, rfl⟩
            rw [hf] at hsr ⊢
            clear hf
            simp only at hsr ⊢
            rintro e w3 ⟨rfl, hb3⟩
            have hr3 := hrr.below hb3
            have HB3 := Lib.hid (below_then HBR.out hb3)
            clear hb3 HBR
            cases f2 with
            | false =>
              go_wp2_with fail
              go_ret2
              exact ⟨rfl, HB3.out⟩
            | true =>
              go_wp2_with fail
              refine (add_any _ _ _).mono ?_
              rintro e w4 ⟨rfl, rfl⟩
              have hpl := plus_time x t2
              go_wp2_with fail
              go_roundw
              case rel => exact ⟨1, plus x t2, by omega, rfl, rfl, hpl, hr3, HB3.out⟩
              case measure => simp [intOf]
          · have hun := unit1 wr
            go_wp2_with fail
            refine (scale_any ((bs r).extract 3 5) (by rw [ByteArray.size_extract]; omega) 60 (by omega) (by omega) wr hrr).mono ?_
            have hsr := scale_range ((bs r).extract 3 5).data.toList (u := 60) (by omega)
            obtain ⟨⟨t2, f2⟩, hf⟩ : ∃ c, scaleOf ((bs r).extract 3 5).data.toList 60 = c := ⟨_, rfl⟩
            rw [hf] at hsr ⊢
            clear hf
            simp only at hsr ⊢
            rintro e w3 ⟨rfl, hb3⟩
            have hr3 := hrr.below hb3
            have HB3 := Lib.hid (below_then HBR.out hb3)
            clear hb3 HBR
            cases f2 with
            | false =>
              go_wp2_with fail
              go_ret2
              exact ⟨rfl, HB3.out⟩
            | true =>
              go_wp2_with fail
              refine (add_any _ _ _).mono ?_
              rintro e w4 ⟨rfl, rfl⟩
              have hpl := plus_time x t2
              go_wp2_with fail
              go_roundw
              case rel => exact ⟨2, plus x t2, by omega, rfl, rfl, hpl, hr3, HB3.out⟩
              case measure => simp [intOf]
          · have hun := unit2 wr
            go_wp2_with fail
            refine (scale_any ((bs r).extract 6 8) (by rw [ByteArray.size_extract]; omega) 1 (by omega) (by omega) wr hrr).mono ?_
            have hsr := scale_range ((bs r).extract 6 8).data.toList (u := 1) (by omega)
            obtain ⟨⟨t2, f2⟩, hf⟩ : ∃ c, scaleOf ((bs r).extract 6 8).data.toList 1 = c := ⟨_, rfl⟩
            rw [hf] at hsr ⊢
            clear hf
            simp only at hsr ⊢
            rintro e w3 ⟨rfl, hb3⟩
            have hr3 := hrr.below hb3
            have HB3 := Lib.hid (below_then HBR.out hb3)
            clear hb3 HBR
            cases f2 with
            | false =>
              go_wp2_with fail
              go_ret2
              exact ⟨rfl, HB3.out⟩
            | true =>
              go_wp2_with fail
              refine (add_any _ _ _).mono ?_
              rintro e w4 ⟨rfl, rfl⟩
              have hpl := plus_time x t2
              go_wp2_with fail
              go_roundw
              case rel => exact ⟨3, plus x t2, by omega, rfl, rfl, hpl, hr3, HB3.out⟩
              case measure => simp [intOf]
          · go_wp2_with fail
            refine (format_any x wr hrr).mono ?_
            rintro e w5 ⟨rfl, hb5⟩
            rw [hold_time hx]
            have hne : ((bs (text x)).toList == s.toList) = false := by
              rw [beq_eq_false_iff_ne]
              exact fun e => HNO.out x hx (toL_inj e)
            have HB5 := Lib.hid (below_then HBR.out hb5)
            clear hb5 HBR
            go_wp2_with fail
            go_ret2
            exact ⟨rfl, HB5.out⟩
    · have hz2 : ((bs r).size : Int) ≠ 8 := by omega
      go_wp2_with fail
      go_ret2
      exact ⟨rfl, HB1.out⟩

end Go.Proofs.YtcpplebgocbnhaaDoor
