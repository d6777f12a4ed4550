/-
  The iterator of trace.EventsOfKind, handed the functions of the law TraceKindIndex (printed by gentrey.py).
-/
import Derived.Test.YtakdkiggaalimaaDoorTrEk
import Derived.OwnWalk
namespace Go.Proofs.YtakdkiggaalimaaDoor
open Go.RowKit Go.Maps

set_option maxRecDepth 100000 in
set_option maxHeartbeats 4000000 in
theorem each51_one (ns : List Int) (sb c q1 q2 : Nat) (A : Option Addr) (J : Nat → World → Prop) (lim : Nat) (w : World) (hn : ns.length ≤ 100000)
    (hJ : ∀ k X, J k X → sb < X.heap.size ∧ X.cell? ⟨sb, 0, none⟩ = some (.slice A ns.length c) ∧ Sl X X.heap.size A (ns.map (Value.int .i64)))
    (hY : ∀ k x X, ns[k]? = some x → k < lim → J k X → Calls Tryd.prog 11 #[.int .i64 x, .pointer (some ⟨q1, 0, none⟩), .pointer (some ⟨q2, 0, none⟩)] X (fun e Y => e = .returned (.bool (decide (k + 1 < lim))) ∧ J (k + 1) Y))
    (h0 : J 0 w) (h1 : 1 ≤ lim) : Calls Tryd.prog 22 #[.func (.func 11) #[] #[.pointer (some ⟨q1, 0, none⟩), .pointer (some ⟨q2, 0, none⟩)], .pointer (some ⟨sb, 0, none⟩)] w (fun e Y => (∃ v, e = .returned v) ∧ J (min lim ns.length) Y) := by
  obtain ⟨y1, y2, y3⟩ := hJ 0 w h0
  have HJ := Lib.hid hJ
  have HY := Lib.hid hY
  have H0 := Lib.hid h0
  obtain ⟨m, hm⟩ : ∃ m, m = ns.length := ⟨_, rfl⟩
  have HM := Lib.hid hm
  have hml : m ≤ 100000 := by omega
  rw [← hm] at y2
  rw [← hm]
  clear hJ hY h0 y3 hn hm
  go_enter Tryd.func22, Tryd.ntmps22
  go_wp2_with fail
  go_loopw [4, 7] (fun _ iv X => ∃ k : Nat, k ≤ m ∧ k < lim ∧ iv = .int .i64 k ∧ J k X) (fun _ iv _ => m - (intOf iv).toNat)
  case atStart => exact ⟨0, Nat.zero_le _, h1, rfl, H0.out⟩
  case round =>
    obtain ⟨k, hk, hkl, rfl, hj⟩ := hrel
    have HJK := Lib.hid hj
    obtain ⟨z1, z2, z3⟩ := HJ.out k wr hj
    rw [← HM.out] at z2
    clear hj
    by_cases hlt : k < m
    · have hlt' : (k : Int) < (m : Int) := by omega
      obtain ⟨x, hx⟩ : ∃ x, ns[k]? = some x := ⟨ns[k]'(by have := HM.out; omega), by simp⟩
      obtain ⟨ab, ao, hA, hab, hac⟩ := z3 k (.int .i64 x) (by rw [List.getElem?_map, hx]; rfl)
      have HC := Lib.hid (HY.out k x wr hx hkl HJK.out)
      subst hA
      have HLT := Lib.hid hlt
      have HKL := Lib.hid hkl
      clear hx z3
      by_cases hgo : k + 1 < lim
      · have d1 : decide (k + 1 < lim) = true := decide_eq_true hgo
        rw [d1] at HC
        have HGO := Lib.hid hgo
        clear hgo d1 hkl
        go_wp2_with fail
        refine HC.out.mono ?_
        rintro e Y ⟨rfl, hj2⟩
        have HJ2 := Lib.hid hj2
        clear hj2
        go_wp2_with fail
        go_roundw
        case rel => exact ⟨k + 1, by omega, HGO.out, by go_num, HJ2.out⟩
        case measure => simp [intOf]; omega
      · have d1 : decide (k + 1 < lim) = false := decide_eq_false hgo
        rw [d1] at HC
        have HE := Lib.hid (show min lim m = k + 1 by omega)
        clear hgo d1 hkl
        go_wp2_with fail
        refine HC.out.mono ?_
        rintro e Y ⟨rfl, hj2⟩
        have HJ2 := Lib.hid hj2
        clear hj2
        go_wp2_with fail
        refine bodyPost_ret (results_none rfl _ _ _) rfl ?_
        exact ⟨⟨_, rfl⟩, by rw [HE.out]; exact HJ2.out⟩
    · obtain rfl : k = m := by omega
      have HE := Lib.hid (show min lim k = k by omega)
      clear hkl hlt
      go_wp2_with fail
      go_end0
      exact ⟨⟨_, rfl⟩, by rw [HE.out]; exact HJK.out⟩
set_option maxRecDepth 100000 in
set_option maxHeartbeats 4000000 in
theorem each51_two (ns : List Int) (sb c q1 : Nat) (A : Option Addr) (J : Nat → World → Prop) (lim : Nat) (w : World) (hn : ns.length ≤ 100000)
    (hJ : ∀ k X, J k X → sb < X.heap.size ∧ X.cell? ⟨sb, 0, none⟩ = some (.slice A ns.length c) ∧ Sl X X.heap.size A (ns.map (Value.int .i64)))
    (hY : ∀ k x X, ns[k]? = some x → k < lim → J k X → Calls Tryd.prog 12 #[.int .i64 x, .pointer (some ⟨q1, 0, none⟩)] X (fun e Y => e = .returned (.bool (decide (k + 1 < lim))) ∧ J (k + 1) Y))
    (h0 : J 0 w) (h1 : 1 ≤ lim) : Calls Tryd.prog 22 #[.func (.func 12) #[] #[.pointer (some ⟨q1, 0, none⟩)], .pointer (some ⟨sb, 0, none⟩)] w (fun e Y => (∃ v, e = .returned v) ∧ J (min lim ns.length) Y) := by
  obtain ⟨y1, y2, y3⟩ := hJ 0 w h0
  have HJ := Lib.hid hJ
  have HY := Lib.hid hY
  have H0 := Lib.hid h0
  obtain ⟨m, hm⟩ : ∃ m, m = ns.length := ⟨_, rfl⟩
  have HM := Lib.hid hm
  have hml : m ≤ 100000 := by omega
  rw [← hm] at y2
  rw [← hm]
  clear hJ hY h0 y3 hn hm
  go_enter Tryd.func22, Tryd.ntmps22
  go_wp2_with fail
  go_loopw [4, 7] (fun _ iv X => ∃ k : Nat, k ≤ m ∧ k < lim ∧ iv = .int .i64 k ∧ J k X) (fun _ iv _ => m - (intOf iv).toNat)
  case atStart => exact ⟨0, Nat.zero_le _, h1, rfl, H0.out⟩
  case round =>
    obtain ⟨k, hk, hkl, rfl, hj⟩ := hrel
    have HJK := Lib.hid hj
    obtain ⟨z1, z2, z3⟩ := HJ.out k wr hj
    rw [← HM.out] at z2
    clear hj
    by_cases hlt : k < m
    · have hlt' : (k : Int) < (m : Int) := by omega
      obtain ⟨x, hx⟩ : ∃ x, ns[k]? = some x := ⟨ns[k]'(by have := HM.out; omega), by simp⟩
      obtain ⟨ab, ao, hA, hab, hac⟩ := z3 k (.int .i64 x) (by rw [List.getElem?_map, hx]; rfl)
      have HC := Lib.hid (HY.out k x wr hx hkl HJK.out)
      subst hA
      have HLT := Lib.hid hlt
      have HKL := Lib.hid hkl
      clear hx z3
      by_cases hgo : k + 1 < lim
      · have d1 : decide (k + 1 < lim) = true := decide_eq_true hgo
        rw [d1] at HC
        have HGO := Lib.hid hgo
        clear hgo d1 hkl
        go_wp2_with fail
        refine HC.out.mono ?_
        rintro e Y ⟨rfl, hj2⟩
        have HJ2 := Lib.hid hj2
        clear hj2
        go_wp2_with fail
        go_roundw
        case rel => exact ⟨k + 1, by omega, HGO.out, by go_num, HJ2.out⟩
        case measure => simp [intOf]; omega
      · have d1 : decide (k + 1 < lim) = false := decide_eq_false hgo
        rw [d1] at HC
        have HE := Lib.hid (show min lim m = k + 1 by omega)
        clear hgo d1 hkl
        go_wp2_with fail
        refine HC.out.mono ?_
        rintro e Y ⟨rfl, hj2⟩
        have HJ2 := Lib.hid hj2
        clear hj2
        go_wp2_with fail
        refine bodyPost_ret (results_none rfl _ _ _) rfl ?_
        exact ⟨⟨_, rfl⟩, by rw [HE.out]; exact HJ2.out⟩
    · obtain rfl : k = m := by omega
      have HE := Lib.hid (show min lim k = k by omega)
      clear hkl hlt
      go_wp2_with fail
      go_end0
      exact ⟨⟨_, rfl⟩, by rw [HE.out]; exact HJK.out⟩
end Go.Proofs.YtakdkiggaalimaaDoor
