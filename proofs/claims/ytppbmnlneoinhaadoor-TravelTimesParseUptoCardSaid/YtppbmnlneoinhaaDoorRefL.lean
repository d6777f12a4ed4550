/-
  The reference's Num, Line and Text.
-/
import Derived.Test.YtppbmnlneoinhaaDoorReadyT
import Derived.Test.YtppbmnlneoinhaaDoorFmtD
import Derived.Test.YtppbmnlneoinhaaDoorCutL
import Derived.Test.YtppbmnlneoinhaaDoorRefN
import Derived.Deep.QuietTactic
import Derived.BigQuiet
import Derived.IntWalk
namespace Go.Proofs.YtppbmnlneoinhaaDoor
open Go.RowKit Go.Maps

theorem ten_slice {n : Nat} (h : n < 10) : (⟨#[48, 49, 50, 51, 52, 53, 54, 55, 56, 57]⟩ : ByteArray).extract n (n + 1) = bs (Lib.decDigits n) := by
  rw [dec_small h]
  obtain rfl | rfl | rfl | rfl | rfl | rfl | rfl | rfl | rfl | rfl : n = 0 ∨ n = 1 ∨ n = 2 ∨ n = 3 ∨ n = 4 ∨ n = 5 ∨ n = 6 ∨ n = 7 ∨ n = 8 ∨ n = 9 := by omega
  all_goals decide
set_option maxRecDepth 100000 in
theorem num8_go : ∀ (k : Nat) (n : Int) (_ : 0 ≤ n) (_ : n.toNat < k) (_ : n ≤ 9223372036854775806) (w : World), Calls Tryd.prog 46 #[.int .i64 n] w fun e w' => e = .returned (.string (bs (Lib.decDigits n.toNat))) ∧ ∃ m, w' = w.drewN m := by
  intro k
  induction k with
  | zero => intro n _ h; omega
  | succ k ih =>
    intro n h0 hk hn w
    by_cases h : n < 10
    · go_enter Tryd.func46, Tryd.ntmps46
      go_wp2_with fail
      go_ret
      refine ⟨ret_str ?_, 0, rfl⟩
      have e1 : (n + 1).toNat = n.toNat + 1 := by omega
      rw [e1]
      exact ten_slice (by omega)
    · have HIH := Lib.hid (fun W : World => ih (n / 10) (by omega) (by omega) (by omega) W)
      have l1 : (bs (Lib.decDigits (n / 10).toNat)).size ≤ 20 := by
        rw [bs_size, Lib.decDigits_length]
        exact Lib.nDigits_le20 _ (by omega)
      have m0 : 0 ≤ n % 10 := by omega
      have m1 : n % 10 < 10 := by omega
      have HM := Lib.hid (show (bs (Lib.decDigits (n / 10).toNat) ++ (⟨#[48, 49, 50, 51, 52, 53, 54, 55, 56, 57]⟩ : ByteArray).extract (n % 10).toNat (n % 10 + 1).toNat) = bs (Lib.decDigits n.toNat) by
        rw [show (n % 10 + 1).toNat = (n % 10).toNat + 1 by omega, ten_slice (by omega), bs_append, dec_big (n := n.toNat) (by omega), show (n / 10).toNat = n.toNat / 10 by omega, show (n % 10).toNat = n.toNat % 10 by omega, dec_small (n := n.toNat % 10) (by omega)])
      have t0 : n.tmod 10 = n % 10 := Int.tmod_eq_emod_of_nonneg h0
      have t6 : n.tdiv 10 = n / 10 := Int.tdiv_eq_ediv_of_nonneg h0
      have t7 : IntKind.i64.wrap (n / 10) = n / 10 := IntWalk.i64_in _ (by omega)
      have t1 : IntKind.i64.wrap (n % 10) = n % 10 := IntWalk.i64_in _ (by omega)
      have t2 : IntKind.i64.wrap (n % 10 + 1) = n % 10 + 1 := IntWalk.i64_in _ (by omega)
      have t3 : n % 10 ≤ n % 10 + 1 := by omega
      have t4 : n % 10 + 1 ≤ 10 := by omega
      have t5 : 0 ≤ n % 10 + 1 := by omega
      clear ih hn hk
      go_enter Tryd.func46, Tryd.ntmps46
      go_wp2_with fail
      go_quiet ((go_at_call 46; exact Calls.quiet_of (HIH.out _)))
      go_wp2_with fail
      go_ret
      exact ⟨ret_str HM.out, _, rfl⟩
theorem num8_any (n : Int) (h0 : 0 ≤ n) (hn : n ≤ 9223372036854775806) (w : World) : Calls Tryd.prog 46 #[.int .i64 n] w fun e w' => e = .returned (.string (bs (Lib.itoa n))) ∧ ∃ m, w' = w.drewN m := by
  rw [itoa_nat h0]
  exact num8_go (n.toNat + 1) n h0 (by omega) hn w
theorem lit32 : (⟨#[32]⟩ : ByteArray) = bs [32] := rfl
theorem lit10 : (⟨#[10]⟩ : ByteArray) = bs [10] := rfl
theorem lit_closed : (⟨#[99, 108, 111, 115, 101, 100]⟩ : ByteArray) = bs [99, 108, 111, 115, 101, 100] := rfl
/-- a change whose numbers are not below 0. -/
def posC (c : ChgT) : Prop := (0 ≤ c.tick ∧ c.tick ≤ 4611686018427387904) ∧ (0 ≤ c.edge ∧ c.edge ≤ 4611686018427387904) ∧ 0 ≤ c.time ∧ c.time ≤ 4611686018427387904
theorem pos_wf {c : ChgT} (h : posC c) : wfC c := by
  unfold posC at h
  unfold wfC
  omega
def lineW (c : ChgT) : List UInt8 := Lib.itoa c.tick ++ [32] ++ Lib.itoa c.edge ++ [32] ++ timeText c.time
theorem lineW_nl (c : ChgT) : lineW c ++ [10] = lineC c := rfl
theorem itoa_bs_len {n : Int} (h0 : 0 ≤ n) (h1 : n ≤ 4611686018427387904) : (bs (Lib.itoa n)).size ≤ 21 := by
  rw [bs_size]
  exact Lib.itoa_length_le _ (by omega) (by omega)
set_option maxRecDepth 100000 in
set_option maxHeartbeats 1000000 in
theorem line8_any (c : ChgT) (hc : posC c) (w : World) : Calls Tryd.prog 28 #[.agg #[.int .i64 c.tick, .int .i64 c.edge, .int .i64 c.time]] w fun e w' => e = .returned (.string (bs (lineW c))) ∧ Below w.heap.size w w' := by
  obtain ⟨tick, edge, time⟩ := c
  obtain ⟨⟨t0, t1⟩, ⟨g0, g1⟩, m0, m1⟩ := hc
  dsimp only at t0 t1 g0 g1 m0 m1
  show Calls Tryd.prog 28 #[.agg #[.int .i64 tick, .int .i64 edge, .int .i64 time]] w _
  have HT := Lib.hid (fun W : World => num8_any tick t0 (by omega) W)
  have HG := Lib.hid (fun W : World => num8_any edge g0 (by omega) W)
  have HM := Lib.hid (fun W : World => num8_any time m0 (by omega) W)
  have l1 := itoa_bs_len t0 t1
  have l2 := itoa_bs_len g0 g1
  have l3 := itoa_bs_len m0 m1
  have HL := Lib.hid (show lineW ⟨tick, edge, time⟩ = Lib.itoa tick ++ [32] ++ Lib.itoa edge ++ [32] ++ timeText time from rfl)
  have HB := Lib.hid (fun (a : Nat) => below_drewN ((Below.refl w.heap.size w).alloc (Nat.le_refl _) (.cells #[.int .i64 tick, .int .i64 edge, .int .i64 time] 57)) a)
  clear t0 t1 g0 g1 m0 m1
  go_enter Tryd.func28, Tryd.ntmps28
  go_wp2_with fail
  go_quiet ((go_at_call 46; (first | (with_reducible exact Calls.quiet_of (HT.out _)) | (with_reducible exact Calls.quiet_of (HG.out _)))))
  by_cases q : time = 4611686018427387904
  · subst q
    go_wp2_with fail
    go_ret
    refine ⟨ret_str ?_, HB.out _⟩
    rw [HL.out, lit32, lit_closed, bs_append, bs_append, bs_append, bs_append]
    rfl
  · have dq : (time == 4611686018427387904) = false := by simpa using q
    go_wp2_with fail
    refine (HM.out _).mono ?_
    rintro e w' ⟨rfl, k, rfl⟩
    go_wp2_with fail
    go_ret
    refine ⟨ret_str ?_, HB.out _⟩
    rw [HL.out, lit32, bs_append, bs_append, bs_append, bs_append]
    unfold timeText
    rw [if_neg q]
theorem ok_pos {m : Nat} (hm : m ≤ 16384) {c : ChgT} (h : okC m c) : posC c := by
  unfold okC at h
  unfold posC
  omega
section
variable {w : World} {E : List EdgeT} {L : List ChgT} {FA LA : Option Addr} {lc : Nat}
set_option maxRecDepth 100000 in
set_option maxHeartbeats 1000000 in
theorem text8_any (h : RoadsAt w E L FA LA lc) (fc : Nat) (hl : L.length ≤ 10000) (hp : ∀ c ∈ L, posC c) :
    Calls Tryd.prog 11 #[.agg #[.slice FA E.length fc, .slice LA L.length lc]] w fun e w' => e = .returned (.string (bs (textC L))) ∧ Below w.heap.size w w' := by
  obtain ⟨m, hm⟩ : ∃ m, m = L.length := ⟨_, rfl⟩
  have HM := Lib.hid hm
  rw [← hm] at hl ⊢
  obtain ⟨W, hW⟩ : ∃ W, W = w.alloc (.cells #[.slice FA E.length fc, .slice LA m lc] 28) := ⟨_, rfl⟩
  have HB0 := Lib.hid (show Below w.heap.size w W from by rw [hW]; exact (Below.refl w.heap.size w).alloc (Nat.le_refl _) _)
  have HH := Lib.hid h.list
  have HW := Lib.hid hW
  have HP := Lib.hid hp
  clear h hW hm hp
  go_enter Tryd.func11, Tryd.ntmps11
  go_wp2_with fail
  rw [← HW.out]
  go_loopw [3, 5, 9] (fun v _ iv wr => ∃ k : Nat, k ≤ m ∧ iv = .int .i64 k ∧ v = .string (bs (textC (L.take k))) ∧ Below w.heap.size w wr) (fun _ _ i _ => m - (intOf i).toNat)
  case atStart => exact ⟨0, Nat.zero_le _, rfl, rfl, HB0.out⟩
  case round =>
    obtain ⟨k, hk, rfl, rfl, hb⟩ := hrel
    have HB := Lib.hid hb
    by_cases hlt : k < m
    · obtain ⟨d, hd⟩ : ∃ d, L[k]? = some d := ⟨L[k]'(by have := HM.out; omega), by simp⟩
      obtain ⟨b', o', rfl, _, p0, p1, p2⟩ := chg_at (HH.out.below HB.out) hd
      have HTK := Lib.hid (textC_take hd)
      have hsz : (bs (textC (L.take k))).size ≤ 1000000 := by
        rw [bs_size]
        have h1 := textC_len (L := L.take k) (fun c hc => pos_wf (HP.out c (List.mem_of_mem_take hc)))
        have h2 := List.length_take_le k L
        omega
      have hln : (bs (lineW d)).size ≤ 70 := by
        rw [bs_size]
        have h1 := lineC_len (pos_wf (HP.out d (List.mem_of_getElem? hd)))
        rw [← lineW_nl, List.length_append] at h1
        omega
      have HLN := Lib.hid (fun W : World => line8_any d (HP.out d (List.mem_of_getElem? hd)) W)
      have HB1 := Lib.hid (HB.out.alloc HB.out.size (.cells #[.int .i64 d.tick, .int .i64 d.edge, .int .i64 d.time] 57))
      clear hb hd
      go_wp2_with fail
      refine (HLN.out _).mono ?_
      rintro e w2 ⟨rfl, hb2⟩
      have HB2 := Lib.hid (HB1.out.trans (hb2.mono HB1.out.size))
      clear hb2
      go_wp2_with fail
      go_roundw
      case rel =>
        refine ⟨k + 1, by omega, by go_num, ?_, HB2.out⟩
        rw [HTK.out, lit10, bs_append, bs_append, List.append_assoc, lineW_nl]
      case measure => simp [intOf]; omega
    · have hkk : k = m := by omega
      subst hkk
      clear hb
      go_wp2_with fail
      go_ret
      refine ⟨ret_str ?_, HB.out⟩
      rw [HM.out, List.take_length]
end
end Go.Proofs.YtppbmnlneoinhaaDoor
