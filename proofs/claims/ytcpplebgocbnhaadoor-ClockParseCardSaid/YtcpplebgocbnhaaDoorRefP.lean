/-
  The reference's clock: what it computes, for every text.
-/
import Derived.Test.YtcpplebgocbnhaaDoorRefE
import Derived.Deep.QuietTactic
import Derived.BigQuiet
namespace Go.Proofs.YtcpplebgocbnhaaDoor
open Go.RowKit Go.Maps

def daysFrom : Int → List UInt8 → Option Int
  | d, [] => some d
  | d, c :: r => if c.toNat < 48 ∨ 57 < c.toNat ∨ 100000000000000 < d then none else daysFrom (10 * d + c.toNat - 48) r
def byL : List Int := [36000, 3600, 0, 600, 60, 0, 10, 1]
theorem by_at {k : Nat} (h : k < 8) : ∃ b, byL[k]? = some b := by
  have hl : k < byL.length := h
  exact ⟨byL[k], List.getElem?_eq_getElem hl⟩
theorem by_range {k : Nat} {b : Int} (h : byL[k]? = some b) : 0 ≤ b ∧ b ≤ 36000 := by
  have hall : ∀ b ∈ byL, 0 ≤ b ∧ b ≤ 36000 := by decide
  exact hall b (List.mem_of_getElem? h)
def secFrom : Int → List Int → List UInt8 → Option Int
  | s, b :: bl, c :: r => if 0 < b ∧ (c.toNat < 48 ∨ 57 < c.toNat) then none else secFrom (s + b * (c.toNat - 48)) bl r
  | s, _, _ => some s
theorem sec_end (x : Int) (r : List UInt8) : secFrom x (byL.drop 8) r = some x := by
  show secFrom x [] r = some x
  cases r <;> rfl
theorem drewN_add (w : World) (a b : Nat) : (w.drewN a).drewN b = w.drewN (a + b) := by
  simp [World.drewN, Nat.add_assoc]
def clockOf (l : List UInt8) : Int :=
  if l.length < 11 ∨ 30 < l.length then -1
  else match daysFrom 0 (l.take (l.length - 10)) with
    | none => -1
    | some d => match secFrom 0 byL (l.drop (l.length - 8)) with
      | none => -1
      | some x => worthOf x 86400 d

set_option maxRecDepth 100000 in
set_option maxHeartbeats 2000000 in
theorem clock_any (s : ByteArray) (hs : s.size ≤ 1099511627) (w : World) :
    Calls Tryd.prog 40 #[.string s] w fun e w' => e = .returned (.int .i64 (clockOf s.data.toList)) ∧ Below w.heap.size w w' := by
  have hsz : s.data.toList.length = s.size := by simp
  by_cases hlen : s.size < 11 ∨ 30 < s.size
  · have HC : Hid (clockOf s.data.toList = -1) := Lib.hid (by unfold clockOf; rw [if_pos (by omega)])
    go_enter Tryd.func40, Tryd.ntmps40
    rcases hlen with h | h
    · have h2 : (s.size : Int) < 11 := by omega
      go_wp2_with fail
      go_ret
      exact ⟨ret_int HC.out.symm, Below.refl _ _⟩
    · have h2 : ¬ (s.size : Int) < 11 := by omega
      have h3 : (30 : Int) < s.size := by omega
      go_wp2_with fail
      go_ret
      exact ⟨ret_int HC.out.symm, Below.refl _ _⟩
  · have g1 : 11 ≤ s.size := by omega
    have g2 : s.size ≤ 30 := by omega
    have HC : Hid (clockOf s.data.toList = match daysFrom 0 (s.data.toList.take (s.size - 10)) with | none => -1 | some d => match secFrom 0 byL (s.data.toList.drop (s.size - 8)) with | none => -1 | some x => worthOf x 86400 d) := Lib.hid (by
      unfold clockOf
      rw [if_neg (by omega), hsz])
    clear hlen
    go_enter Tryd.func40, Tryd.ntmps40
    go_wp2_with fail
    go_loop [3, 4] (fun dv i => ∃ (k : Nat) (d : Int), k ≤ s.size - 10 ∧ i = .int .i64 k ∧ dv = .int .i64 d ∧ 0 ≤ d ∧ d ≤ 1000000000000009 ∧ daysFrom 0 (s.data.toList.take (s.size - 10)) = daysFrom d ((s.data.toList.take (s.size - 10)).drop k)) (fun _ i => s.size - (intOf i).toNat)
    case atStart => exact ⟨0, 0, by omega, rfl, rfl, by omega, by omega, rfl⟩
    case round =>
      obtain ⟨k, d, hk, rfl, rfl, d0, d1, hdy⟩ := hrel
      have HD := Lib.hid hdy
      clear hdy
      by_cases hlt : k < s.size - 10
      · have hks : k < s.size := by omega
        have hdr : (s.data.toList.take (s.size - 10)).drop k = s[k] :: (s.data.toList.take (s.size - 10)).drop (k + 1) := by
          have hl : k < (s.data.toList.take (s.size - 10)).length := by rw [List.length_take]; omega
          rw [List.drop_eq_getElem_cons hl, List.getElem_take]
          rfl
        have HR := Lib.hid hdr
        clear hdr
        have hc255 : s[k].toNat ≤ 255 := by have := s[k].toNat_lt; omega
        have hlt2 : (k : Int) < (s.size : Int) - 10 := by omega
        have stop : (s[k].toNat < 48 ∨ 57 < s[k].toNat ∨ 100000000000000 < d) → clockOf s.data.toList = -1 := by
          intro q
          rw [HC.out, HD.out, HR.out, daysFrom, if_pos q]
        have hcs : s[k].toNat < 48 ∨ (¬ s[k].toNat < 48 ∧ 57 < s[k].toNat) ∨ (¬ s[k].toNat < 48 ∧ ¬ 57 < s[k].toNat ∧ 100000000000000 < d) ∨ (¬ s[k].toNat < 48 ∧ ¬ 57 < s[k].toNat ∧ ¬ 100000000000000 < d) := by omega
        rcases hcs with q | ⟨q1, q⟩ | ⟨q1, q2, q⟩ | ⟨q1, q2, q3⟩
        · have HS := Lib.hid (stop (.inl q))
          clear stop
          have e1 : decide (((s[k].toNat : Int) < 48)) = true := by simp only [decide_eq_true_eq]; omega
          go_wp2_with fail
          go_ret
          exact ⟨ret_int HS.out.symm, Below.refl _ _⟩
        · have HS := Lib.hid (stop (.inr (.inl q)))
          clear stop
          have e1 : decide (((s[k].toNat : Int) < 48)) = false := by simp only [decide_eq_false_iff_not]; omega
          have e2 : decide (((57 : Int) < (s[k].toNat : Int))) = true := by simp only [decide_eq_true_eq]; omega
          go_wp2_with fail
          go_ret
          exact ⟨ret_int HS.out.symm, Below.refl _ _⟩
        · have HS := Lib.hid (stop (.inr (.inr q)))
          clear stop
          have e1 : decide (((s[k].toNat : Int) < 48)) = false := by simp only [decide_eq_false_iff_not]; omega
          have e2 : decide (((57 : Int) < (s[k].toNat : Int))) = false := by simp only [decide_eq_false_iff_not]; omega
          have e3 : decide (((100000000000000 : Int) < d)) = true := by simp only [decide_eq_true_eq]; omega
          go_wp2_with fail
          go_ret
          exact ⟨ret_int HS.out.symm, Below.refl _ _⟩
        · clear stop
          have hst : daysFrom 0 (s.data.toList.take (s.size - 10)) = daysFrom (10 * d + s[k].toNat - 48) ((s.data.toList.take (s.size - 10)).drop (k + 1)) := by
            rw [HD.out, HR.out, daysFrom, if_neg (by omega)]
          have HST := Lib.hid hst
          clear hst
          have e1 : decide (((s[k].toNat : Int) < 48)) = false := by simp only [decide_eq_false_iff_not]; omega
          have e2 : decide (((57 : Int) < (s[k].toNat : Int))) = false := by simp only [decide_eq_false_iff_not]; omega
          have e3 : decide (((100000000000000 : Int) < d)) = false := by simp only [decide_eq_false_iff_not]; omega
          go_wp2_with fail
          go_round
          case rel => exact ⟨k + 1, 10 * d + s[k].toNat - 48, by omega, by go_num, rfl, by omega, by omega, HST.out⟩
          case measure => simp [intOf]; omega
      · have hkk : k = s.size - 10 := by omega
        subst hkk
        have he : daysFrom 0 (s.data.toList.take (s.size - 10)) = some d := by
          rw [HD.out, List.drop_eq_nil_of_le (by rw [List.length_take]; omega)]
          rfl
        have HE := Lib.hid he
        clear he HD
        have hlt2 : ¬ ((s.size - 10 : Nat) : Int) < (s.size : Int) - 10 := by omega
        go_wp2_with fail
        have hcell : ∀ (k : Nat) (b : Int), byL[k]? = some b → (w.alloc (.cells #[.int .i64 36000, .int .i64 3600, .int .i64 0, .int .i64 600, .int .i64 60, .int .i64 0, .int .i64 10, .int .i64 1] 2)).cell? ⟨w.heap.size, k, none⟩ = some (.int .i64 b) := by
          intro k b hb
          have hk := (List.getElem?_eq_some_iff.1 hb).1
          have h8 : k < 8 := hk
          have hk8 : k = 0 ∨ k = 1 ∨ k = 2 ∨ k = 3 ∨ k = 4 ∨ k = 5 ∨ k = 6 ∨ k = 7 := by omega
          rcases hk8 with rfl | rfl | rfl | rfl | rfl | rfl | rfl | rfl <;> (cases hb; simp)
        have hbel : Below w.heap.size w (w.alloc (.cells #[.int .i64 36000, .int .i64 3600, .int .i64 0, .int .i64 600, .int .i64 60, .int .i64 0, .int .i64 10, .int .i64 1] 2)) := (Below.refl _ _).alloc (Nat.le_refl _) _
        obtain ⟨w1, hw1⟩ : ∃ w1, w1 = w.alloc (.cells #[.int .i64 36000, .int .i64 3600, .int .i64 0, .int .i64 600, .int .i64 60, .int .i64 0, .int .i64 10, .int .i64 1] 2) := ⟨_, rfl⟩
        rw [← hw1] at hcell hbel ⊢
        clear hw1
        have hT : (s.extract (s.size - 8) s.size).data.toList = s.data.toList.drop (s.size - 8) := by
          rw [Lib.extract_data]
          exact List.take_of_length_le (by rw [List.length_drop]; omega)
        have hTz : (s.extract (s.size - 8) s.size).size = 8 := by rw [ByteArray.size_extract]; omega
        obtain ⟨T, hTd⟩ : ∃ T, T = s.extract (s.size - 8) s.size := ⟨_, rfl⟩
        rw [← hTd] at hT hTz ⊢
        clear hTd
        rw [← hT] at HC
        have HT := Lib.hid hT
        have HCE := Lib.hid hcell
        have HBW := Lib.hid hbel
        clear hcell hbel hT
        go_loopw [6, 8] (fun sv i wr => ∃ (k : Nat) (x : Int), (∃ q, wr = w1.drewN q) ∧ k ≤ 8 ∧ i = .int .i64 k ∧ sv = .int .i64 x ∧ 0 ≤ x ∧ x ≤ 1000000 * k ∧ secFrom 0 byL T.data.toList = secFrom x (byL.drop k) (T.data.toList.drop k)) (fun _ i _ => 8 - (intOf i).toNat)
        case atStart => exact ⟨0, 0, ⟨0, rfl⟩, by omega, rfl, rfl, by omega, by omega, rfl⟩
        case round =>
          obtain ⟨k, x, ⟨q0, hwr⟩, hk8, rfl, rfl, x0, x1, hsx⟩ := hrel
          have hbw : Below w.heap.size w wr := by rw [hwr]; exact below_then HBW.out (below_drewN _ _)
          have hce : ∀ (k : Nat) (b : Int), byL[k]? = some b → wr.cell? ⟨w.heap.size, k, none⟩ = some (.int .i64 b) := by rw [hwr]; exact HCE.out
          have HWR := Lib.hid hwr
          have HBR := Lib.hid hbw
          have HCR := Lib.hid hce
          clear hwr hbw hce
          have HX := Lib.hid hsx
          clear hsx
          by_cases hlt8 : k < 8
          · obtain ⟨b, hb⟩ : ∃ b, byL[k]? = some b := by_at hlt8
            have hcb := HCR.out k b hb
            have hbb := by_range hb
            have hbd : byL.drop k = b :: byL.drop (k + 1) := by
              have hl := (List.getElem?_eq_some_iff.1 hb).1
              rw [List.drop_eq_getElem_cons hl, (List.getElem?_eq_some_iff.1 hb).2]
            have hkT : k < T.size := by omega
            have htd : T.data.toList.drop k = T[k] :: T.data.toList.drop (k + 1) := by
              have hl : k < T.data.toList.length := by simpa using hkT
              rw [List.drop_eq_getElem_cons hl]
              rfl
            have HBD := Lib.hid hbd
            have HTD := Lib.hid htd
            clear hb hbd htd
            have hc255 : T[k].toNat ≤ 255 := by have := T[k].toNat_lt; omega
            have stop : 0 < b ∧ (T[k].toNat < 48 ∨ 57 < T[k].toNat) → clockOf s.data.toList = -1 := by
              intro q
              rw [HC.out, HE.out]
              simp only
              rw [HX.out, HBD.out, HTD.out, secFrom, if_pos q]
            by_cases hpos : 0 < b
            · have hcs : T[k].toNat < 48 ∨ (¬ T[k].toNat < 48 ∧ 57 < T[k].toNat) ∨ (¬ T[k].toNat < 48 ∧ ¬ 57 < T[k].toNat) := by omega
              rcases hcs with q | ⟨q1, q⟩ | ⟨q1, q2⟩
              · have HS := Lib.hid (stop ⟨hpos, .inl q⟩)
                clear stop
                have e1 : decide ((T[k].toNat : Int) < 48) = true := by simp only [decide_eq_true_eq]; omega
                go_wp2_with fail
                go_ret
                exact ⟨ret_int HS.out.symm, HBR.out⟩
              · have HS := Lib.hid (stop ⟨hpos, .inr q⟩)
                clear stop
                have e1 : decide ((T[k].toNat : Int) < 48) = false := by simp only [decide_eq_false_iff_not]; omega
                have e2 : decide ((57 : Int) < (T[k].toNat : Int)) = true := by simp only [decide_eq_true_eq]; omega
                go_wp2_with fail
                go_ret
                exact ⟨ret_int HS.out.symm, HBR.out⟩
              · clear stop
                have hst : secFrom 0 byL T.data.toList = secFrom (x + b * (T[k].toNat - 48)) (byL.drop (k + 1)) (T.data.toList.drop (k + 1)) := by
                  rw [HX.out, HBD.out, HTD.out, secFrom, if_neg (by omega)]
                have m0 : 0 ≤ b * ((T[k].toNat : Int) - 48) := Int.mul_nonneg (by omega) (by omega)
                have m1 : b * ((T[k].toNat : Int) - 48) ≤ 36000 * 9 := Int.mul_le_mul (by omega) (by omega) (by omega) (by omega)
                have HST := Lib.hid hst
                clear hst
                have e1 : decide ((T[k].toNat : Int) < 48) = false := by simp only [decide_eq_false_iff_not]; omega
                have e2 : decide ((57 : Int) < (T[k].toNat : Int)) = false := by simp only [decide_eq_false_iff_not]; omega
                go_wp2_with fail
                go_quiet (fail)
                go_wp2_with fail
                go_roundw
                case rel =>
                  refine ⟨k + 1, x + b * ((T[k].toNat : Int) - 48), ⟨q0 + nq, ?_⟩, by omega, by go_num, rfl, by omega, by omega, HST.out⟩
                  rw [HWR.out]
                  exact drewN_add _ _ _
                case measure => simp [intOf]; omega
            · have hb0 : b = 0 := by omega
              clear stop
              have hst : secFrom 0 byL T.data.toList = secFrom (x + b * (T[k].toNat - 48)) (byL.drop (k + 1)) (T.data.toList.drop (k + 1)) := by
                rw [HX.out, HBD.out, HTD.out, secFrom, if_neg (by omega)]
              rw [hb0, Int.zero_mul, Int.add_zero] at hst
              have HST := Lib.hid hst
              rw [hb0] at hcb
              clear hst hb0 hpos
              go_wp2_with fail
              go_quiet (fail)
              go_wp2_with fail
              go_roundw
              case rel =>
                refine ⟨k + 1, x, ⟨q0 + nq, ?_⟩, by omega, by go_num, by simp, by omega, by omega, HST.out⟩
                rw [HWR.out]
                exact drewN_add _ _ _
              case measure => simp [intOf]; omega
          · have hk9 : k = 8 := by omega
            subst hk9
            have hse : secFrom 0 byL T.data.toList = some x := by
              rw [HX.out]
              exact sec_end x _
            have hv : clockOf s.data.toList = worthOf x 86400 d := by
              rw [HC.out, HE.out]
              simp only
              rw [hse]
            have HV := Lib.hid hv
            clear hse hv
            go_wp2_with fail
            refine (worth_any x 86400 d (by omega) (by omega) (by omega) (by omega) d0 _).mono ?_
            rintro e w2 ⟨rfl, rfl⟩
            go_wp2_with fail
            go_ret
            exact ⟨ret_int HV.out.symm, HBR.out⟩
end Go.Proofs.YtcpplebgocbnhaaDoor
