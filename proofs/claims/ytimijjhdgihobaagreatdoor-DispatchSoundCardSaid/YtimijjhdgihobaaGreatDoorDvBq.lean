/-
  samaritanlaw38.counted.
-/
import Derived.Test.YtimijjhdgihobaaGreatDoorMre
import Derived.Test.YtimijjhdgihobaaGreatDoorDvAq
namespace Go.Proofs.YtimijjhdgihobaaGreatDoor
section
open Go.RowKit Go.Maps

def RetCnt (w : World) (s : StT) (e : Ending) (w' : World) : Prop := ∃ b, e = .returned (.bool b) ∧ (b = false → ∀ u ∈ s.us, u.state = 1 → ∀ x ∈ s.xs, u.inc ≠ x.id) ∧ Below w.heap.size w w'
set_option maxRecDepth 100000 in
set_option maxHeartbeats 8000000 in
theorem counted_any (s : StT) (w : World) (hin : StIn w w.heap.size s) (hwf : StWf s) :
    Calls Tryz.prog 13 #[.agg #[.int .i64 s.z, .slice s.eA s.E.length s.ec, .slice s.tA s.ts.length s.tc, .slice s.iA s.xs.length s.ic, .slice s.uA s.us.length s.uc, .slice s.pA s.ps.length s.pc, .int .i64 s.rsv]] w (RetCnt w s) := by
  obtain ⟨W, hW⟩ : ∃ W, W = w.alloc (stObj s) := ⟨_, rfl⟩
  have hbel : Below w.heap.size w W := by rw [hW]; exact (Below.refl _ _).alloc (Nat.le_refl _) _
  have hz : w.heap.size < W.heap.size := by rw [hW]; simp
  have hbx : BoxS w.heap.size s W := by rw [hW]; exact box_new w s
  have HB := Lib.hid hbel
  have HIN := Lib.hid (hin.next hbel)
  have HBX := Lib.hid hbx
  have hul : s.us.length ≤ 9223372036854775807 := Nat.le_trans hwf.ul hwf.ucap
  have hil := hwf.il
  obtain ⟨c0, c1, c2, c3, c4, c5, c6⟩ := hbx
  have hW2 : W = w.alloc (.cells #[.int .i64 s.z, .slice s.eA s.E.length s.ec, .slice s.tA s.ts.length s.tc, .slice s.iA s.xs.length s.ic, .slice s.uA s.us.length s.uc, .slice s.pA s.ps.length s.pc, .int .i64 s.rsv] 30) := hW
  clear hbel hin hwf hW
  go_enter Tryz.func13, Tryz.ntmps13
  go_upto_region 1 with fail
  rw [← hW2]
  clear hW2
  go_wp2_with fail
  clear c0 c1 c2 c3 c4 c5 c6
  go_loopw [10] (fun iv Y => ∃ k : Nat, k ≤ s.us.length ∧ iv = .int .i64 k ∧ Below W.heap.size W Y ∧ Hid (∀ (j : Nat) (u : UnitT), j < k → s.us[j]? = some u → u.state = 1 → ∀ x ∈ s.xs, u.inc ≠ x.id)) (fun iv _ => s.us.length - (intOf iv).toNat)
  case atStart => exact ⟨0, Nat.zero_le _, rfl, Below.refl _ _, Lib.hid fun j u hj => by omega⟩
  case round =>
    obtain ⟨k, hk, rfl, hb, HK⟩ := hrel
    have HBY := Lib.hid hb
    have hbz := hb.size
    clear hb
    by_cases hlt : k < s.us.length
    · have hlt' : (k : Int) < (s.us.length : Int) := by omega
      obtain ⟨u, hu⟩ : ∃ u, s.us[k]? = some u := ⟨_, List.getElem?_eq_getElem hlt⟩
      obtain ⟨b1, o1, hA1, hb1, q0, q1, q2, q3, q4, q5, q6, q7, q8, q9⟩ := unit_at (HIN.out.u.below HBY.out) hu
      obtain ⟨uA, huA⟩ : ∃ A, A = s.uA := ⟨_, rfl⟩
      rw [← huA] at hA1 ⊢
      subst hA1
      have HUA := Lib.hid huA
      have HU := Lib.hid hu
      have hbw : b1 < wr.heap.size := by omega
      obtain ⟨W0, hW0⟩ : ∃ W0, W0 = wr.alloc (.cells #[.int .i64 u.id, .int .i64 u.kind, .int .i64 u.home, .int .i64 u.state, .int .i64 u.node, .int .i64 u.seq, .int .i64 u.heard, .int .i64 u.inc, .int .i64 u.epoch, .int .i64 u.acked] 43) := ⟨_, rfl⟩
      have HBK : Hid (Blk W0 wr.heap.size 43 (cellsU u)) := Lib.hid (by rw [hW0]; exact blk_new wr (cellsU u) 43)
      have HB0 : Hid (Below W.heap.size W W0) := Lib.hid (by rw [hW0]; exact HBY.out.alloc hbz _)
      have hz0 : wr.heap.size < W0.heap.size := by rw [hW0]; simp
      obtain ⟨bb, hbb⟩ : ∃ bb, bb = wr.heap.size := ⟨_, rfl⟩
      clear hu huA
      go_upto_region 4 with fail
      rw [← hW0]
      have c3 := (HBX.out.below hz HB0.out).c3
      rw [← hbb] at HBK hz0 ⊢
      have hwb : w.heap.size < W0.heap.size := Nat.lt_of_lt_of_le hz HB0.out.size
      clear hW0 hbb q0 q1 q2 q3 q4 q5 q6 q7 q8 q9
      go_wp2_with fail
      clear c3
      go_loopw [17] (fun iv Y => ∃ i : Nat, i ≤ s.xs.length ∧ iv = .int .i64 i ∧ Below W0.heap.size W0 Y ∧ Hid (u.state = 1 → ∀ (j : Nat) (x : IncT), j < i → s.xs[j]? = some x → u.inc ≠ x.id)) (fun iv _ => s.xs.length - (intOf iv).toNat)
      case atStart => exact ⟨0, Nat.zero_le _, rfl, Below.refl _ _, Lib.hid fun _ j x hj => by omega⟩
      case round =>
        obtain ⟨i, hi, rfl, hb, HI⟩ := hrel
        have HBI := Lib.hid hb
        have hbz2 := hb.size
        clear hb
        by_cases hil2 : i < s.xs.length
        · have hil' : (i : Int) < (s.xs.length : Int) := by omega
          obtain ⟨x, hx⟩ : ∃ x, s.xs[i]? = some x := ⟨_, List.getElem?_eq_getElem hil2⟩
          obtain ⟨b2, o2, hA2, hb2, q0, q1, q2, q3, q4, q5, q6, q7, q8, q9⟩ := inc_at ((HIN.out.i.below HB0.out).below (HBI.out.mono HB0.out.size)) hx
          obtain ⟨iA, hiA⟩ : ∃ A, A = s.iA := ⟨_, rfl⟩
          rw [← hiA] at hA2 ⊢
          subst hA2
          have HIA := Lib.hid hiA
          have HX := Lib.hid hx
          have hbr := HBK.out.below HBI.out hz0
          have r3 := hbr.cell (j := 3) rfl
          have r7 := hbr.cell (j := 7) rfl
          have hbw2 : b2 < wr.heap.size := by have := HB0.out.size; omega
          have hbw3 : bb < wr.heap.size := by omega
          clear hx hiA hbr
          by_cases hst : u.state = 1
          · have d1 : (u.state == 1) = true := by simp [hst]
            by_cases he : u.inc = x.id
            · have d2 : (u.inc == x.id) = true := by simp [he]
              have HST := Lib.hid (And.intro hst he)
              clear hst he
              go_wp2_with fail
              go_ret
              exact ⟨true, rfl, (fun h => by cases h), HB.out.trans (((HB0.out.trans (HBI.out.mono HB0.out.size)).alloc (by have := HB0.out.size; omega) _).mono HB.out.size)⟩
            · have d2 : (u.inc == x.id) = false := by simp [he]
              have HST := Lib.hid (And.intro hst he)
              clear hst he
              go_wp2_with fail
              go_roundw
              case rel =>
                refine ⟨i + 1, by omega, by go_num, HBI.out.alloc hbz2 _, Lib.hid fun h j y hj hy => ?_⟩
                by_cases e : j = i
                · subst e
                  rw [HX.out] at hy
                  injection hy with hy
                  subst hy
                  exact HST.out.2
                · exact HI.out h j y (by omega) hy
              case measure => simp [intOf]; omega
          · have d1 : (u.state == 1) = false := by simp [hst]
            have HST := Lib.hid hst
            clear hst
            go_wp2_with fail
            go_roundw
            case rel => exact ⟨i + 1, by omega, by go_num, HBI.out.alloc hbz2 _, Lib.hid fun h => absurd h HST.out⟩
            case measure => simp [intOf]; omega
        · obtain rfl : i = s.xs.length := by omega
          go_wp2_with fail
          go_roundw
          case rel =>
            refine ⟨k + 1, by omega, by go_num, HB0.out.trans (HBI.out.mono HB0.out.size), Lib.hid fun j v hj hv hs x hx => ?_⟩
            by_cases e : j = k
            · subst e
              rw [HU.out] at hv
              injection hv with hv
              subst hv
              obtain ⟨q, hq, e⟩ := List.getElem_of_mem hx
              exact HI.out hs q x hq (by rw [List.getElem?_eq_getElem hq, e])
            · exact HK.out j v (by omega) hv hs x hx
          case measure => simp [intOf]; omega
    · obtain rfl : k = s.us.length := by omega
      go_wp2_with fail
      go_ret
      refine ⟨false, rfl, fun _ u hu => ?_, HB.out.trans (HBY.out.mono HB.out.size)⟩
      obtain ⟨q, hq, e⟩ := List.getElem_of_mem hu
      exact HK.out q u hq (by rw [List.getElem?_eq_getElem hq, e])
end
end Go.Proofs.YtimijjhdgihobaaGreatDoor
