/-
  samaritanref31.Left returns a new slice with the same list as the plain function of Unmet, for every two lists of integers shorter than 2^40; nothing that was there changes.
-/
import Derived.Test.YtpomakmmjbimfaaUnmet
import Derived.Test.YtpomakmmjbimfaaPlainB
import Derived.BigGuardPart
import Derived.Deep.QuietTactic
import Derived.BigQuiet
import Derived.Deep.Light
namespace Go.Proofs.Ytpomakmmjbimfaa
open Go.RowKit Go.Maps

theorem bool_info : (Try.prog.info? 4).map (fun i => (i.zero, i.size, i.bytes)) = some (some (.bool false), 1, 1) := by kernel_rfl

theorem below_drewN {B : Nat} {a w : World} (h : Below B a w) (n : Nat) : Below B a (w.drewN n) := ⟨h.os, h.tape, h.output, h.size, h.block⟩

set_option maxRecDepth 100000 in
set_option maxHeartbeats 4000000 in
theorem left_any (A C : Option Addr) (c d : Nat) (ws hs : List Int) (w : World) (ha : Sl w w.heap.size A (ws.map (Value.int .i64))) (hb : Sl w w.heap.size C (hs.map (Value.int .i64)))
    (na : ws.length ≤ 1099511627776) (nb : hs.length ≤ 1099511627776) :
    Calls Try.prog 39 #[.slice A ws.length c, .slice C hs.length d] w (RetI 3 w (unmet ws hs)) := by
  go_enter Try.func39, Try.ntmps39
  go_wp2_with fail
  go_loopw [5, 6] (fun v i wr => ∃ k : Nat, k ≤ hs.length ∧ i = .int .i64 k ∧ OwnB wr w.heap.size 4 v (List.replicate k false) ∧ Below w.heap.size w wr) (fun _ i _ => hs.length - (intOf i).toNat)
  case atStart => exact ⟨0, Nat.zero_le _, rfl, OwnV.nil _ _ _, Below.refl _ _⟩
  case round =>
    obtain ⟨k, hk, rfl, hown, hnx⟩ := hrel
    by_cases hlt : k < hs.length
    · have hll : (List.replicate k false).length = k := by simp
      have HLL := Lib.hid hll
      clear hll
      go_wp2_with (at_builtin; refine wpList_append_one _ rfl _ _ 105 rfl w.heap.size 4 Try.underlying105 bool_info rfl (by omega) _ _ wr false rfl rfl rfl hown rfl (by rw [HLL.out]; omega) hnx.size ?_; intro v1 w1 hown1 hg1)
      go_roundw
      case rel =>
        refine ⟨k + 1, by omega, by go_num, ?_, hnx.grown hg1 hnx.size (fun j hj => hown.ge_base j hj)⟩
        rw [List.replicate_succ']
        exact hown1
      case measure => simp [intOf]; omega
    · have hkk : k = hs.length := by omega
      subst hkk
      obtain ⟨U0, hU0⟩ : ∃ U, U = List.replicate hs.length false := ⟨_, rfl⟩
      rw [← hU0] at hown
      have hul : U0.length = hs.length := by rw [hU0]; simp
      have hfr : ∀ x, free hs U0 x = (pass2 hs []).1 x := fun x => by rw [hU0]; exact free_none hs x
      have HFR := Lib.hid hfr
      obtain ⟨AU, cu, hv, _⟩ := hown.sl
      rw [hv] at hown ⊢
      rw [hul] at hown ⊢
      have HUL := Lib.hid hul
      clear hU0 hfr hv hul
      have hsz0 := hown.lt_size
      have HSZ := Lib.hid hsz0
      have HW1 := Lib.hid hnx.size
      clear hsz0
      go_wp2_with fail
      obtain ⟨w1, rfl⟩ : ∃ w1 : World, w1 = wr := ⟨_, rfl⟩
      go_loopw [7, 8] (fun v i wr => ∃ k : Nat, k ≤ ws.length ∧ i = .int .i64 k ∧ ∃ U : List Bool, U.length = hs.length ∧ (∀ x, free hs U x = (pass2 hs (ws.take k)).1 x) ∧ OwnB wr w.heap.size 4 (.slice AU hs.length cu) U ∧ OwnI wr w1.heap.size 3 v (pass2 hs (ws.take k)).2 ∧ Below w.heap.size w wr ∧ w1.heap.size ≤ wr.heap.size) (fun _ i _ => ws.length - (intOf i).toNat)
      case atStart => exact ⟨0, Nat.zero_le _, rfl, U0, HUL.out, HFR.out, hown, OwnV.nil _ _ _, hnx, Nat.le_refl _⟩
      case round =>
        clear hown hnx hlt hk
        obtain ⟨k, hk, rfl, U, hul, hfr, hown, hrow, hnx, hsz⟩ := hrel
        by_cases hlt : k < ws.length
        · obtain ⟨x, hx⟩ : ∃ x, ws[k]? = some x := ⟨ws[k], by simp⟩
          obtain ⟨b2, o2, rfl, hbb2, hcell2⟩ := ha.int hx
          have HST : Hid (pass2 hs (ws.take (k + 1)) = step2 (pass2 hs (ws.take k)) x) := by
            rw [take_snoc hx]
            exact pass2_snoc _ _ _
          have hrl := (pass2_bd hs (ws.take k)).2
          have hcl : (ws.take k).length ≤ k := List.length_take_le _ _
          have HUL := Lib.hid hul
          have HFR := Lib.hid hfr
          clear hx hul hfr
          go_wp2_with fail
          obtain ⟨w2, rfl⟩ : ∃ w2 : World, w2 = wr := ⟨_, rfl⟩
          go_loopw [9, 10] (fun dv i wr => ∃ j : Nat, j ≤ hs.length ∧ i = .int .i64 j ∧ ∃ (d : Bool) (V : List Bool), dv = .bool d ∧ Scan x hs U j d V ∧ OwnB wr w.heap.size 4 (.slice AU hs.length cu) V ∧ OwnI wr w1.heap.size 3 u7 (pass2 hs (ws.take k)).2 ∧ Below w.heap.size w wr ∧ w1.heap.size ≤ wr.heap.size) (fun _ i _ => hs.length - (intOf i).toNat)
          case atStart => exact ⟨0, Nat.zero_le _, rfl, false, U, rfl, Scan.start _ _ _, hown, hrow, hnx, hsz⟩
          case round =>
            clear hown hrow hnx hsz
            obtain ⟨j, hj, rfl, d, V, rfl, hscan, hown, hrow, hnx, hsz⟩ := hrel
            by_cases hjl : j < hs.length
            · obtain ⟨y, hy⟩ : ∃ y, hs[j]? = some y := ⟨hs[j], by simp⟩
              obtain ⟨b, o, rfl, hbb, hcell⟩ := hb.int hy
              have hVl : j < V.length := by rw [hscan.len, HUL.out]; exact hjl
              obtain ⟨u, hu⟩ : ∃ u, V[j]? = some u := ⟨V[j], by simp⟩
              have hc1 : wr.cell? ⟨b, o + j, none⟩ = some (.int .i64 y) := (hnx.cell (p := ⟨b, o + j, none⟩) hbb).trans hcell
              have hc2 : wr.cell? ⟨b2, o2 + k, none⟩ = some (.int .i64 x) := (hnx.cell (p := ⟨b2, o2 + k, none⟩) hbb2).trans hcell2
              obtain ⟨g, c', hv, hg1, hg2, hcu, hfu⟩ := hown.form hu
              injection hv with hA hB hC
              subst hA
              have hgs : g < w1.heap.size := HSZ.out g rfl
              have HU := Lib.hid hu
              have HY := Lib.hid hy
              clear hu hy hB hC hcell
              cases d
              · cases u
                · by_cases hyx : y = x
                  · subst hyx
                    go_wp2_with fail
                    go_quiet (fail)
                    go_wp2_with fail
                    go_roundw
                    case rel =>
                      refine ⟨j + 1, by omega, by go_num, true, V.set j true, rfl, hscan.hit HY.out HU.out, ?_, ?_, ?_, ?_⟩
                      · exact (hown.drewN nq).stored j true
                      · exact (hrow.drewN nq).setCell_below (a := ⟨g, j, none⟩) hgs _
                      · exact (below_drewN hnx nq).setCell (p := ⟨g, j, none⟩) hg1 _
                      · simpa using hsz
                    case measure => simp [intOf]; omega
                  · have hyb : (y == x) = false := by simp [hyx]
                    go_wp2_with fail
                    go_quiet (fail)
                    go_wp2_with fail
                    go_roundw
                    case rel => exact ⟨j + 1, by omega, by go_num, false, V, rfl, hscan.miss HY.out hyx, hown.drewN nq, hrow.drewN nq, below_drewN hnx nq, hsz⟩
                    case measure => simp [intOf]; omega
                · go_wp2_with fail
                  go_quiet (fail)
                  go_wp2_with fail
                  go_roundw
                  case rel => exact ⟨j + 1, by omega, by go_num, false, V, rfl, hscan.used HU.out, hown.drewN nq, hrow.drewN nq, below_drewN hnx nq, hsz⟩
                  case measure => simp [intOf]; omega
              · go_wp2_with fail
                go_quiet (fail)
                go_wp2_with fail
                go_roundw
                case rel => exact ⟨j + 1, by omega, by go_num, true, V, rfl, hscan.done _, hown.drewN nq, hrow.drewN nq, below_drewN hnx nq, hsz⟩
                case measure => simp [intOf]; omega
            · have hjj : j = hs.length := by omega
              subst hjj
              have hc2 : wr.cell? ⟨b2, o2 + k, none⟩ = some (.int .i64 x) := (hnx.cell (p := ⟨b2, o2 + k, none⟩) hbb2).trans hcell2
              cases d
              · have hno := hscan.no HUL.out
                have hVU := hscan.same
                subst hVU
                have HNO : Hid (¬ 0 < (pass2 hs (ws.take k)).1 x) := by rw [HFR.out] at hno; exact hno
                clear hscan hno
                go_wp2_with (at_builtin; refine wpList_append_int _ rfl _ _ 28 rfl w1.heap.size 3 Try.underlying28 int_info _ _ wr x rfl rfl hrow rfl (by omega) hsz ?_; intro v4 w4 hrow4 hg4)
                go_roundw
                case rel =>
                  refine ⟨k + 1, by omega, by go_num, V, HUL.out, ?_, hown.kept_far HSZ.out hg4 (fun j hj => hrow.ge_base j hj), ?_, hnx.grown hg4 hnx.size (fun j hj => Nat.le_trans (HW1.out) (hrow.ge_base j hj)), Nat.le_trans hsz hg4.size⟩
                  · intro y
                    rw [HST.out, step2_no HNO.out]
                    exact HFR.out y
                  · rw [HST.out, step2_no HNO.out]
                    exact hrow4
                case measure => simp [intOf]; omega
              · have hyes := hscan.yes
                have hvl := hscan.len
                have HYES : Hid (0 < (pass2 hs (ws.take k)).1 x ∧ V.length = hs.length ∧ ∀ y, free hs V y = upd (pass2 hs (ws.take k)).1 x ((pass2 hs (ws.take k)).1 x - 1) y) := by
                  refine ⟨by rw [← HFR.out]; exact hyes.1, by rw [hvl]; exact HUL.out, fun y => ?_⟩
                  rw [hyes.2 y]
                  unfold upd
                  rw [HFR.out, HFR.out]
                clear hscan hyes hvl
                go_wp2_with fail
                go_roundw
                case rel =>
                  refine ⟨k + 1, by omega, by go_num, V, HYES.out.2.1, ?_, hown, ?_, hnx, hsz⟩
                  · intro y
                    rw [HST.out, step2_yes HYES.out.1]
                    exact HYES.out.2.2 y
                  · rw [HST.out, step2_yes HYES.out.1]
                    exact hrow
                case measure => simp [intOf]; omega
        · have hkk : k = ws.length := by omega
          subst hkk
          rw [List.take_length] at hrow hfr
          have hcb := (pass2_bd hs ws).1
          have hrl := (pass2_bd hs ws).2
          have HCB := Lib.hid hcb
          clear hcb
          obtain ⟨A2, c2, hv2, _⟩ := hrow.sl
          rw [hv2] at hrow ⊢
          generalize hp : pass2 hs ws = pp at *
          obtain ⟨gg, rest⟩ := pp
          have HP : Hid (unmet ws hs = (pass3 gg rest).2) := by show _ = _; unfold unmet; rw [hp]
          clear hp hv2
          simp only at hrow hrl hfr ⊢
          have HFR3 := Lib.hid hfr
          have HUL := Lib.hid hul
          have HSZ3 := Lib.hid hrow.lt_size
          clear hfr hul
          have HSZw := Lib.hid (Nat.le_trans HW1.out hsz)
          go_wp2_with fail
          obtain ⟨w3, rfl⟩ : ∃ w3 : World, w3 = wr := ⟨_, rfl⟩
          go_loopw [11, 12] (fun v i wr => ∃ k : Nat, k ≤ rest.length ∧ i = .int .i64 k ∧ ∃ U : List Bool, U.length = hs.length ∧ (∀ x, free hs U x = (pass3 gg (rest.take k)).1 x) ∧ OwnB wr w.heap.size 4 (.slice AU hs.length cu) U ∧ OwnI wr w1.heap.size 3 (.slice A2 rest.length c2) rest ∧ OwnI wr w3.heap.size 3 v (pass3 gg (rest.take k)).2 ∧ Below w.heap.size w wr ∧ w3.heap.size ≤ wr.heap.size) (fun _ i _ => rest.length - (intOf i).toNat)
          case atStart => exact ⟨0, Nat.zero_le _, rfl, U, HUL.out, HFR3.out, hown, hrow, OwnV.nil _ _ _, hnx, Nat.le_refl _⟩
          case round =>
            have HW3 := Lib.hid hsz
            clear hown hrow hnx hlt hk HFR3 HUL hsz
            obtain ⟨k, hk, rfl, U, hul, hfr, hown, hrow, hout, hnx, hsz⟩ := hrel
            by_cases hlt : k < rest.length
            · obtain ⟨x, hx⟩ : ∃ x, rest[k]? = some x := ⟨rest[k], by simp⟩
              obtain ⟨b2, o2, rfl, hcell2⟩ := hrow.cell hx
              have HST : Hid (pass3 gg (rest.take (k + 1)) = step3 (pass3 gg (rest.take k)) x) := by
                rw [take_snoc hx]
                exact pass3_snoc _ _ _
              have hrl3 := (pass3_bd gg hs.length HCB.out (rest.take k)).2
              have hcl : (rest.take k).length ≤ k := List.length_take_le _ _
              have HUL := Lib.hid hul
              have HFR := Lib.hid hfr
              have HX := Lib.hid hx
              clear hx hul hfr hcell2
              go_wp2_with fail
              obtain ⟨w4, rfl⟩ : ∃ w4 : World, w4 = wr := ⟨_, rfl⟩
              go_loopw [13, 14] (fun dv i wr => ∃ j : Nat, j ≤ hs.length ∧ i = .int .i64 j ∧ ∃ (d : Bool) (V : List Bool), dv = .bool d ∧ Scan3 x hs U j d V ∧ OwnB wr w.heap.size 4 (.slice AU hs.length cu) V ∧ OwnI wr w1.heap.size 3 (.slice (some ⟨b2, o2, none⟩) rest.length c2) rest ∧ OwnI wr w3.heap.size 3 u11 (pass3 gg (rest.take k)).2 ∧ Below w.heap.size w wr ∧ w3.heap.size ≤ wr.heap.size) (fun _ i _ => hs.length - (intOf i).toNat)
              case atStart => exact ⟨0, Nat.zero_le _, rfl, false, U, rfl, Scan3.start _ _ _, hown, hrow, hout, hnx, hsz⟩
              case round =>
                clear hown hrow hnx hsz hout
                obtain ⟨j, hj, rfl, d, V, rfl, hscan, hown, hrow, hout, hnx, hsz⟩ := hrel
                have hc2 : wr.cell? ⟨b2, o2 + k, none⟩ = some (.int .i64 x) := by
                  obtain ⟨b3, o3, e3, hc3⟩ := hrow.cell HX.out
                  injection e3 with e3
                  injection e3 with e4 e5 e6
                  subst e4 e5
                  exact hc3
                by_cases hjl : j < hs.length
                · obtain ⟨y, hy⟩ : ∃ y, hs[j]? = some y := ⟨hs[j], by simp⟩
                  obtain ⟨b, o, rfl, hbb, hcell⟩ := hb.int hy
                  have hVl : j < V.length := by rw [hscan.len, HUL.out]; exact hjl
                  obtain ⟨u, hu⟩ : ∃ u, V[j]? = some u := ⟨V[j], by simp⟩
                  have hc1 : wr.cell? ⟨b, o + j, none⟩ = some (.int .i64 y) := (hnx.cell (p := ⟨b, o + j, none⟩) hbb).trans hcell
                  obtain ⟨g, c', hv, hg1, hg2, hcu, hfu⟩ := hown.form hu
                  injection hv with hA hB hC
                  subst hA
                  have hgs : g < w1.heap.size := HSZ.out g rfl
                  have hgs3 : g < w3.heap.size := Nat.lt_of_lt_of_le hgs HW3.out
                  have HU := Lib.hid hu
                  have HY := Lib.hid hy
                  clear hu hy hB hC hcell
                  cases d
                  · cases u
                    · by_cases hyx : y = 2
                      · subst hyx
                        by_cases hx1 : x = 1
                        · subst hx1
                          go_wp2_with fail
                          go_roundw
                          case rel =>
                            refine ⟨j + 1, by omega, by go_num, true, V.set j true, rfl, hscan.hit HY.out HU.out, ?_, ?_, ?_, ?_, ?_⟩
                            · exact hown.stored j true
                            · exact hrow.setCell_below (a := ⟨g, j, none⟩) hgs _
                            · exact hout.setCell_below (a := ⟨g, j, none⟩) hgs3 _
                            · exact hnx.setCell (p := ⟨g, j, none⟩) hg1 _
                            · simpa using hsz
                          case measure => simp [intOf]; omega
                        · have hxb : (x == 1) = false := by simp [hx1]
                          go_wp2_with fail
                          go_roundw
                          case rel => exact ⟨j + 1, by omega, by go_num, false, V, rfl, hscan.other hx1, hown, hrow, hout, hnx, hsz⟩
                          case measure => simp [intOf]; omega
                      · have hyb : (y == 2) = false := by simp [hyx]
                        go_wp2_with fail
                        go_roundw
                        case rel => exact ⟨j + 1, by omega, by go_num, false, V, rfl, hscan.miss HY.out hyx, hown, hrow, hout, hnx, hsz⟩
                        case measure => simp [intOf]; omega
                    · go_wp2_with fail
                      go_roundw
                      case rel => exact ⟨j + 1, by omega, by go_num, false, V, rfl, hscan.used HU.out, hown, hrow, hout, hnx, hsz⟩
                      case measure => simp [intOf]; omega
                  · go_wp2_with fail
                    go_roundw
                    case rel => exact ⟨j + 1, by omega, by go_num, true, V, rfl, hscan.done _, hown, hrow, hout, hnx, hsz⟩
                    case measure => simp [intOf]; omega
                · have hjj : j = hs.length := by omega
                  subst hjj
                  cases d
                  · have hno := hscan.no HUL.out
                    have hVU := hscan.same
                    subst hVU
                    have HNO : Hid (¬ (x = 1 ∧ 0 < (pass3 gg (rest.take k)).1 2)) := by rw [HFR.out] at hno; exact hno
                    clear hscan hno
                    go_wp2_with (at_builtin; refine wpList_append_int _ rfl _ _ 28 rfl w3.heap.size 3 Try.underlying28 int_info _ _ wr x rfl rfl hout rfl (by omega) hsz ?_; intro v4 w4 hout4 hg4)
                    go_roundw
                    case rel =>
                      refine ⟨k + 1, by omega, by go_num, V, HUL.out, ?_, ?_, hrow.kept_far HSZ3.out hg4 (fun j hj => hout.ge_base j hj), ?_, hnx.grown hg4 hnx.size (fun j hj => Nat.le_trans HSZw.out (hout.ge_base j hj)), Nat.le_trans hsz hg4.size⟩
                      · intro y
                        rw [HST.out, step3_no HNO.out]
                        exact HFR.out y
                      · exact hown.kept_far (fun j hj => Nat.lt_of_lt_of_le (HSZ.out j hj) HW3.out) hg4 (fun j hj => hout.ge_base j hj)
                      · rw [HST.out, step3_no HNO.out]
                        exact hout4
                    case measure => simp [intOf]; omega
                  · have hyes := hscan.yes
                    have hvl := hscan.len
                    have HYES : Hid ((x = 1 ∧ 0 < (pass3 gg (rest.take k)).1 2) ∧ V.length = hs.length ∧ ∀ y, free hs V y = upd (pass3 gg (rest.take k)).1 2 ((pass3 gg (rest.take k)).1 2 - 1) y) := by
                      refine ⟨by rw [← HFR.out]; exact hyes.1, by rw [hvl]; exact HUL.out, fun y => ?_⟩
                      rw [hyes.2 y]
                      unfold upd
                      rw [HFR.out, HFR.out]
                    clear hscan hyes hvl
                    go_wp2_with fail
                    go_roundw
                    case rel =>
                      refine ⟨k + 1, by omega, by go_num, V, HYES.out.2.1, ?_, hown, hrow, ?_, hnx, hsz⟩
                      · intro y
                        rw [HST.out, step3_yes HYES.out.1]
                        exact HYES.out.2.2 y
                      · rw [HST.out, step3_yes HYES.out.1]
                        exact hout
                    case measure => simp [intOf]; omega
            · have hkk : k = rest.length := by omega
              subst hkk
              rw [List.take_length] at hout
              clear hfr hul
              go_wp2_with fail
              go_ret
              refine ⟨_, rfl, ?_, hnx⟩
              rw [HP.out]
              exact hout.base_le HSZw.out
end Go.Proofs.Ytpomakmmjbimfaa
