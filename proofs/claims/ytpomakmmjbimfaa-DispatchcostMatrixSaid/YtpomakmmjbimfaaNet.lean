/-
  samaritanref09.Right and samaritanlaw35.net.
-/
import Derived.Test.YtpomakmmjbimfaaRefTime
namespace Go.Proofs.Ytpomakmmjbimfaa
open Go.RowKit Go.Shelf Go.Maps

def okE (z : Int) (e : EdgeT) : Prop := 0 ≤ e.frm ∧ e.frm < z ∧ 0 ≤ e.to ∧ e.to < z ∧ 1 ≤ e.tm ∧ (e.tm ≤ 1048576 ∨ e.tm = 4611686018427387904)
def RightP (z : Int) (E : List EdgeT) : Prop := 1 ≤ z ∧ z ≤ 12 ∧ E.length ≤ 40 ∧ ∀ e ∈ E, okE z e
def RetRight (w : World) (z : Int) (E : List EdgeT) (e : Ending) (w' : World) : Prop := ∃ b, e = .returned (.bool b) ∧ (b = true ↔ RightP z E) ∧ Below w.heap.size w w'

set_option maxRecDepth 100000 in
set_option maxHeartbeats 4000000 in
theorem right_any (z : Int) (A : Option Addr) (c : Nat) (E : List EdgeT) (w : World) (he : EdgesAt w w.heap.size A E) (hl : E.length ≤ 9223372036854775807) :
    Calls Try.prog 25 #[.agg #[.int .i64 z, .slice A E.length c]] w (RetRight w z E) := by
  have HB1 := Lib.hid ((Below.refl w.heap.size w).alloc (Nat.le_refl _) (netCell z A E.length c))
  by_cases h1 : z < 1
  · have d1 : decide (z < 1) = true := decide_eq_true h1
    clear he
    go_enter Try.func25, Try.ntmps25
    go_wp2_with fail
    go_ret
    exact ⟨false, rfl, ⟨(fun h => by cases h), fun h => by have := h.1; omega⟩, HB1.out⟩
  · have d1 : decide (z < 1) = false := decide_eq_false h1
    by_cases h2 : 12 < z
    · have d2 : decide (12 < z) = true := decide_eq_true h2
      clear he
      go_enter Try.func25, Try.ntmps25
      go_wp2_with fail
      go_ret
      exact ⟨false, rfl, ⟨(fun h => by cases h), fun h => by have := h.2.1; omega⟩, HB1.out⟩
    · have d2 : decide (12 < z) = false := decide_eq_false h2
      by_cases h3 : 40 < E.length
      · have d3 : decide ((40 : Int) < (E.length : Int)) = true := decide_eq_true (by omega)
        clear he
        go_enter Try.func25, Try.ntmps25
        go_wp2_with fail
        go_ret
        exact ⟨false, rfl, ⟨(fun h => by cases h), fun h => by have := h.2.2.1; omega⟩, HB1.out⟩
      · have d3 : decide ((40 : Int) < (E.length : Int)) = false := decide_eq_false (by omega)
        have HE := Lib.hid he
        clear he
        go_enter Try.func25, Try.ntmps25
        go_wp2_with fail
        go_loopw [3] (fun iv wr => ∃ k : Nat, k ≤ E.length ∧ iv = .int .i64 k ∧ Below (w.heap.size + 1) (w.alloc (netCell z A E.length c)) wr ∧ ∀ e ∈ E.take k, okE z e) (fun i _ => E.length - (intOf i).toNat)
        case atStart => exact ⟨0, Nat.zero_le _, rfl, Below.refl _ _, by simp⟩
        case round =>
          obtain ⟨k, hk, rfl, hb, hall⟩ := hrel
          have hbw : Below w.heap.size w wr := HB1.out.trans (hb.mono (by omega))
          have hz := hb.size
          simp only [World.size_alloc] at hz
          have HB := Lib.hid hb
          have HBW := Lib.hid hbw
          have HALL := Lib.hid hall
          obtain ⟨n0, n1⟩ := net_cells hb
          clear hb hbw hall
          by_cases hlt : k < E.length
          · obtain ⟨⟨frm, too, tm⟩, hek⟩ : ∃ e, E[k]? = some e := ⟨E[k], by simp⟩
            obtain ⟨b, o, rfl, _, c0, c1, c2⟩ := (HE.out.below HBW.out).at hek
            simp only at c0 c1 c2
            have HBA := Lib.hid (HB.out.alloc hz (.cells #[.int .i64 frm, .int .i64 too, .int .i64 tm] 72))
            have HBX := Lib.hid (HBW.out.alloc (by omega) (.cells #[.int .i64 frm, .int .i64 too, .int .i64 tm] 72))
            have HNO : Hid (¬ okE z ⟨frm, too, tm⟩ → ¬ RightP z E) := Lib.hid (fun h hr => h (hr.2.2.2 _ (List.mem_of_getElem? hek)))
            have HYES : Hid (okE z ⟨frm, too, tm⟩ → ∀ e ∈ E.take (k + 1), okE z e) := Lib.hid (fun h e hm => by
              have hl := (List.getElem?_eq_some_iff.1 hek).1
              rw [List.take_succ_eq_append_getElem hl, (List.getElem?_eq_some_iff.1 hek).2, List.mem_append, List.mem_singleton] at hm
              rcases hm with hm | rfl
              · exact HALL.out e hm
              · exact h)
            have hwe : ¬ w.heap.size = wr.heap.size := by omega
            have hwz : w.heap.size < wr.heap.size := by omega
            clear hek hz
            have fin : ∀ q, RetRight w z E (.returned (.bool false)) ((wr.alloc (.cells #[.int .i64 frm, .int .i64 too, .int .i64 tm] 72)).drewN q) ∨ okE z ⟨frm, too, tm⟩ := fun q => by
              by_cases hh : okE z ⟨frm, too, tm⟩
              · exact .inr hh
              · exact .inl ⟨false, rfl, ⟨(fun h => by cases h), fun h => absurd h (HNO.out hh)⟩, below_dr _ HBX.out⟩
            have HFIN := Lib.hid fin
            clear fin
            by_cases k1 : frm < 0
            · have q1 : decide (frm < 0) = true := decide_eq_true k1
              go_wp2_with fail
              go_quiet (fail)
              go_wp2_with fail
              go_ret
              exact (HFIN.out _).resolve_right fun h => by have := h.1; simp at this; omega
            · have q1 : decide (frm < 0) = false := decide_eq_false k1
              by_cases k2 : z ≤ frm
              · have q2 : decide (z ≤ frm) = true := decide_eq_true k2
                go_wp2_with fail
                go_quiet (fail)
                go_wp2_with fail
                go_ret
                exact (HFIN.out _).resolve_right fun h => by have := h.2.1; simp at this; omega
              · have q2 : decide (z ≤ frm) = false := decide_eq_false k2
                by_cases k3 : too < 0
                · have q3 : decide (too < 0) = true := decide_eq_true k3
                  go_wp2_with fail
                  go_quiet (fail)
                  go_wp2_with fail
                  go_ret
                  exact (HFIN.out _).resolve_right fun h => by have := h.2.2.1; simp at this; omega
                · have q3 : decide (too < 0) = false := decide_eq_false k3
                  by_cases k4 : z ≤ too
                  · have q4 : decide (z ≤ too) = true := decide_eq_true k4
                    go_wp2_with fail
                    go_quiet (fail)
                    go_wp2_with fail
                    go_ret
                    exact (HFIN.out _).resolve_right fun h => by have := h.2.2.2.1; simp at this; omega
                  · have q4 : decide (z ≤ too) = false := decide_eq_false k4
                    by_cases k5 : tm < 1
                    · have q5 : decide (tm < 1) = true := decide_eq_true k5
                      go_wp2_with fail
                      go_quiet (fail)
                      go_wp2_with fail
                      go_ret
                      exact (HFIN.out _).resolve_right fun h => by have := h.2.2.2.2.1; simp at this; omega
                    · have q5 : decide (tm < 1) = false := decide_eq_false k5
                      by_cases k6 : 1048576 < tm
                      · have q6 : decide (1048576 < tm) = true := decide_eq_true k6
                        by_cases k7 : tm = 4611686018427387904
                        · have q7 : (tm != 4611686018427387904) = false := by simp [k7]
                          have HK7 := Lib.hid k7
                          clear k7
                          go_wp2_with fail
                          go_quiet ((go_at_call 43; refine Calls.quiet_of_same ((never_any _).mono fun _ _ q => ⟨q.1, q.2.symm⟩)))
                          go_wp2_with fail
                          go_roundw
                          case rel => exact ⟨k + 1, by omega, by go_num, below_dr _ HBA.out, HYES.out ⟨by simp; omega, by simp; omega, by simp; omega, by simp; omega, by simp; omega, .inr HK7.out⟩⟩
                          case measure => simp [intOf]; omega
                        · have q7 : (tm != 4611686018427387904) = true := by simp [k7]
                          have q7' : (tm == 4611686018427387904) = false := by simp [k7]
                          have HK7 := Lib.hid k7
                          clear k7
                          go_wp2_with fail
                          go_quiet ((go_at_call 43; refine Calls.quiet_of_same ((never_any _).mono fun _ _ q => ⟨q.1, q.2.symm⟩)))
                          go_wp2_with fail
                          go_ret
                          exact (HFIN.out _).resolve_right fun h => by
                            have := HK7.out
                            rcases h.2.2.2.2.2 with h | h
                            · simp at h; omega
                            · exact this h
                      · have q6 : decide (1048576 < tm) = false := decide_eq_false k6
                        go_wp2_with fail
                        go_quiet (fail)
                        go_wp2_with fail
                        go_roundw
                        case rel => exact ⟨k + 1, by omega, by go_num, below_dr _ HBA.out, HYES.out ⟨by simp; omega, by simp; omega, by simp; omega, by simp; omega, by simp; omega, .inl (by simp; omega)⟩⟩
                        case measure => simp [intOf]; omega
          · have hkk : k = E.length := by omega
            subst hkk
            go_wp2_with fail
            go_ret
            refine ⟨true, rfl, ⟨fun _ => ⟨by omega, by omega, by omega, ?_⟩, fun _ => rfl⟩, HBW.out⟩
            have := HALL.out
            rw [List.take_length] at this
            exact this
end Go.Proofs.Ytpomakmmjbimfaa
