/-
  Append of a table: which changes are refused, and why.
-/
import Derived.Test.YtppbmnlneoinhaaDoorTab

namespace Go.Proofs.YtppbmnlneoinhaaDoor
open Go.RowKit Go.Maps

/-- c lies before the last change. -/
def late (L : List ChgT) (c : ChgT) : Bool := match L.getLast? with | some d => decide (c.tick < d.tick) | none => false
/-- the error that Append returns. -/
def errC (m : Nat) (L : List ChgT) (c : ChgT) : Int := if okC m c then (if late L c = true then 8 else 0) else 1
/-- the changes behind it. -/
def putL (m : Nat) (L : List ChgT) (c : ChgT) : List ChgT := if errC m L c = 0 then L ++ [c] else L
theorem late_nil (c : ChgT) : late [] c = false := rfl
theorem late_snoc (L : List ChgT) (d c : ChgT) : late (L ++ [d]) c = decide (c.tick < d.tick) := by simp [late]
theorem errC_bad {m : Nat} {c : ChgT} (h : ¬ okC m c) (L : List ChgT) : errC m L c = 1 := if_neg h
theorem errC_late {m : Nat} {c : ChgT} (h : okC m c) {L : List ChgT} (hl : late L c = true) : errC m L c = 8 := by rw [errC, if_pos h, if_pos hl]
theorem errC_ok {m : Nat} {c : ChgT} (h : okC m c) {L : List ChgT} (hl : late L c = false) : errC m L c = 0 := by rw [errC, if_pos h, if_neg (by simp [hl])]
theorem putL_bad {m : Nat} {c : ChgT} {L : List ChgT} (h : errC m L c ≠ 0) : putL m L c = L := if_neg h
theorem putL_ok {m : Nat} {c : ChgT} {L : List ChgT} (h : errC m L c = 0) : putL m L c = L ++ [c] := if_pos h

theorem late_last {L : List ChgT} {c d : ChgT} (h : L[L.length - 1]? = some d) : late L c = decide (c.tick < d.tick) := by
  rw [← List.getLast?_eq_getElem?] at h
  simp [late, h]

section
variable {w : World} {B gp n : Nat} {E : List EdgeT} {p cb : Nat} {F : Option Nat → Value} {L : List ChgT}
set_option maxHeartbeats 1000000 in
theorem append_bad (h : TabAt w B gp n E p cb F L) (c : ChgT) (hbad : errC E.length L c ≠ 0) (hl : L.length ≤ 100000) :
    Calls Tryd.prog 20 #[.pointer (some ⟨p, 0, none⟩), .agg #[.int .i64 c.tick, .int .i64 c.edge, .int .i64 c.time]] w fun e w' => e = .returned (.int .i64 (errC E.length L c)) ∧ Below w.heap.size w w' := by
  have hb0 := (Below.refl w.heap.size w).alloc (Nat.le_refl _) (.cells #[.int .i64 c.tick, .int .i64 c.edge, .int .i64 c.time] 57)
  have hv := valid_any _ (h.below hb0) c
  have hz : (w.alloc (.cells #[.int .i64 c.tick, .int .i64 c.edge, .int .i64 c.time] 57)).heap.size = w.heap.size + 1 := by simp
  by_cases hok : okC E.length c
  · have hlate : late L c = true := by
      cases q : late L c with
      | true => rfl
      | false => exact absurd (errC_ok hok q) hbad
    have HRES := Lib.hid (errC_late hok hlate)
    have dok : decide (okC E.length c) = true := by simpa using hok
    rw [dok] at hv
    have HV := Lib.hid hv
    obtain ⟨d, hd⟩ : ∃ d, L[L.length - 1]? = some d := by
      cases L with
      | nil => simp [late] at hlate
      | cons x t => exact ⟨(x :: t)[(x :: t).length - 1], by simp⟩
    have hdt : c.tick < d.tick := by
      rw [late_last hd] at hlate
      simpa using hlate
    obtain ⟨k, hk⟩ : ∃ k, L.length = k + 1 := ⟨L.length - 1, by have := (List.getElem?_eq_some_iff.1 hd).1; omega⟩
    rw [hk, Nat.add_sub_cancel] at hd
    rw [hk] at hl
    have HD := Lib.hid hd
    have HK := Lib.hid hk
    have HT := Lib.hid (h.below hb0)
    have HB0 := Lib.hid hb0
    have HZ := Lib.hid hz
    clear hv h hbad hok dok hlate hd hk hb0 hz
    obtain ⟨tick, edge, time⟩ := c
    go_enter Tryd.func20, Tryd.ntmps20
    go_wp2_with fail
    refine HV.out.mono ?_
    rintro e w1 ⟨rfl, hb1⟩
    have T1 := HT.out.below hb1
    have c1 := T1.fam.cell none trivial
    obtain ⟨A, cp, hF, hsl⟩ := (T1.fam.own none trivial).sl
    rw [hF] at c1
    obtain ⟨b, o, rfl, hbz, q0, q1, q2⟩ := chg_at (cs := L) hsl HD.out
    have c1 : w1.cell? ⟨p, 1, none⟩ = some (.slice (some ⟨b, o, none⟩) (k + 1) cp) := by
      have e : (tlist L none).length = k + 1 := HK.out
      rw [e] at c1
      exact c1
    have e0 : w1.cell? ⟨w.heap.size, 0, none⟩ = some (.int .i64 tick) := (hb1.cell (p := ⟨w.heap.size, 0, none⟩) (by rw [HZ.out]; exact Nat.lt_succ_self _)).trans (by rw [World.cell?_alloc_at (hn := rfl)]; rfl)
    have HB := Lib.hid (fun k => below_drewN (HB0.out.trans (hb1.mono (by rw [HZ.out]; omega))) k)
    have hkz : (k : Int) < ((k + 1 : Nat) : Int) := by omega
    have hk0 : (0 : Int) ≤ (k : Int) := by omega
    have hkz' : (k : Int) < (k : Int) + 1 := by omega
    have dk : decide ((0 : Int) < (k : Int) + 1) = true := by simp
    have hw1 : IntKind.i64.wrap ((k : Int) + 1 - 1) = (k : Int) := by rw [IntWalk.i64_in _ (by omega)]; omega
    have hw2 : IntKind.i64.wrap (k : Int) = (k : Int) := IntWalk.i64_in _ (by omega)
    have dt : decide (tick < d.tick) = true := by simpa using hdt
    clear hb1 T1 hF hsl
    go_wp2_with fail
    go_quiet (fail)
    go_wp2_with fail
    go_ret
    exact ⟨ret_int HRES.out.symm, HB.out _⟩
  · have HRES := Lib.hid (errC_bad hok L)
    have dok : decide (okC E.length c) = false := by simpa using hok
    rw [dok] at hv
    have HV := Lib.hid hv
    have HB0 := Lib.hid hb0
    have HZ := Lib.hid hz
    clear hv h hbad hok dok hb0 hz
    obtain ⟨tick, edge, time⟩ := c
    go_enter Tryd.func20, Tryd.ntmps20
    go_wp2_with fail
    refine HV.out.mono ?_
    rintro e w1 ⟨rfl, hb1⟩
    have HB1 := Lib.hid hb1
    clear hb1
    go_wp2_with fail
    go_ret
    exact ⟨ret_int HRES.out.symm, HB0.out.trans (HB1.out.mono (by rw [HZ.out]; omega))⟩
end
end Go.Proofs.YtppbmnlneoinhaaDoor
