/-
  samaritanref09.Right and samaritanlaw35.net.
  samaritanref35.Spare.
  samaritanlaw35.net and wakes.
  How a graph with travel times comes in.
  samaritanref35.Slots.
  samaritanref35.Small, SameSlots and samaritanlaw35.slots.
  slices.Equal at []int and samaritanref09.Same tell whether two slices of integers hold the same list, for every two lists shorter than 2^62.
  Words for dispatchcost.CostMatrix: what a cell of the matrix is; the memory of the call.
-/
import Derived.Test.YtimijjhdgihobaaDoorMqq
import Derived.Test.YtimijjhdgihobaaDoorMqf
import Derived.Test.YtimijjhdgihobaaDoorMqm
import Derived.RegionTactic
import Derived.BigRegion
import Derived.Deep.DeepCutAuto
import Derived.BigGuardPart
import Derived.Deep.QuietTactic
import Derived.BigQuiet
import Derived.Deep.Light
import Derived.Test.YtimijjhdgihobaaDoorMqn
import Derived.Test.YtimijjhdgihobaaDoorMqa
namespace Go.Proofs.YtimijjhdgihobaaDoor
section
open Go.RowKit Go.Shelf Go.Maps

def okE (z : Int) (e : EdgeT) : Prop := 0 ≤ e.frm ∧ e.frm < z ∧ 0 ≤ e.dst ∧ e.dst < z ∧ 1 ≤ e.tm ∧ (e.tm ≤ 1048576 ∨ e.tm = 4611686018427387904)
def RightP (z : Int) (E : List EdgeT) : Prop := 1 ≤ z ∧ z ≤ 12 ∧ E.length ≤ 40 ∧ ∀ e ∈ E, okE z e
def RetRight (w : World) (z : Int) (E : List EdgeT) (e : Ending) (w' : World) : Prop := ∃ b, e = .returned (.bool b) ∧ (b = true ↔ RightP z E) ∧ Below w.heap.size w w'

set_option maxRecDepth 100000 in
set_option maxHeartbeats 4000000 in
theorem right_any (z : Int) (A : Option Addr) (c : Nat) (E : List EdgeT) (w : World) (he : EdgesAt w w.heap.size A E) (hl : E.length ≤ 9223372036854775807) :
    Calls Tryd.prog 22 #[.agg #[.int .i64 z, .slice A E.length c]] w (RetRight w z E) := by
  have HB1 := Lib.hid ((Below.refl w.heap.size w).alloc (Nat.le_refl _) (netCell z A E.length c))
  by_cases h1 : z < 1
  · have d1 : decide (z < 1) = true := decide_eq_true h1
    clear he
    go_enter Tryd.func22, Tryd.ntmps22
    go_wp2_with fail
    go_ret
    exact ⟨false, rfl, ⟨(fun h => by cases h), fun h => by have := h.1; omega⟩, HB1.out⟩
  · have d1 : decide (z < 1) = false := decide_eq_false h1
    by_cases h2 : 12 < z
    · have d2 : decide (12 < z) = true := decide_eq_true h2
      clear he
      go_enter Tryd.func22, Tryd.ntmps22
      go_wp2_with fail
      go_ret
      exact ⟨false, rfl, ⟨(fun h => by cases h), fun h => by have := h.2.1; omega⟩, HB1.out⟩
    · have d2 : decide (12 < z) = false := decide_eq_false h2
      by_cases h3 : 40 < E.length
      · have d3 : decide ((40 : Int) < (E.length : Int)) = true := decide_eq_true (by omega)
        clear he
        go_enter Tryd.func22, Tryd.ntmps22
        go_wp2_with fail
        go_ret
        exact ⟨false, rfl, ⟨(fun h => by cases h), fun h => by have := h.2.2.1; omega⟩, HB1.out⟩
      · have d3 : decide ((40 : Int) < (E.length : Int)) = false := decide_eq_false (by omega)
        have HE := Lib.hid he
        clear he
        go_enter Tryd.func22, Tryd.ntmps22
        go_wp2_with fail
        go_loopw [3] (fun iv wr => ∃ k : Nat, k ≤ E.length ∧ iv = .int .i64 k ∧ Below (w.heap.size + 1) (w.alloc (netCell z A E.length c)) wr ∧ ∀ e ∈ E.take k, okE z e) (fun i _ => E.length - (intOf i).toNat)
        case atStart => exact ⟨0, Nat.zero_le _, rfl, Below.refl _ _, by simp⟩
        case round =>
          obtain ⟨k, hk, rfl, hb, hall⟩ := hrel
          have hbw : Below w.heap.size w wr := HB1.out.trans (hb.mono (by omega))
          have hz := hb.size
          simp only [World.size_alloc] at hz
          have HB := Lib.hid hb
          have HBW := Lib.hid hbw
          have HALL := Lib.hid hall
          obtain ⟨n0, n1⟩ := net_cells hb
          clear hb hbw hall
          by_cases hlt : k < E.length
          · obtain ⟨⟨frm, too, tm⟩, hek⟩ : ∃ e, E[k]? = some e := ⟨E[k], by simp⟩
            obtain ⟨b, o, rfl, _, c0, c1, c2⟩ := (HE.out.below HBW.out).at hek
            simp only at c0 c1 c2
            have HBA := Lib.hid (HB.out.alloc hz (.cells #[.int .i64 frm, .int .i64 too, .int .i64 tm] 55))
            have HBX := Lib.hid (HBW.out.alloc (by omega) (.cells #[.int .i64 frm, .int .i64 too, .int .i64 tm] 55))
            have HNO : Hid (¬ okE z ⟨frm, too, tm⟩ → ¬ RightP z E) := Lib.hid (fun h hr => h (hr.2.2.2 _ (List.mem_of_getElem? hek)))
            have HYES : Hid (okE z ⟨frm, too, tm⟩ → ∀ e ∈ E.take (k + 1), okE z e) := Lib.hid (fun h e hm => by
              have hl := (List.getElem?_eq_some_iff.1 hek).1
              rw [List.take_succ_eq_append_getElem hl, (List.getElem?_eq_some_iff.1 hek).2, List.mem_append, List.mem_singleton] at hm
              rcases hm with hm | rfl
              · exact HALL.out e hm
              · exact h)
            have hwe : ¬ w.heap.size = wr.heap.size := by omega
            have hwz : w.heap.size < wr.heap.size := by omega
            clear hek hz
            have fin : ∀ q, RetRight w z E (.returned (.bool false)) ((wr.alloc (.cells #[.int .i64 frm, .int .i64 too, .int .i64 tm] 55)).drewN q) ∨ okE z ⟨frm, too, tm⟩ := fun q => by
              by_cases hh : okE z ⟨frm, too, tm⟩
              · exact .inr hh
              · exact .inl ⟨false, rfl, ⟨(fun h => by cases h), fun h => absurd h (HNO.out hh)⟩, below_dr _ HBX.out⟩
            have HFIN := Lib.hid fin
            clear fin
            by_cases k1 : frm < 0
            · have q1 : decide (frm < 0) = true := decide_eq_true k1
              go_wp2_with fail
              go_quiet (fail)
              go_wp2_with fail
              go_ret
              exact (HFIN.out _).resolve_right fun h => by have := h.1; simp at this; omega
            · have q1 : decide (frm < 0) = false := decide_eq_false k1
              by_cases k2 : z ≤ frm
              · have q2 : decide (z ≤ frm) = true := decide_eq_true k2
                go_wp2_with fail
                go_quiet (fail)
                go_wp2_with fail
                go_ret
                exact (HFIN.out _).resolve_right fun h => by have := h.2.1; simp at this; omega
              · have q2 : decide (z ≤ frm) = false := decide_eq_false k2
                by_cases k3 : too < 0
                · have q3 : decide (too < 0) = true := decide_eq_true k3
                  go_wp2_with fail
                  go_quiet (fail)
                  go_wp2_with fail
                  go_ret
                  exact (HFIN.out _).resolve_right fun h => by have := h.2.2.1; simp at this; omega
                · have q3 : decide (too < 0) = false := decide_eq_false k3
                  by_cases k4 : z ≤ too
                  · have q4 : decide (z ≤ too) = true := decide_eq_true k4
                    go_wp2_with fail
                    go_quiet (fail)
                    go_wp2_with fail
                    go_ret
                    exact (HFIN.out _).resolve_right fun h => by have := h.2.2.2.1; simp at this; omega
                  · have q4 : decide (z ≤ too) = false := decide_eq_false k4
                    by_cases k5 : tm < 1
                    · have q5 : decide (tm < 1) = true := decide_eq_true k5
                      go_wp2_with fail
                      go_quiet (fail)
                      go_wp2_with fail
                      go_ret
                      exact (HFIN.out _).resolve_right fun h => by have := h.2.2.2.2.1; simp at this; omega
                    · have q5 : decide (tm < 1) = false := decide_eq_false k5
                      by_cases k6 : 1048576 < tm
                      · have q6 : decide (1048576 < tm) = true := decide_eq_true k6
                        by_cases k7 : tm = 4611686018427387904
                        · have q7 : (tm != 4611686018427387904) = false := by simp [k7]
                          have HK7 := Lib.hid k7
                          clear k7
                          go_wp2_with fail
                          go_quiet ((go_at_call 39; refine Calls.quiet_of_same ((never_any _).mono fun _ _ q => ⟨q.1, q.2.symm⟩)))
                          go_wp2_with fail
                          go_roundw
                          case rel => exact ⟨k + 1, by omega, by go_num, below_dr _ HBA.out, HYES.out ⟨by simp; omega, by simp; omega, by simp; omega, by simp; omega, by simp; omega, .inr HK7.out⟩⟩
                          case measure => simp [intOf]; omega
                        · have q7 : (tm != 4611686018427387904) = true := by simp [k7]
                          have q7' : (tm == 4611686018427387904) = false := by simp [k7]
                          have HK7 := Lib.hid k7
                          clear k7
                          go_wp2_with fail
                          go_quiet ((go_at_call 39; refine Calls.quiet_of_same ((never_any _).mono fun _ _ q => ⟨q.1, q.2.symm⟩)))
                          go_wp2_with fail
                          go_ret
                          exact (HFIN.out _).resolve_right fun h => by
                            have := HK7.out
                            rcases h.2.2.2.2.2 with h | h
                            · simp at h; omega
                            · exact this h
                      · have q6 : decide (1048576 < tm) = false := decide_eq_false k6
                        go_wp2_with fail
                        go_quiet (fail)
                        go_wp2_with fail
                        go_roundw
                        case rel => exact ⟨k + 1, by omega, by go_num, below_dr _ HBA.out, HYES.out ⟨by simp; omega, by simp; omega, by simp; omega, by simp; omega, by simp; omega, .inl (by simp; omega)⟩⟩
                        case measure => simp [intOf]; omega
          · have hkk : k = E.length := by omega
            subst hkk
            go_wp2_with fail
            go_ret
            refine ⟨true, rfl, ⟨fun _ => ⟨by omega, by omega, by omega, ?_⟩, fun _ => rfl⟩, HBW.out⟩
            have := HALL.out
            rw [List.take_length] at this
            exact this
end
section
open Go.RowKit Go.Maps

theorem below_drewN2 {B : Nat} {a w : World} (n : Nat) (h : Below B a w) : Below B a (w.drewN n) := ⟨h.os, h.tape, h.output, h.size, h.block⟩
end
section
open Go.RowKit Go.Shelf Go.Maps

def RetNet (w : World) (z : Int) (E : List EdgeT) (e : Ending) (w' : World) : Prop :=
  (∃ (n p : Nat), z = n ∧ RightP z E ∧ e = .returned (.tuple #[.pointer (some ⟨p, 0, none⟩), .bool true]) ∧ GraphAt w' w'.heap.size p n E ∧ w.heap.size ≤ p ∧ Below w.heap.size w w') ∨
  (e = .returned (.tuple #[.pointer none, .bool false]) ∧ Below w.heap.size w w')

def exE : List EdgeT := [⟨0, 1, 5⟩, ⟨1, 2, 5⟩]
theorem ex_times : timesL [5, 5] 2 = [5, 5] := by decide
theorem ex_usable {i u v : Nat} {x : Int} (h : usable exE [5, 5] i u v x) : (u = 0 ∧ v = 1 ∧ x = 5) ∨ (u = 1 ∧ v = 2 ∧ x = 5) := by
  obtain ⟨e, h1, h2, h3, h4, _⟩ := h
  match i, h1, h4 with
  | 0, h1, h4 => cases h1; cases h4; left; simp only at h2 h3; omega
  | 1, h1, h4 => cases h1; cases h4; right; simp only at h2 h3; omega
  | i + 2, h1, _ => simp [exE] at h1
theorem ex_fin : Fin35 3 (fun s => (s : Int) ∈ [(0 : Int)] ∧ s < 3) exE (timesL [5, 5] exE.length) [0, 5, 10] := by
  have e2 : exE.length = 2 := rfl
  rw [e2, ex_times]
  have w0 : Way (fun s : Nat => (s : Int) ∈ [(0 : Int)] ∧ s < 3) exE [5, 5] 0 0 := Way.src ⟨by simp, by omega⟩
  have w1 : Way (fun s : Nat => (s : Int) ∈ [(0 : Int)] ∧ s < 3) exE [5, 5] 1 5 := Way.step (i := 0) (x := 5) w0 ⟨_, rfl, rfl, rfl, rfl, by decide⟩
  have w2 : Way (fun s : Nat => (s : Int) ∈ [(0 : Int)] ∧ s < 3) exE [5, 5] 2 10 := Way.step (i := 1) (x := 5) w1 ⟨_, rfl, rfl, rfl, rfl, by decide⟩
  refine ⟨rfl, fun v d hd _ => ?_, fun s hs => ?_, fun i u v x d hu hd _ => ?_, fun v d hd _ => ?_⟩
  · match v, hd with
    | 0, hd => cases hd; exact w0
    | 1, hd => cases hd; exact w1
    | 2, hd => cases hd; exact w2
    | v + 3, hd => simp at hd
  · have : s = 0 := by have := hs.1; simp at this; omega
    subst this
    rfl
  · rcases ex_usable hu with ⟨rfl, rfl, rfl⟩ | ⟨rfl, rfl, rfl⟩
    · cases hd
      exact ⟨5, rfl, by omega⟩
    · cases hd
      exact ⟨10, rfl, by omega⟩
  · match v, hd with
    | 0, hd => cases hd; omega
    | 1, hd => cases hd; omega
    | 2, hd => cases hd; omega
    | v + 3, hd => simp at hd

def exU : List UnitT := [⟨0, 1, 0, 1, 0, 0, 0, 0, 0, 0⟩, ⟨1, 1, 0, 1, 0, 0, 0, 0, 0, 0⟩]
theorem exU_three : spareR (effR 3 1) exU 2 = [⟨1, 1, 0, 1, 0, 0, 0, 0, 0, 0⟩] := by rfl
theorem exU_one : (spareR (effR 1 1) exU 2).length = 2 := by rfl
theorem exU_wf : ∀ u ∈ exU, UnitWf u := by
  intro u hu
  simp only [exU, List.mem_cons, List.not_mem_nil, or_false] at hu
  rcases hu with rfl | rfl <;> exact ⟨rfl, rfl, rfl, rfl⟩
end
section
open Go.ChangeShapes Go.WideShapes Go.ChangeAt Go.RowKit

theorem edge_len (e : EdgeT) : [Value.int .i64 e.frm, .int .i64 e.dst, .int .i64 e.tm].length = 3 := rfl

theorem Fin35.le_inf {n : Nat} {S : Nat → Prop} {E : List EdgeT} {W D : List Int} (h : Fin35 n S E W D) (v : Nat) (d : Int) (hd : D[v]? = some d) : d ≤ 4611686018427387904 := by
  by_cases c : d = 4611686018427387904
  · omega
  · have := h.small v d hd c
    omega
theorem farK_le {D : List Int} (h : ∀ (v : Nat) (d : Int), D[v]? = some d → d ≤ 4611686018427387904) : ∀ (zs : List Int) (a m : Int), a ≤ 4611686018427387904 → zs.foldl (farStep D) (some a) = some m → m ≤ 4611686018427387904
  | [], a, m, ha, e => by cases e; exact ha
  | z :: zs, a, m, ha, e => by
    rw [List.foldl_cons] at e
    have hs : farStep D (some a) z = if 0 ≤ z ∧ z < D.length then some (max a (D.getD z.toNat 0)) else none := rfl
    rw [hs] at e
    split at e
    · rename_i hz
      obtain ⟨d, hd⟩ : ∃ d, D[z.toNat]? = some d := ⟨D[z.toNat]'(by omega), by simp⟩
      have := h _ _ hd
      have hg : D.getD z.toNat 0 = d := by rw [List.getD_eq_getElem?_getD, hd]; rfl
      rw [hg] at e
      exact farK_le h zs _ _ (by omega) e
    · rw [far_none] at e
      cases e
/-- one node more never makes it less. -/
theorem farL_more {D zs : List Int} (h : ∀ (v : Nat) (d : Int), D[v]? = some d → d ≤ 4611686018427387904) (hne : zs ≠ []) (z : Int) : farL D zs ≤ farL D (zs ++ [z]) := by
  unfold farL
  rw [if_neg hne, if_neg (by simp), farK_snoc]
  cases e : farK D zs with
  | none => exact Int.le_refl _
  | some m =>
    have hm := farK_le h zs 0 m (by omega) e
    have hs : farStep D (some m) z = if 0 ≤ z ∧ z < D.length then some (max m (D.getD z.toNat 0)) else none := rfl
    rw [hs]
    simp only [Option.getD_some]
    split
    · simp only [Option.getD_some]
      omega
    · simp only [Option.getD_none]
      exact hm

section
variable {H : Type} {enc : TypeId × Value → H}
set_option maxRecDepth 100000 in
/-- A slice of edges, its one cell read. -/
theorem edges_field {W : World} {v : Value} {x : DataW H × List MemPlace} {base fuel : Nat} {spare : Nat → Bool} {held : Bool}
    (hf : DataW.trod enc Tryd.prog W base spare held fuel 22 [v] = some x) :
    ∃ (A : Option Addr) (E : List EdgeT) (cap : Nat), v = .slice A E.length cap ∧ EdgesAt W W.heap.size A E ∧ E.length ≤ cap ∧ cap ≤ 9223372036854775807 ∧ (A = none → cap = 0) := by
  obtain ⟨A, n, cap, rfl, h1, h2, h3, h4⟩ := recs_field Tryd.underlying22 Tryd.underlying55 (by kernel_rfl) (by kernel_rfl) (by decide) hf
  obtain ⟨E, hl, hR⟩ := list_of' (fun i (u : EdgeT) => ∃ b o, A = some ⟨b, o, none⟩ ∧ b < W.heap.size ∧ ∀ (j : Nat) (v : Value), [Value.int .i64 u.frm, .int .i64 u.dst, .int .i64 u.tm][j]? = some v → W.cell? ⟨b, o + i * 3 + j, none⟩ = some v) n (fun i hi => by
    obtain ⟨b, o, e, hb, hg⟩ := h4 i hi
    obtain ⟨u0, _, _, c0, t0⟩ := hg 0 _ rfl
    obtain ⟨u1, _, _, c1, t1⟩ := hg 1 _ rfl
    obtain ⟨u2, _, _, c2, t2⟩ := hg 2 _ rfl
    obtain ⟨z0, e0, _, _⟩ := DataW.trod_int Tryd.underlying3 t0
    obtain ⟨z1, e1, _, k1⟩ := DataW.trod_int Tryd.underlying3 t1
    obtain ⟨z2, e2, _, k2⟩ := DataW.trod_int Tryd.underlying2 t2
    simp at e0 e1 e2
    subst e0 e1 e2
    refine ⟨⟨z0, z1, z2⟩, b, o, e, hb, fun j v hj => ?_⟩
    match j, hj with
    | 0, hj => cases hj; exact c0
    | 1, hj => cases hj; exact c1
    | 2, hj => cases hj; exact c2
    | j + 3, hj => exact absurd (List.getElem?_eq_some_iff.1 hj).1 (by simp))
  exact ⟨A, E, cap, by rw [hl], recsAt_of edge_len (by omega) hR, by omega, by omega, h3⟩

end
end
section
open Go.RowKit Go.Maps
end
section
open Go.RowKit Go.Maps

def Small35 (xs : List IncT) (us : List UnitT) (ps : List Plan) : Prop := xs.length ≤ 10 ∧ us.length ≤ 12 ∧ smallP ps = true ∧ ps.length ≤ 12 ∧ ∀ x ∈ xs, x.nodes.length ≤ 20
def RetSmall (w : World) (xs : List IncT) (us : List UnitT) (ps : List Plan) (e : Ending) (w' : World) : Prop := ∃ b, e = .returned (.bool b) ∧ (b = true → Small35 xs us ps) ∧ w = w'

set_option maxRecDepth 100000 in
set_option maxHeartbeats 2000000 in
theorem small35_any (A A1 A2 : Option Addr) (c c1 c2 : Nat) (xs : List IncT) (us : List UnitT) (ps : List Plan) (w : World) (B : Nat) (hi : IncsAt w B A xs) (hwf : ∀ x ∈ xs, IncWf x) (hl : xs.length ≤ 9223372036854775807) (hul : us.length ≤ 9223372036854775807) (hp : Plans w B A2 ps) (hpl : ps.length ≤ 9223372036854775807) :
    Calls Tryd.prog 23 #[.slice A xs.length c, .slice A1 us.length c1, .slice A2 ps.length c2] w (RetSmall w xs us ps) := by
  have HI := Lib.hid hi
  have HWF := Lib.hid hwf
  have HSP := Lib.hid (small_any A2 c2 ps w B hp hpl)
  clear hi hwf hp
  go_enter Tryd.func23, Tryd.ntmps23
  go_wp2_with fail
  go_loop [7] (fun i => ∃ k : Nat, k ≤ xs.length ∧ i = .int .i64 k ∧ ∀ x ∈ xs.take k, x.nodes.length ≤ 20) (fun i => xs.length - (intOf i).toNat)
  case atStart => exact ⟨0, Nat.zero_le _, rfl, by simp⟩
  case round =>
    obtain ⟨k, hk, rfl, hall⟩ := hrel
    have HALL := Lib.hid hall
    clear hall
    by_cases hlt : k < xs.length
    · obtain ⟨x, hx⟩ : ∃ x, xs[k]? = some x := ⟨xs[k], by simp⟩
      obtain ⟨b, o, rfl, _, _, _, h2, h3, _, _, h6, h7, _⟩ := inc_at HI.out hx
      have hwx := HWF.out x (List.mem_of_getElem? hx)
      have g1 := hwx.nlen
      have g2 := hwx.ncap
      have g3 := hwx.code
      have g4 := hwx.cl
      have g5 := hwx.ul
      have HX := Lib.hid hx
      have hkj : (k : Int) < (xs.length : Int) := by omega
      clear hx hwx
      by_cases q1 : 20 < x.nodes.length
      · have d1 : decide ((20 : Int) < (x.nodes.length : Int)) = true := decide_eq_true (by omega)
        go_wp2_with fail
        go_ret
        exact ⟨false, rfl, (fun h => by cases h), rfl⟩
      · have d1 : decide ((20 : Int) < (x.nodes.length : Int)) = false := decide_eq_false (by omega)
        by_cases q2 : 100 < x.code.size
        · have d2 : decide ((100 : Int) < (x.code.size : Int)) = true := decide_eq_true (by omega)
          go_wp2_with fail
          go_ret
          exact ⟨false, rfl, (fun h => by cases h), rfl⟩
        · have d2 : decide ((100 : Int) < (x.code.size : Int)) = false := decide_eq_false (by omega)
          by_cases q3 : 40 < x.cl
          · have d3 : decide ((40 : Int) < (x.cl : Int)) = true := decide_eq_true (by omega)
            go_wp2_with fail
            go_ret
            exact ⟨false, rfl, (fun h => by cases h), rfl⟩
          · have d3 : decide ((40 : Int) < (x.cl : Int)) = false := decide_eq_false (by omega)
            by_cases q4 : 40 < x.ul
            · have d4 : decide ((40 : Int) < (x.ul : Int)) = true := decide_eq_true (by omega)
              go_wp2_with fail
              go_ret
              exact ⟨false, rfl, (fun h => by cases h), rfl⟩
            · have d4 : decide ((40 : Int) < (x.ul : Int)) = false := decide_eq_false (by omega)
              go_wp2_with fail
              go_round
              case rel =>
                refine ⟨k + 1, by omega, by go_num, ?_⟩
                rw [take_snoc' HX.out]
                intro y hy
                rcases List.mem_append.1 hy with hy | hy
                · exact HALL.out y hy
                · simp at hy
                  subst hy
                  omega
              case measure => simp [intOf]; omega
    · have hkk : k = xs.length := by omega
      subst hkk
      by_cases q1 : xs.length ≤ 10
      · have d1 : decide ((xs.length : Int) ≤ 10) = true := decide_eq_true (by omega)
        by_cases q2 : us.length ≤ 12
        · have d2 : decide ((us.length : Int) ≤ 12) = true := decide_eq_true (by omega)
          go_wp2_with fail
          refine HSP.out.mono ?_
          rintro e w' ⟨rfl, rfl⟩
          cases hs : smallP ps
          · clear hs
            go_wp2_with fail
            go_ret
            exact ⟨false, rfl, (fun h => by cases h), rfl⟩
          · have HS := Lib.hid hs
            clear hs
            go_wp2_with fail
            go_ret
            refine ⟨_, rfl, fun h => ⟨q1, q2, HS.out, ?_, ?_⟩, rfl⟩
            · simp at h
              omega
            · have := HALL.out
              rw [List.take_length] at this
              exact this
        · have d2 : decide ((us.length : Int) ≤ 12) = false := decide_eq_false (by omega)
          go_wp2_with fail
          go_ret
          exact ⟨false, rfl, (fun h => by cases h), rfl⟩
      · have d1 : decide ((xs.length : Int) ≤ 10) = false := decide_eq_false (by omega)
        go_wp2_with fail
        go_ret
        exact ⟨false, rfl, (fun h => by cases h), rfl⟩

/-- conversion to the reference's slots: the same records. -/
def RetConv (w : World) (ss : List SlotT) (e : Ending) (w' : World) : Prop := ∃ (A : Option Addr) (c : Nat), e = .returned (.slice A ss.length c) ∧ SlotsAt w' w'.heap.size A ss ∧ Below w.heap.size w w'
structure TwoBoxes (w : World) (bx by_ : Nat) (s t : SlotT) (wx : World) : Prop where
  x0 : wx.cell? ⟨bx, 0, none⟩ = some (.int .i64 s.inc)
  x1 : wx.cell? ⟨bx, 1, none⟩ = some (.int .i64 s.urg)
  x2 : wx.cell? ⟨bx, 2, none⟩ = some (.int .i64 s.since)
  x3 : wx.cell? ⟨bx, 3, none⟩ = some (.int .i64 s.kind)
  x4 : wx.cell? ⟨bx, 4, none⟩ = some (.slice s.nA s.nodes.length s.nc)
  y0 : wx.cell? ⟨by_, 0, none⟩ = some (.int .i64 t.inc)
  y1 : wx.cell? ⟨by_, 1, none⟩ = some (.int .i64 t.urg)
  y2 : wx.cell? ⟨by_, 2, none⟩ = some (.int .i64 t.since)
  y3 : wx.cell? ⟨by_, 3, none⟩ = some (.int .i64 t.kind)
  y4 : wx.cell? ⟨by_, 4, none⟩ = some (.slice t.nA t.nodes.length t.nc)
  below : Below w.heap.size w wx

theorem TwoBoxes.swap {w wx : World} {bx by_ : Nat} {s t : SlotT} (h : TwoBoxes w bx by_ s t wx) : TwoBoxes w by_ bx t s wx := ⟨h.y0, h.y1, h.y2, h.y3, h.y4, h.x0, h.x1, h.x2, h.x3, h.x4, h.below⟩
end
section
open Go.RowKit Go.Maps

def SameI (zs ys : List Int) (w : World) (e : Ending) (w' : World) : Prop := e = .returned (.bool (decide (zs = ys))) ∧ ∃ n, w' = w.drewN n

theorem eq_of_takes {α : Type} {zs ys : List α} (hl : zs.length = ys.length) (h : zs.take zs.length = ys.take zs.length) : zs = ys := by
  rw [List.take_length] at h
  rw [h, hl, List.take_length]

set_option maxRecDepth 100000 in
theorem equal_any (A C : Option Addr) (c d : Nat) (zs ys : List Int) (w : World) (B B' : Nat) (ha : Sl w B A (zs.map (Value.int .i64))) (hb : Sl w B' C (ys.map (Value.int .i64)))
    (na : zs.length ≤ 4611686018427387904) :
    Calls Tryd.prog 58 #[.slice A zs.length c, .slice C ys.length d] w (SameI zs ys w) := by
  by_cases hl : zs.length = ys.length
  · have hlb : ((zs.length : Int) == (ys.length : Int)) = true := by simp [hl]
    have hlb2 : ((zs.length : Int) != (ys.length : Int)) = false := by simp [hl]
    have HL := Lib.hid hl
    clear hl
    go_enter Tryd.func58, Tryd.ntmps58
    go_wp2_with fail
    go_loopw [13] (fun i wr => ∃ k : Nat, k ≤ zs.length ∧ i = .int .i64 k ∧ zs.take k = ys.take k ∧ ∃ n, wr = w.drewN n) (fun i _ => zs.length - (intOf i).toNat)
    case atStart => exact ⟨0, Nat.zero_le _, rfl, rfl, 0, rfl⟩
    case round =>
      obtain ⟨k, hk, rfl, htk, n, rfl⟩ := hrel
      have HTK := Lib.hid htk
      clear htk
      by_cases hlt : k < zs.length
      · have hlt2 : k < ys.length := by rw [← HL.out]; exact hlt
        obtain ⟨z, hz⟩ : ∃ z, zs[k]? = some z := ⟨zs[k], by simp⟩
        obtain ⟨y, hy⟩ : ∃ y, ys[k]? = some y := ⟨ys[k], by simp⟩
        obtain ⟨b, o, rfl, hbb, hcell⟩ := ha.int hz
        obtain ⟨b2, o2, rfl, hbb2, hcell2⟩ := hb.int hy
        by_cases hzy : z = y
        · subst hzy
          have hb1 : (z != z) = false := by simp
          have HT2 : Hid (zs.take (k + 1) = ys.take (k + 1)) := by show _ = _; rw [take_snoc' hz, take_snoc' hy, HTK.out]
          clear hz hy
          go_wp2_with fail
          go_quiet (fail)
          go_wp2_with fail
          go_roundw
          case rel => exact ⟨k + 1, by omega, by go_num, HT2.out, _, rfl⟩
          case measure => simp [intOf]; omega
        · have hb1 : (z != y) = true := by simp [hzy]
          have hb2 : (z == y) = false := by simp [hzy]
          have HNE : Hid (decide (zs = ys) = false) := by
            show _ = _
            rw [decide_eq_false_iff_not]
            intro e
            rw [e] at hz
            exact hzy (Option.some.inj (hz.symm.trans hy))
          clear hz hy
          go_wp2_with fail
          go_quiet (fail)
          go_wp2_with fail
          go_ret
          exact ⟨ret_bool HNE.out.symm, n + nq, by rw [World.drewN_drewN]⟩
      · have hkk : k = zs.length := by omega
        subst hkk
        have HEQ : Hid (decide (zs = ys) = true) := by
          show _ = _
          rw [decide_eq_true_iff]
          exact eq_of_takes HL.out HTK.out
        go_wp2_with fail
        go_ret
        exact ⟨ret_bool HEQ.out.symm, _, rfl⟩
  · have hlb : ((zs.length : Int) == (ys.length : Int)) = false := by simp; omega
    have hlb2 : ((zs.length : Int) != (ys.length : Int)) = true := by simp; omega
    have HNE : Hid (decide (zs = ys) = false) := by
      show _ = _
      rw [decide_eq_false_iff_not]
      intro e
      exact hl (by rw [e])
    clear hl
    go_enter Tryd.func58, Tryd.ntmps58
    go_wp2_with fail
    go_ret
    exact ⟨ret_bool HNE.out.symm, 0, rfl⟩
end
section
open Go.RowKit Go.Maps

/-- t is the travel time from z to the nodes zs. -/
def TT (n : Nat) (E : List EdgeT) (ts : List Int) (z : Int) (zs : List Int) (t : Int) : Prop := ∃ D, Fin35 n (fun s => (s : Int) ∈ [z] ∧ s < n) E (timesL ts E.length) D ∧ t = farL D zs
theorem TT.unique {n : Nat} {E : List EdgeT} {ts : List Int} {z : Int} {zs : List Int} {t t' : Int} (h : TT n E ts z zs t) (h' : TT n E ts z zs t') : t = t' := by
  obtain ⟨D, h1, rfl⟩ := h
  obtain ⟨D', h2, rfl⟩ := h'
  rw [h1.unique (okW_times _ _) h2]
def CostC (n : Nat) (E : List EdgeT) (ts : List Int) (s : SlotT) (u : UnitT) (c : Int) : Prop := (satB u.kind s.kind = true → TT n E ts u.node s.nodes c) ∧ (satB u.kind s.kind = false → c = 4611686018427387904)
theorem CostC.unique {n : Nat} {E : List EdgeT} {ts : List Int} {s : SlotT} {u : UnitT} {c c' : Int} (h : CostC n E ts s u c) (h' : CostC n E ts s u c') : c = c' := by
  cases hs : satB u.kind s.kind
  · rw [h.2 hs, h'.2 hs]
  · exact (h.1 hs).unique (h'.1 hs)
def RowP (n : Nat) (E : List EdgeT) (ts : List Int) (us : List UnitT) (s : SlotT) (row : List Int) (k : Nat) : Prop := row.length = us.length ∧ ∀ (j : Nat) (u : UnitT) (c : Int), j < k → us[j]? = some u → row[j]? = some c → CostC n E ts s u c

/-- a row of cells is no map. -/
theorem own_no_map {α : Type} {f : α → Value} {P : Program} {k : TypeId} {w : World} {base b m : Nat} {e : TypeId} {v : Value} {zs : List α} {F : Int → Option Value} (h : OwnV f w base e v zs) (hm : MapV P k w b m F) : v.ownBlock ≠ some b := fun hv => by
  obtain ⟨_, h2⟩ := h
  obtain ⟨es, clock, hb, _⟩ := hm
  rcases h2 with ⟨rfl, _⟩ | ⟨g', cap, cur, rfl, _, hh, _⟩
  · cases hv
  · simp only [Value.ownBlock, Option.some.injEq] at hv
    subst hv
    rw [hb] at hh
    cases hh
theorem own_kept_of {α : Type} {f : α → Value} {w w' : World} {base : Nat} {e : TypeId} {v : Value} {zs : List α} {b : Nat} (h : OwnV f w base e v zs) (hg : w.grownBy w' (some b)) (hne : v.ownBlock ≠ some b) : OwnV f w' base e v zs := World.ownsRow.kept h hg (.inr hne)

/-- the memory of the call: the matrix (its rows up to k done), and the distances that are known. 'ex': the block of the row that is being filled. -/
structure CM (w : World) (n : Nat) (E : List EdgeT) (ts : List Int) (ss : List SlotT) (us : List UnitT) (go b1 : Nat) (vs : List Value) (F1 : Int → Option Value) (k q : Nat) (ex : Option Nat) (wr : World) : Prop where
  outer : OwnV (fun v : Value => v) wr w.heap.size 25 (.slice (some ⟨go, 0, none⟩) ss.length ss.length) vs
  rows : ∀ (i : Nat) (s : SlotT) (v : Value), i < k → ss[i]? = some s → vs[i]? = some v → ∃ g row, v = .slice (some ⟨g, 0, none⟩) us.length us.length ∧ OwnI wr w.heap.size 2 v row ∧ RowP n E ts us s row us.length ∧ ex ≠ some g
  map : MapV Tryd.prog 3 wr b1 q F1
  dist : ∀ (z : Int) (v : Value), F1 z = some v → ∃ g D, v = .slice (some ⟨g, 0, none⟩) n n ∧ OwnI wr w.heap.size 2 v D ∧ Fin35 n (fun s => (s : Int) ∈ [z] ∧ s < n) E (timesL ts E.length) D ∧ ex ≠ some g
  below : Below w.heap.size w wr

section
variable {w wr w' : World} {n : Nat} {E : List EdgeT} {ts : List Int} {ss : List SlotT} {us : List UnitT} {go b1 : Nat} {vs : List Value} {F1 : Int → Option Value} {k q : Nat} {ex : Option Nat}
theorem CM.kept_new (h : CM w n E ts ss us go b1 vs F1 k q ex wr) (hb : Below wr.heap.size wr w') : CM w n E ts ss us go b1 vs F1 k q ex w' := by
  refine ⟨OwnV.kept_new h.outer hb, fun i s v hi hs hv => ?_, h.map.same (hb.block _ h.map.lt), fun z v hz => ?_, h.below.trans (hb.mono h.below.size)⟩
  · obtain ⟨g, row, e, h1, h2, h3⟩ := h.rows i s v hi hs hv
    exact ⟨g, row, e, OwnV.kept_new h1 hb, h2, h3⟩
  · obtain ⟨g, D, e, h1, h2, h3⟩ := h.dist z v hz
    exact ⟨g, D, e, OwnV.kept_new h1 hb, h2, h3⟩
/-- another map is written. -/
theorem CM.otherMap (h : CM w n E ts ss us go b1 vs F1 k q ex wr) {P : Program} {kt : TypeId} {b2 m : Nat} {F2 : Int → Option Value} (hm : MapV P kt wr b2 m F2) (hne : b2 ≠ b1) (hB : w.heap.size ≤ b2) (hg : wr.grownBy w' (some b2)) : CM w n E ts ss us go b1 vs F1 k q ex w' := by
  refine ⟨own_kept_of h.outer hg (own_no_map h.outer hm), fun i s v hi hs hv => ?_, h.map.same (hg.block b1 h.map.lt (fun e => by injection e with e; exact hne e.symm)), fun z v hz => ?_, h.below.grown hg h.below.size (fun j hj => by cases hj; exact hB)⟩
  · obtain ⟨g, row, e, h1, h2, h3⟩ := h.rows i s v hi hs hv
    exact ⟨g, row, e, own_kept_of h1 hg (own_no_map h1 hm), h2, h3⟩
  · obtain ⟨g, D, e, h1, h2, h3⟩ := h.dist z v hz
    exact ⟨g, D, e, own_kept_of h1 hg (own_no_map h1 hm), h2, h3⟩
/-- a distance more. -/
theorem CM.put (h : CM w n E ts ss us go b1 vs F1 k q ex wr) (hB : w.heap.size ≤ b1) (hq : q < 9223372036854775807) {z : Int} (hwf : (Lit.int .i64 z).wf = true) {g : Nat} {D : List Int} (hD : OwnI wr w.heap.size 2 (.slice (some ⟨g, 0, none⟩) n n) D) (hf : Fin35 n (fun s => (s : Int) ∈ [z] ∧ s < n) E (timesL ts E.length) D) (hx : ex ≠ some g) :
    ∃ w', (Instr.mapUpdate 115 (.map (some b1)) (.int .i64 z) (.slice (some ⟨g, 0, none⟩) n n)).run Tryd.prog wr = .ok () w' ∧ CM w n E ts ss us go b1 vs (updV F1 z (.slice (some ⟨g, 0, none⟩) n n)) k (q + 1) ex w' ∧ wr.grownBy w' (some b1) := by
  obtain ⟨w', hr, hm, hg⟩ := h.map.put Tryd.underlying3 Tryd.underlying115 hq hwf (.slice (some ⟨g, 0, none⟩) n n)
  refine ⟨w', hr, ⟨own_kept_of h.outer hg (own_no_map h.outer h.map), fun i s v hi hs hv => ?_, hm, fun y v hy => ?_, h.below.grown hg h.below.size (fun j hj => by cases hj; exact hB)⟩, hg⟩
  · obtain ⟨g', row, e, h1, h2, h3⟩ := h.rows i s v hi hs hv
    exact ⟨g', row, e, own_kept_of h1 hg (own_no_map h1 h.map), h2, h3⟩
  · unfold updV at hy
    split at hy
    · rename_i e
      subst e
      cases hy
      exact ⟨g, D, rfl, own_kept_of hD hg (own_no_map hD h.map), hf, hx⟩
    · obtain ⟨g', D', e, h1, h2, h3⟩ := h.dist y v hy
      exact ⟨g', D', e, own_kept_of h1 hg (own_no_map h1 h.map), h2, h3⟩
/-- blocks of rows of different element types are different. -/
theorem own_other {α β : Type} {f : α → Value} {f' : β → Value} {base base' : Nat} {e e' : TypeId} {v u : Value} {zs : List α} {ys : List β} (h : OwnV f wr base e v zs) (h' : OwnV f' wr base' e' u ys) (hne : e ≠ e') {g : Nat} (hu : u.ownBlock = some g) : v.ownBlock ≠ some g := fun hv => by
  obtain ⟨_, h2⟩ := h'
  rcases h2 with ⟨rfl, _⟩ | ⟨g', cap, cur, rfl, _, hh, _⟩
  · cases hu
  · simp only [Value.ownBlock, Option.some.injEq] at hu
    subst hu
    exact own_type h hv ⟨_, hh⟩ hne
theorem map_setCell {P : Program} {kt : TypeId} {b m : Nat} {F : Int → Option Value} (h : MapV P kt wr b m F) {a : Addr} (hne : b ≠ a.block) (v : Value) : MapV P kt (wr.setCell a v) b m F := h.same (Below.heap_setCell wr a v b hne)
/-- the row k is laid. -/
theorem CM.setOuter (h : CM w n E ts ss us go b1 vs F1 k q none wr) {gc : Nat} {row : List Int} (hr : OwnI wr w.heap.size 2 (.slice (some ⟨gc, 0, none⟩) us.length us.length) row) (hfresh : ∀ (u : Value) (zs : List Int), OwnI wr w.heap.size 2 u zs → (∃ z, F1 z = some u) ∨ (∃ i, i < k ∧ vs[i]? = some u) → u.ownBlock ≠ some gc) :
    CM w n E ts ss us go b1 (vs.set k (.slice (some ⟨gc, 0, none⟩) us.length us.length)) F1 k q (some gc) (wr.setCell ⟨go, k, none⟩ (.slice (some ⟨gc, 0, none⟩) us.length us.length)) ∧ OwnI (wr.setCell ⟨go, k, none⟩ (.slice (some ⟨gc, 0, none⟩) us.length us.length)) w.heap.size 2 (.slice (some ⟨gc, 0, none⟩) us.length us.length) row := by
  have hgo : w.heap.size ≤ go := OwnV.ge_base h.outer go rfl
  have key : ∀ (u : Value) (zs : List Int), OwnI wr w.heap.size 2 u zs → OwnI (wr.setCell ⟨go, k, none⟩ (.slice (some ⟨gc, 0, none⟩) us.length us.length)) w.heap.size 2 u zs := fun u zs hu => OwnV.setCell_other hu (a := ⟨go, k, none⟩) (own_other hu h.outer (by decide) rfl) _
  refine ⟨⟨h.outer.stored k _, fun i s v hi hs hv => ?_, map_setCell h.map (a := ⟨go, k, none⟩) (fun e => own_no_map h.outer h.map (by rw [e]; rfl)) _, fun z v hz => ?_, h.below.setCell (p := ⟨go, k, none⟩) hgo _⟩, key _ _ hr⟩
  · rw [List.getElem?_set_ne (by omega)] at hv
    obtain ⟨g, row', e, h1, h2, _⟩ := h.rows i s v hi hs hv
    refine ⟨g, row', e, key _ _ h1, h2, fun q => hfresh v row' h1 (.inr ⟨i, hi, hv⟩) ?_⟩
    rw [e]
    exact q.symm
  · obtain ⟨g, D, e, h1, h2, _⟩ := h.dist z v hz
    refine ⟨g, D, e, key _ _ h1, h2, fun q => hfresh v D h1 (.inl ⟨z, hz⟩) ?_⟩
    rw [e]
    exact q.symm
/-- a cell of the row is filled. -/
theorem CM.setRow {gc : Nat} (h : CM w n E ts ss us go b1 vs F1 k q (some gc) wr) {row : List Int} (hr : OwnI wr w.heap.size 2 (.slice (some ⟨gc, 0, none⟩) us.length us.length) row) (j : Nat) (c : Int) :
    CM w n E ts ss us go b1 vs F1 k q (some gc) (wr.setCell ⟨gc, j, none⟩ (.int .i64 c)) ∧ OwnI (wr.setCell ⟨gc, j, none⟩ (.int .i64 c)) w.heap.size 2 (.slice (some ⟨gc, 0, none⟩) us.length us.length) (row.set j c) := by
  have hgc : w.heap.size ≤ gc := OwnV.ge_base hr gc rfl
  refine ⟨⟨OwnV.setCell_other h.outer (a := ⟨gc, j, none⟩) (own_other h.outer hr (by decide) rfl) _, fun i s v hi hs hv => ?_, map_setCell h.map (a := ⟨gc, j, none⟩) (fun e => own_no_map hr h.map (by rw [e]; rfl)) _, fun z v hz => ?_, h.below.setCell (p := ⟨gc, j, none⟩) hgc _⟩, hr.stored j c⟩
  · obtain ⟨g, row', e, h1, h2, h3⟩ := h.rows i s v hi hs hv
    refine ⟨g, row', e, OwnV.setCell_other h1 (a := ⟨gc, j, none⟩) (fun q => h3 ?_) _, h2, h3⟩
    rw [e] at q
    exact q.symm
  · obtain ⟨g, D, e, h1, h2, h3⟩ := h.dist z v hz
    refine ⟨g, D, e, OwnV.setCell_other h1 (a := ⟨gc, j, none⟩) (fun q => h3 ?_) _, h2, h3⟩
    rw [e] at q
    exact q.symm
theorem CM.row_done {gc : Nat} (h : CM w n E ts ss us go b1 vs F1 k q (some gc) wr) {row : List Int} (hr : OwnI wr w.heap.size 2 (.slice (some ⟨gc, 0, none⟩) us.length us.length) row) {s : SlotT} (hs : ss[k]? = some s) (hv : vs[k]? = some (.slice (some ⟨gc, 0, none⟩) us.length us.length)) (hp : RowP n E ts us s row us.length) : CM w n E ts ss us go b1 vs F1 (k + 1) q none wr := by
  refine ⟨h.outer, fun i s' v hi hs' hv' => ?_, h.map, fun z v hz => ?_, h.below⟩
  · by_cases c : i < k
    · obtain ⟨g, row', e, h1, h2, _⟩ := h.rows i s' v c hs' hv'
      exact ⟨g, row', e, h1, h2, by simp⟩
    · obtain rfl : i = k := by omega
      rw [hs] at hs'
      cases hs'
      rw [hv] at hv'
      cases hv'
      exact ⟨gc, row, rfl, hr, hp, by simp⟩
  · obtain ⟨g, D, e, h1, h2, _⟩ := h.dist z v hz
    exact ⟨g, D, e, h1, h2, by simp⟩
end
end
end Go.Proofs.YtimijjhdgihobaaDoor
