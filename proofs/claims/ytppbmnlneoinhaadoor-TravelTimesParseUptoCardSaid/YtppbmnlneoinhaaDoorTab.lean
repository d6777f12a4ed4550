/-
  A table of travel times as it lies in memory; traveltimes.New and valid.
-/
import Derived.Test.YtppbmnlneoinhaaDoorChg
import Derived.Test.YtppbmnlneoinhaaDoorOnly
namespace Go.Proofs.YtppbmnlneoinhaaDoor
open Go.RowKit Go.Maps

/-- ticks do not decrease. -/
def Asc (cs : List ChgT) : Prop := ∀ (a b : Nat) (c d : ChgT), a ≤ b → cs[a]? = some c → cs[b]? = some d → c.tick ≤ d.tick

def tloc (p cb : Nat) : Option Nat → Nat × Nat
  | none => (p, 1)
  | some j => (cb, j)
def tok (m : Nat) : Option Nat → Prop
  | none => True
  | some j => j < m
def tlist (L : List ChgT) : Option Nat → List ChgT
  | none => L
  | some j => L.filter (fun c => c.edge == (j : Int))
abbrev TFam (w : World) (p cb m : Nat) (F : Option Nat → Value) (L : List ChgT) : Prop := FamAt cellsC 3 57 w (p + 1) (tloc p cb) (tok m) F (tlist L)
/-- a table over the graph gp (n nodes, edges E; below B) at block p, its array of rows at cb, with the changes L. -/
structure TabAt (w : World) (B gp n : Nat) (E : List EdgeT) (p cb : Nat) (F : Option Nat → Value) (L : List ChgT) : Prop where
  graph : GraphAt w B gp n E
  low : B ≤ cb
  cbp : cb < p
  c0 : w.cell? ⟨p, 0, none⟩ = some (.pointer (some ⟨gp, 0, none⟩))
  c2 : w.cell? ⟨p, 2, none⟩ = some (.slice (some ⟨cb, 0, none⟩) E.length E.length)
  fam : TFam w p cb E.length F L
  asc : Asc L
  oks : ∀ c ∈ L, okC E.length c
/-- the table's blocks. -/
def tabB (p cb m : Nat) (F : Option Nat → Value) : Nat → Prop := fun b => b = p ∨ b = cb ∨ ∃ i, tok m i ∧ (F i).ownBlock = some b

section
variable {w w' : World} {B gp n : Nat} {E : List EdgeT} {p cb : Nat} {F : Option Nat → Value} {L : List ChgT}
theorem fam_tab {m : Nat} {b : Nat} (h : famB (tloc p cb) (tok m) F b) : tabB p cb m F b := by
  rcases h with ⟨i, hi, e⟩ | h
  · cases i with
    | none => exact .inl e.symm
    | some j => exact .inr (.inl e.symm)
  · exact .inr (.inr h)
theorem TabAt.lt (h : TabAt w B gp n E p cb F L) {b : Nat} (hb : tabB p cb E.length F b) : B ≤ b ∧ b < w.heap.size := by
  have h1 := h.fam.room
  have h2 := h.low
  have h3 := h.cbp
  rcases hb with rfl | rfl | ⟨i, hi, e⟩
  · exact ⟨by omega, by omega⟩
  · exact ⟨by omega, by omega⟩
  · have h4 := (h.fam.own i hi).ge_base _ e
    have h5 := (h.fam.own i hi).lt_size _ e
    exact ⟨by omega, h5⟩
theorem TabAt.size (h : TabAt w B gp n E p cb F L) : p < w.heap.size := h.fam.room
theorem TabAt.only (h : TabAt w B gp n E p cb F L) {S : Nat → Prop} (hg : Only S w w') (hB : ∀ b, S b → B ≤ b) (hS : ∀ b, tabB p cb E.length F b → ¬ S b) : TabAt w' B gp n E p cb F L := by
  have hp := h.size
  have hb : Below B w w' := hg.below (by have := h.low; have := h.cbp; omega) hB
  refine ⟨h.graph.below hb, h.low, h.cbp, ?_, ?_, h.fam.only hg (fun b hb => hS b (fam_tab hb)), h.asc, h.oks⟩
  · exact (hg.cell (a := ⟨p, 0, none⟩) hp (hS p (.inl rfl))).trans h.c0
  · exact (hg.cell (a := ⟨p, 2, none⟩) hp (hS p (.inl rfl))).trans h.c2
theorem TabAt.below (h : TabAt w B gp n E p cb F L) (hg : Below w.heap.size w w') : TabAt w' B gp n E p cb F L :=
  h.only (S := fun _ => False) (Only.of_below hg) (fun _ q => q.elim) (fun _ _ q => q)
theorem TabAt.drewN (h : TabAt w B gp n E p cb F L) (k : Nat) : TabAt (w.drewN k) B gp n E p cb F L := h.only (S := fun _ => False) (Only.refl.drewN k) (fun _ q => q.elim) (fun _ _ q => q)
end

theorem below_drewN {B : Nat} {w w1 : World} (h : Below B w w1) (k : Nat) : Below B w (w1.drewN k) := ⟨h.os, h.tape, h.output, h.size, h.block⟩
theorem chgs_info : (Tryd.prog.info? 23).map (fun i => (i.zero, i.size, i.bytes)) = some (some (.slice none 0 0), 1, 24) := by kernel_rfl
theorem make_chgs (w : World) (n : Nat) (h : n ≤ 16384) : (Instr.makeSlice 65 (.int .i64 n) (.int .i64 n)).run Tryd.prog w = .ok (.slice (some ⟨w.heap.size, 0, none⟩) n n) (w.alloc (.cells (madeCells #[.slice none 0 0] n) 23)) := by
  obtain ⟨i0, hi, hz1, hz2, hz3⟩ := info_parts chgs_info
  have := run_makeSlice (P := Tryd.prog) w 65 23 i0 (.slice none 0 0) Tryd.underlying65 hi hz1 .i64 .i64 n n (by omega) (by omega) (by rw [hz2]; simp; omega) (by rw [hz3]; omega) (by omega)
  rw [hz2] at this
  have e : (Value.slice none 0 0).cells = #[Value.slice none 0 0] := rfl
  rw [e] at this
  simpa using this

/-- what traveltimes.New lays. -/
theorem tab_start {w : World} {gp n : Nat} {E : List EdgeT} (h : GraphAt w w.heap.size gp n E) :
    TabAt ((w.alloc (.cells (madeCells #[.slice none 0 0] E.length) 23)).alloc (.cells #[.pointer (some ⟨gp, 0, none⟩), .slice none 0 0, .slice (some ⟨w.heap.size, 0, none⟩) E.length E.length] 67)) w.heap.size gp n E (w.heap.size + 1) w.heap.size (fun _ => .slice none 0 0) [] := by
  have hb : Below w.heap.size w ((w.alloc (.cells (madeCells #[.slice none 0 0] E.length) 23)).alloc (.cells #[.pointer (some ⟨gp, 0, none⟩), .slice none 0 0, .slice (some ⟨w.heap.size, 0, none⟩) E.length E.length] 67)) :=
    ((Below.refl _ _).alloc (Nat.le_refl _) _).alloc (by simp) _
  refine ⟨h.below hb, Nat.le_refl _, by omega, ?_, ?_, ⟨?_, ?_, ?_, ?_, ?_, ?_, by simp⟩, ?_, ?_⟩
  · rw [World.cell?_alloc_at (hn := by simp)]
    rfl
  · rw [World.cell?_alloc_at (hn := by simp)]
    rfl
  · intro i hi
    cases i with
    | none =>
      show World.cell? _ ⟨w.heap.size + 1, 1, none⟩ = _
      rw [World.cell?_alloc_at (hn := by simp)]
      rfl
    | some j =>
      show World.cell? _ ⟨w.heap.size, j, none⟩ = _
      rw [World.cell?_alloc_lt _ _ _ (by simp), World.cell?_alloc_at (hn := rfl)]
      exact made_at hi
  · intro i hi
    cases i with
    | none =>
      show World.frozen? _ ⟨w.heap.size + 1, 1, none⟩ = _
      rw [World.frozen?_alloc_at (hn := by simp)]
    | some j =>
      show World.frozen? _ ⟨w.heap.size, j, none⟩ = _
      rw [World.frozen?_alloc_past (hn := by simp), World.frozen?_alloc_at (hn := rfl)]
  · intro i _
    have : tlist [] i = [] := by cases i <;> rfl
    rw [this]
    exact OwnR.nil _ _ _
  · intro i j _ _ _ g e
    cases e
  · intro i _
    cases i with
    | none => show w.heap.size + 1 < _; omega
    | some j => show w.heap.size < _; omega
  · intro i j _ _ e
    cases i <;> cases j
    · rfl
    · injection e with e1 e2
      omega
    · injection e with e1 e2
      omega
    · injection e with e1 e2
      rw [e2]
  · intro a b c d _ hc
    simp at hc
  · intro c hc
    cases hc

def RetTab (w : World) (gp n : Nat) (E : List EdgeT) (e : Ending) (w' : World) : Prop := e = .returned (.pointer (some ⟨w.heap.size + 1, 0, none⟩)) ∧ TabAt w' w.heap.size gp n E (w.heap.size + 1) w.heap.size (fun _ => .slice none 0 0) [] ∧ Below w.heap.size w w'
theorem newT_any (w : World) (gp n : Nat) (E : List EdgeT) (h : GraphAt w w.heap.size gp n E) (hE : E.length ≤ 16384) :
    Calls Tryd.prog 18 #[.pointer (some ⟨gp, 0, none⟩)] w (RetTab w gp n E) := by
  have hmk := fun W => make_chgs W E.length hE
  have hedges := edges_any w _ gp n E h
  have HT := Lib.hid (tab_start h)
  clear h
  go_enter Tryd.func18, Tryd.ntmps18
  go_wp2_with fail
  refine hedges.mono ?_
  rintro e w' ⟨rfl, rfl⟩
  go_wp2_with fail
  go_ret
  exact ⟨rfl, HT.out, ((Below.refl _ _).alloc (Nat.le_refl _) _).alloc (by simp) _⟩
theorem newT_nil (w : World) :
    Calls Tryd.prog 18 #[.pointer none] w fun e w' => e = .returned (.pointer none) ∧ w = w' := by
  go_enter Tryd.func18, Tryd.ntmps18
  go_wp2_with fail
  go_ret
  exact ⟨rfl, rfl⟩

set_option maxHeartbeats 1000000 in
theorem valid_any (w : World) {B gp n : Nat} {E : List EdgeT} {p cb : Nat} {F : Option Nat → Value} {L : List ChgT} (h : TabAt w B gp n E p cb F L) (c : ChgT) :
    Calls Tryd.prog 35 #[.pointer (some ⟨p, 0, none⟩), .agg #[.int .i64 c.tick, .int .i64 c.edge, .int .i64 c.time]] w fun e w' => e = .returned (.bool (decide (okC E.length c))) ∧ Below w.heap.size w w' := by
  obtain ⟨tick, edge, time⟩ := c
  have c2 := h.c2
  have hp := h.size
  have hpe : p ≠ w.heap.size := by omega
  obtain ⟨m, hm⟩ : ∃ m, m = E.length := ⟨_, rfl⟩
  rw [← hm] at c2 ⊢
  clear h hm
  show Calls Tryd.prog 35 #[.pointer (some ⟨p, 0, none⟩), .agg #[.int .i64 tick, .int .i64 edge, .int .i64 time]] w _
  have HB := Lib.hid (fun k => below_drewN ((Below.refl w.heap.size w).alloc (Nat.le_refl _) (.cells #[.int .i64 tick, .int .i64 edge, .int .i64 time] 57)) k)
  have hret : ∀ b : Bool, b = decide (okC m ⟨tick, edge, time⟩) → Ending.returned (.bool b) = .returned (.bool (decide (okC m ⟨tick, edge, time⟩))) := fun b e => by rw [e]
  have HR := Lib.hid hret
  clear hret
  by_cases g0 : tick < 0
  · have d0 : decide (tick < 0) = true := by simpa using g0
    go_enter Tryd.func35, Tryd.ntmps35
    go_wp2_with fail
    go_quiet (fail)
    go_wp2_with fail
    go_ret
    exact ⟨HR.out _ (by first | exact (decide_eq_true (by unfold okC; dsimp only; omega)).symm | exact (decide_eq_false (by unfold okC; dsimp only; omega)).symm), HB.out _⟩
  · have d0 : decide (tick < 0) = false := by simpa using g0
    by_cases g1 : (1099511627776 : Int) < tick
    · have d1 : decide ((1099511627776 : Int) < tick) = true := by simpa using g1
      go_enter Tryd.func35, Tryd.ntmps35
      go_wp2_with fail
      go_quiet (fail)
      go_wp2_with fail
      go_ret
      exact ⟨HR.out _ (by first | exact (decide_eq_true (by unfold okC; dsimp only; omega)).symm | exact (decide_eq_false (by unfold okC; dsimp only; omega)).symm), HB.out _⟩
    · have d1 : decide ((1099511627776 : Int) < tick) = false := by simpa using g1
      by_cases g2 : edge < 0
      · have d2 : decide (edge < 0) = true := by simpa using g2
        go_enter Tryd.func35, Tryd.ntmps35
        go_wp2_with fail
        go_quiet (fail)
        go_wp2_with fail
        go_ret
        exact ⟨HR.out _ (by first | exact (decide_eq_true (by unfold okC; dsimp only; omega)).symm | exact (decide_eq_false (by unfold okC; dsimp only; omega)).symm), HB.out _⟩
      · have d2 : decide (edge < 0) = false := by simpa using g2
        by_cases g3 : (m : Int) ≤ edge
        · have d3 : decide ((m : Int) ≤ edge) = true := by simpa using g3
          go_enter Tryd.func35, Tryd.ntmps35
          go_wp2_with fail
          go_quiet (fail)
          go_wp2_with fail
          go_ret
          exact ⟨HR.out _ (by first | exact (decide_eq_true (by unfold okC; dsimp only; omega)).symm | exact (decide_eq_false (by unfold okC; dsimp only; omega)).symm), HB.out _⟩
        · have d3 : decide ((m : Int) ≤ edge) = false := by simpa using g3
          by_cases g5 : 1 ≤ time
          · have d5 : decide (1 ≤ time) = true := by simpa using g5
            by_cases g6 : time ≤ 1048576
            · have d6 : decide (time ≤ 1048576) = true := by simpa using g6
              go_enter Tryd.func35, Tryd.ntmps35
              go_wp2_with fail
              go_quiet (fail)
              go_wp2_with fail
              go_ret
              exact ⟨HR.out _ (by first | exact (decide_eq_true (by unfold okC; dsimp only; omega)).symm | exact (decide_eq_false (by unfold okC; dsimp only; omega)).symm), HB.out _⟩
            · have d6 : decide (time ≤ 1048576) = false := by simpa using g6
              by_cases g7 : time = 4611686018427387904
              · subst g7
                go_enter Tryd.func35, Tryd.ntmps35
                go_wp2_with fail
                go_quiet (fail)
                go_wp2_with fail
                go_ret
                exact ⟨HR.out _ (by first | exact (decide_eq_true (by unfold okC; dsimp only; omega)).symm | exact (decide_eq_false (by unfold okC; dsimp only; omega)).symm), HB.out _⟩
              · have d7 : (time == 4611686018427387904) = false := by simpa using g7
                go_enter Tryd.func35, Tryd.ntmps35
                go_wp2_with fail
                go_quiet (fail)
                go_wp2_with fail
                go_ret
                exact ⟨HR.out _ (by first | exact (decide_eq_true (by unfold okC; dsimp only; omega)).symm | exact (decide_eq_false (by unfold okC; dsimp only; omega)).symm), HB.out _⟩
          · have d5 : decide (1 ≤ time) = false := by simpa using g5
            have d7 : (time == 4611686018427387904) = false := by simp; omega
            go_enter Tryd.func35, Tryd.ntmps35
            go_wp2_with fail
            go_quiet (fail)
            go_wp2_with fail
            go_ret
            exact ⟨HR.out _ (by first | exact (decide_eq_true (by unfold okC; dsimp only; omega)).symm | exact (decide_eq_false (by unfold okC; dsimp only; omega)).symm), HB.out _⟩
end Go.Proofs.YtppbmnlneoinhaaDoor
