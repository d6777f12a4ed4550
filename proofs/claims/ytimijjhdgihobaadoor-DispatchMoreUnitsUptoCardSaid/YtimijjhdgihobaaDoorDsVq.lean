/-
  How one unit comes in.
-/
import Derived.Test.YtimijjhdgihobaaDoorMre
namespace Go.Proofs.YtimijjhdgihobaaDoor
section
open Go.ChangeShapes Go.WideShapes Go.ChangeAt Go.RowKit
section
variable {H : Type} {enc : TypeId × Value → H}
set_option maxRecDepth 100000 in
theorem open_unit {W : World} {r : _} {b0 : Nat} {v : Value} {d : DataW H} {p : List MemPlace} {base : Nat} {spare : Nat → Bool} {held : Bool}
    (hv : Value.okWide Tryd.prog W r b0 44 v) (h : DataW.Trod enc Tryd.prog W base spare held 44 v d p) :
    ∃ u : UnitT, v = .agg #[.int .i64 u.id, .int .i64 u.kind, .int .i64 u.home, .int .i64 u.state, .int .i64 u.node, .int .i64 u.seq, .int .i64 u.heard, .int .i64 u.inc, .int .i64 u.epoch, .int .i64 u.acked] ∧ UnitWf u := by
  obtain ⟨cs, rfl, hsz⟩ := okWide_struct Tryd.underlying44 hv
  have hC : Tryd.prog.cellsOf 44 = 10 := by kernel_rfl
  have hC2 : Tryd.prog.cellsOf 2 = 1 := by kernel_rfl
  have hC3 : Tryd.prog.cellsOf 3 = 1 := by kernel_rfl
  obtain ⟨l⟩ := cs
  match l, hsz.trans hC with
  | [c0, c1, c2, c3, c4, c5, c6, c7, c8, c9], _ =>
    obtain ⟨fuel, hf⟩ := h
    obtain ⟨xs, n, _, hx, _, hlen, hg⟩ := DataW.trod_struct Tryd.underlying44 hf
    match xs, hlen with
    | [y0, y1, y2, y3, y4, y5, y6, y7, y8, y9], _ =>
      have g0 := hg 0 _ rfl
      have g1 := hg 1 _ rfl
      have g2 := hg 2 _ rfl
      have g3 := hg 3 _ rfl
      have g4 := hg 4 _ rfl
      have g5 := hg 5 _ rfl
      have g6 := hg 6 _ rfl
      have g7 := hg 7 _ rfl
      have g8 := hg 8 _ rfl
      have g9 := hg 9 _ rfl
      simp only [Value.cells, List.getElem?_cons_zero, List.getElem?_cons_succ] at g0 g1 g2 g3 g4 g5 g6 g7 g8 g9
      obtain ⟨z0, e0, _, _⟩ := DataW.trod_int Tryd.underlying3 g0
      obtain ⟨z1, e1, _, k1⟩ := DataW.trod_int Tryd.underlying3 g1
      obtain ⟨z2, e2, _, k2⟩ := DataW.trod_int Tryd.underlying3 g2
      obtain ⟨z3, e3, _, _⟩ := DataW.trod_int Tryd.underlying3 g3
      obtain ⟨z4, e4, _, k4⟩ := DataW.trod_int Tryd.underlying3 g4
      obtain ⟨z5, e5, _, _⟩ := DataW.trod_int Tryd.underlying2 g5
      obtain ⟨z6, e6, _, _⟩ := DataW.trod_int Tryd.underlying2 g6
      obtain ⟨z7, e7, _, k7⟩ := DataW.trod_int Tryd.underlying2 g7
      obtain ⟨z8, e8, _, _⟩ := DataW.trod_int Tryd.underlying2 g8
      obtain ⟨z9, e9, _, _⟩ := DataW.trod_int Tryd.underlying2 g9
      simp [hC2, hC3] at e0 e1 e2 e3 e4 e5 e6 e7 e8 e9
      subst e0 e1 e2 e3 e4 e5 e6 e7 e8 e9
      exact ⟨⟨z0, z1, z2, z3, z4, z5, z6, z7, z8, z9⟩, rfl, ⟨k1, k2, k4, k7⟩⟩
end
end
end Go.Proofs.YtimijjhdgihobaaDoor
