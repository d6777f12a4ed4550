/-
  How a case of slots and units comes in.
-/
import Derived.Test.YtpomakmmjbimfaaSameM
namespace Go.Proofs.Ytpomakmmjbimfaa
open Go.ChangeShapes Go.WideShapes Go.ChangeAt Go.RowKit
section
variable {H : Type} {enc : TypeId × Value → H}
set_option maxRecDepth 100000 in
/-- A slice of the reference's slots, its one cell read. -/
theorem rslots_field {W : World} {v : Value} {x : DataW H × List MemPlace} {base fuel : Nat} {spare : Nat → Bool} {held : Bool}
    (hf : DataW.trod enc Try.prog W base spare held fuel 41 [v] = some x) :
    ∃ (A : Option Addr) (ss : List SlotT) (cap : Nat), v = .slice A ss.length cap ∧ SlotsAt W W.heap.size A ss ∧ SNodes W W.heap.size ss ∧ ss.length ≤ cap ∧ cap ≤ 9223372036854775807 ∧ (∀ s ∈ ss, s.nodes.length ≤ 9223372036854775807) := by
  obtain ⟨A, n, cap, rfl, h1, h2, h3, h4⟩ := recs_field Try.underlying41 Try.underlying46 (by kernel_rfl) (by kernel_rfl) (by decide) hf
  obtain ⟨ss, hl, hR⟩ := list_of' (fun i s => (∃ b o, A = some ⟨b, o, none⟩ ∧ b < W.heap.size ∧ ∀ (j : Nat) (v : Value), (cellsS s)[j]? = some v → W.cell? ⟨b, o + i * 5 + j, none⟩ = some v) ∧ Sl W W.heap.size s.nA (s.nodes.map (Value.int .i64)) ∧ s.nodes.length ≤ 9223372036854775807) n (fun i hi => by
    obtain ⟨b, o, e, hb, hg⟩ := h4 i hi
    obtain ⟨u0, _, _, c0, t0⟩ := hg 0 _ rfl
    obtain ⟨u1, _, _, c1, t1⟩ := hg 1 _ rfl
    obtain ⟨u2, _, _, c2, t2⟩ := hg 2 _ rfl
    obtain ⟨u3, _, _, c3, t3⟩ := hg 3 _ rfl
    obtain ⟨u4, _, _, c4, t4⟩ := hg 4 _ rfl
    obtain ⟨z0, e0, _, _⟩ := DataW.trod_int Try.underlying2 t0
    obtain ⟨z1, e1, _, _⟩ := DataW.trod_int Try.underlying3 t1
    obtain ⟨z2, e2, _, _⟩ := DataW.trod_int Try.underlying2 t2
    obtain ⟨z3, e3, _, _⟩ := DataW.trod_int Try.underlying3 t3
    obtain ⟨nA, ns, nc, rfl, m1, m2, m3, m4, m5⟩ := ints_field Try.underlying28 Try.underlying3 (by kernel_rfl) t4
    simp at e0 e1 e2 e3
    subst e0 e1 e2 e3
    refine ⟨⟨z0, z1, z2, z3, nA, ns, nc⟩, ⟨b, o, e, hb, fun j v hj => ?_⟩, m1, by simp only; omega⟩
    match j, hj with
    | 0, hj => cases hj; exact c0
    | 1, hj => cases hj; exact c1
    | 2, hj => cases hj; exact c2
    | 3, hj => cases hj; exact c3
    | 4, hj => cases hj; exact c4
    | j + 5, hj => exact absurd (List.getElem?_eq_some_iff.1 hj).1 (by simp [cellsS]))
  refine ⟨A, ss, cap, by rw [hl], recsAt_of cellsS_len (by omega) (fun i a hi => (hR i a hi).1), fun x hx => ?_, by omega, by omega, fun x hx => ?_⟩
  · obtain ⟨i, hi⟩ := List.mem_iff_getElem?.1 hx
    exact (hR i x hi).2.1
  · obtain ⟨i, hi⟩ := List.mem_iff_getElem?.1 hx
    exact (hR i x hi).2.2

set_option maxRecDepth 100000 in
theorem open_case {W : World} {r : _} {b0 : Nat} {v : Value} {d : DataW H} {p : List MemPlace} {base : Nat} {spare : Nat → Bool} {held : Bool}
    (hv : Value.okWide Try.prog W r b0 43 v) (h : DataW.Trod enc Try.prog W base spare held 43 v d p) :
    ∃ (A : Option Addr) (ss : List SlotT) (c : Nat) (A1 : Option Addr) (us : List UnitT) (c1 : Nat), v = .agg #[.slice A ss.length c, .slice A1 us.length c1] ∧ SlotsAt W W.heap.size A ss ∧ SNodes W W.heap.size ss ∧ ss.length ≤ 9223372036854775807 ∧ (∀ s ∈ ss, s.nodes.length ≤ 9223372036854775807) ∧ UnitsAt W W.heap.size A1 us ∧ (∀ u ∈ us, UnitWf u) ∧ us.length ≤ 9223372036854775807 := by
  obtain ⟨cs, rfl, hsz⟩ := okWide_struct Try.underlying43 hv
  have hC : Try.prog.cellsOf 43 = 2 := by kernel_rfl
  obtain ⟨l⟩ := cs
  match l, hsz.trans hC with
  | [c0, c1], _ =>
    obtain ⟨fuel, hf⟩ := h
    obtain ⟨xs, n, _, hx, _, hlen, hg⟩ := DataW.trod_struct Try.underlying43 hf
    match xs, hlen with
    | [y0, y1], _ =>
      have g0 := hg 0 _ rfl
      have g1 := hg 1 _ rfl
      simp only [Value.cells, List.getElem?_cons_zero, List.getElem?_cons_succ] at g0 g1
      obtain ⟨A, ss, c, rfl, a1, a2, a3, a4, a5⟩ := rslots_field g0
      obtain ⟨A1, us, c1, rfl, b1, b2, b3, b4, b5⟩ := units_field g1
      exact ⟨A, ss, c, A1, us, c1, rfl, a1, a2, by omega, a5, b1, b2, by omega⟩
end
end Go.Proofs.Ytpomakmmjbimfaa
