/-
  How a protocol comes in, as an argument by value.
-/
import Derived.Test.YtbbklideciappaaDoorPqA
import Derived.Test.YtbbklideciappaaDoorProg
import Derived.Test.YtbbklideciappaaDoorLift
namespace Go.Proofs.YtbbklideciappaaDoor
open Go.ChangeShapes Go.WideShapes Go.ChangeAt Go.RowKit

theorem wf64 {z : Int} (h : (Lit.int .i64 z).wf = true) : -9223372036854775808 ≤ z ∧ z ≤ 9223372036854775807 := by
  have h1 : IntKind.i64.min = -9223372036854775808 := rfl
  have h2 : IntKind.i64.max = 9223372036854775807 := rfl
  simp only [Lit.wf, h1, h2, Bool.and_eq_true, decide_eq_true_eq] at h
  exact h
section
variable {H : Type} {enc : TypeId × Value → H}
set_option maxRecDepth 100000 in
theorem answers_field {W : World} {v : Value} {x : DataW H × List MemPlace} {base fuel : Nat} {spare : Nat → Bool} {held : Bool} (hf : DataW.trod enc Tryd.prog W base spare held fuel 34 [v] = some x) :
    ∃ (A : Option Addr) (us : List Ans) (cap : Nat), v = .slice A us.length cap ∧ RecsAt cellsA W W.heap.size A us ∧ us.length ≤ cap ∧ cap ≤ 9223372036854775807 ∧ ∀ a ∈ us, AnsWf a := by
  obtain ⟨A, n, cap, rfl, h1, h2, h3, h4⟩ := recs_field Tryd.underlying34 Tryd.underlying40 (by kernel_rfl) (by kernel_rfl) (by decide) hf
  obtain ⟨us, hl, hR⟩ := list_of (fun i u => (∃ b o, A = some ⟨b, o, none⟩ ∧ b < W.heap.size ∧ ∀ (j : Nat) (v : Value), (cellsA u)[j]? = some v → W.cell? ⟨b, o + i * 4 + j, none⟩ = some v) ∧ AnsWf u) n (fun i hi => by
    obtain ⟨b, o, e, hb, hg⟩ := h4 i hi
    obtain ⟨u0, _, _, c0, t0⟩ := hg 0 _ rfl
    obtain ⟨u1, _, _, c1, t1⟩ := hg 1 _ rfl
    obtain ⟨u2, _, _, c2, t2⟩ := hg 2 _ rfl
    obtain ⟨u3, _, _, c3, t3⟩ := hg 3 _ rfl
    obtain ⟨z0, e0, _, k0⟩ := DataW.trod_string Tryd.underlying9 t0
    obtain ⟨z1, e1, _, k1⟩ := DataW.trod_int Tryd.underlying3 t1
    obtain ⟨z2, e2, _, k2⟩ := DataW.trod_int Tryd.underlying3 t2
    obtain ⟨z3, e3, _, k3⟩ := DataW.trod_string Tryd.underlying9 t3
    simp at e0 e1 e2 e3
    subst e0 e1 e2 e3
    refine ⟨⟨z0, z1, z2, z3⟩, ⟨b, o, e, hb, fun j v hj => ?_⟩, ⟨by unfold maxLen at k0; exact k0, wf64 k1, wf64 k2, by unfold maxLen at k3; exact k3⟩⟩
    match j, hj with
    | 0, hj => cases hj; exact c0
    | 1, hj => cases hj; exact c1
    | 2, hj => cases hj; exact c2
    | 3, hj => cases hj; exact c3
    | n + 4, hj => simp [cellsA] at hj)
  exact ⟨A, us, cap, by rw [hl], recsAt_of cellsA_len (by decide) (fun i a ha => (hR i a ha).1), by omega, by omega, fun a ha => by
    obtain ⟨i, hi⟩ := List.getElem?_of_mem ha
    exact (hR i a hi).2⟩
set_option maxRecDepth 100000 in
theorem questions_field {W : World} {v : Value} {x : DataW H × List MemPlace} {base fuel : Nat} {spare : Nat → Bool} {held : Bool} (hf : DataW.trod enc Tryd.prog W base spare held fuel 22 [v] = some x) :
    ∃ (A : Option Addr) (us : List Ques) (cap : Nat), v = .slice A us.length cap ∧ QuesAt W W.heap.size A us ∧ us.length ≤ cap ∧ cap ≤ 9223372036854775807 ∧ ∀ q ∈ us, QuesWf q := by
  obtain ⟨A, n, cap, rfl, h1, h2, h3, h4⟩ := recs_field Tryd.underlying22 Tryd.underlying36 (by kernel_rfl) (by kernel_rfl) (by decide) hf
  obtain ⟨us, hl, hR⟩ := list_of (fun i u => (∃ b o, A = some ⟨b, o, none⟩ ∧ b < W.heap.size ∧ ∀ (j : Nat) (v : Value), (cellsQ u)[j]? = some v → W.cell? ⟨b, o + i * 2 + j, none⟩ = some v) ∧ QuesWf u ∧ RecsAt cellsA W W.heap.size u.aA u.ans) n (fun i hi => by
    obtain ⟨b, o, e, hb, hg⟩ := h4 i hi
    obtain ⟨u0, _, _, c0, t0⟩ := hg 0 _ rfl
    obtain ⟨u1, _, _, c1, t1⟩ := hg 1 _ rfl
    obtain ⟨z0, e0, _, k0⟩ := DataW.trod_string Tryd.underlying9 t0
    obtain ⟨aA, xs, ac, e1, a1, a2, a3, a4⟩ := answers_field t1
    simp at e0
    subst e0 e1
    refine ⟨⟨z0, aA, xs, ac⟩, ⟨b, o, e, hb, fun j v hj => ?_⟩, ⟨by unfold maxLen at k0; exact k0, ⟨a2, a3⟩, a4⟩, a1⟩
    match j, hj with
    | 0, hj => cases hj; exact c0
    | 1, hj => cases hj; exact c1
    | n + 2, hj => simp [cellsQ] at hj)
  refine ⟨A, us, cap, by rw [hl], ⟨recsAt_of cellsQ_len (by decide) (fun i a ha => (hR i a ha).1), fun q hq => ?_⟩, by omega, by omega, fun q hq => ?_⟩
  · obtain ⟨i, hi⟩ := List.getElem?_of_mem hq
    exact (hR i q hi).2.2
  · obtain ⟨i, hi⟩ := List.getElem?_of_mem hq
    exact (hR i q hi).2.1
/-- what the argument is. -/
structure ProtArg (w : World) (p : Prot) : Prop where
  at_ : ProtAt w w.heap.size p
  wf : ProtWf p
set_option maxRecDepth 100000 in
set_option maxHeartbeats 1000000 in
theorem open_prot {W : World} {r : _} {b0 : Nat} {v : Value} {d : DataW H} {p : List MemPlace} {base : Nat} {spare : Nat → Bool} {held : Bool}
    (hv : Value.okWide Tryd.prog W r b0 24 v) (h : DataW.Trod enc Tryd.prog W base spare held 24 v d p) : ∃ t : Prot, v = .agg #[.string t.name, .int .i64 t.ver, .slice t.qA t.qs.length t.qc] ∧ ProtArg W t := by
  obtain ⟨cs, rfl, hsz⟩ := okWide_struct Tryd.underlying24 hv
  have hC : Tryd.prog.cellsOf 24 = 3 := by kernel_rfl
  obtain ⟨l⟩ := cs
  match l, hsz.trans hC with
  | [c0, c1, c2], _ =>
    obtain ⟨fuel, hf⟩ := h
    obtain ⟨xs, n, _, hx, _, hlen, hg⟩ := DataW.trod_struct Tryd.underlying24 hf
    match xs, hlen with
    | [y0, y1, y2], _ =>
      have g0 := hg 0 _ rfl
      have g1 := hg 1 _ rfl
      have g2 := hg 2 _ rfl
      simp only [Value.cells, List.getElem?_cons_zero, List.getElem?_cons_succ] at g0 g1 g2
      obtain ⟨s, e0, _, k0⟩ := DataW.trod_string Tryd.underlying9 (show DataW.trod enc Tryd.prog W base spare held n 9 [c0] = some y0 from g0)
      obtain ⟨z, e1, _, k1⟩ := DataW.trod_int Tryd.underlying3 (show DataW.trod enc Tryd.prog W base spare held n 3 [c1] = some y1 from g1)
      obtain ⟨qA, qs, qc, rfl, q1, q2, q3, q4⟩ := questions_field g2
      simp at e0 e1
      subst e0 e1
      exact ⟨⟨s, z, qA, qs, qc⟩, rfl, ⟨q1, ⟨by unfold maxLen at k0; exact k0, wf64 k1, ⟨q2, q3⟩, q4⟩⟩⟩
end
end Go.Proofs.YtbbklideciappaaDoor
