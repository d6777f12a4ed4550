/-
  How a slice of events comes in, as far as its own row: the cells of each event (what their slices hold is left open).
-/
import Derived.Test.YtakdkiggaalimaaDoorTrM
import Derived.Test.YtakdkiggaalimaaDoorProg
import Derived.Test.YtakdkiggaalimaaDoorLift
namespace Go.Proofs.YtakdkiggaalimaaDoor
open Go.ChangeShapes Go.WideShapes Go.ChangeAt Go.RowKit

section
variable {H : Type} {enc : TypeId × Value → H} {P : Program}
/-- a slice of structs of whatever fields: each element's cells and its own reading. -/
theorem recs_whole {W : World} {t e : TypeId} {C : Nat} {v : Value} {x : DataW H × List MemPlace} {base fuel : Nat} {spare : Nat → Bool} {held : Bool}
    (ht : P.underlying t = some (.slice e)) (hC : P.cellsOf e = C) (hpos : 0 < C) (hf : DataW.trod enc P W base spare held fuel t [v] = some x) :
    ∃ (A : Option Addr) (n cap : Nat), v = .slice A n cap ∧ n ≤ cap ∧ cap ≤ 9223372036854775807 ∧ (A = none → cap = 0) ∧
      ∀ i, i < n → ∃ b o cs, A = some ⟨b, o, none⟩ ∧ b < W.heap.size ∧ cs.length = C ∧ (∀ (j : Nat) (u : Value), cs[j]? = some u → W.cell? ⟨b, o + i * C + j, none⟩ = some u) ∧ ∃ (y : DataW H × List MemPlace) (m : Nat), DataW.trod enc P W base spare held m e cs = some y := by
  subst hC
  rcases Go.Deep.open_slice ht hf with ⟨hcs, _⟩ | ⟨a, len, cap, m, n, D, Pl, hcs, hb, hl, hm, hmm, hx, hi⟩
  · simp at hcs
    subst hcs
    exact ⟨none, 0, 0, rfl, by omega, by omega, fun _ => rfl, fun i h => absurd h (by omega)⟩
  · simp at hcs
    subst hcs
    refine ⟨some a, len, cap, rfl, hl, by unfold maxLen at hm; omega, (fun h => by cases h), fun i hil => ?_⟩
    have hml : len ≤ m := by
      rw [hmm]
      split <;> omega
    obtain ⟨cs', hc, ht'⟩ := hi i (by omega)
    obtain ⟨_, hcl, hat⟩ := World.cells?_some hc
    obtain ⟨cs0, hc0, _⟩ := hi 0 (by omega)
    obtain ⟨_, hcl0, hat0⟩ := World.cells?_some hc0
    have h0 := hat0 0 hpos
    rw [List.getElem?_eq_getElem (by omega), Nat.zero_mul] at h0
    have hs0 : a.spot = none := by simpa [Addr.add] using World.cell?_spot h0
    have hlt : a.block < W.heap.size := by simpa [Addr.add] using World.block_lt_of_cell? W _ h0
    refine ⟨a.block, a.off, cs', by cases a; simp at hs0; simp [hs0], hlt, hcl, fun j u hj => ?_, _, _, ht'⟩
    have hjl : j < P.cellsOf e := by rw [← hcl]; exact (List.getElem?_eq_some_iff.1 hj).1
    have h1 := (hat j hjl).trans hj
    rw [Go.Deep.add_add] at h1
    have := add_at h1 hs0
    rw [Nat.add_assoc]
    exact this
theorem slice_form {W : World} {t e : TypeId} {v : Value} {x : DataW H × List MemPlace} {base fuel : Nat} {spare : Nat → Bool} {held : Bool}
    (ht : P.underlying t = some (.slice e)) (hf : DataW.trod enc P W base spare held fuel t [v] = some x) : ∃ A n c, v = .slice A n c := by
  rcases Go.Deep.open_slice ht hf with ⟨hcs, _⟩ | ⟨a, len, cap, m, n, D, Pl, hcs, _⟩
  · simp at hcs
    exact ⟨_, _, _, hcs⟩
  · simp at hcs
    exact ⟨_, _, _, hcs⟩
end
variable {H : Type} {enc : TypeId × Value → H}
set_option maxRecDepth 100000 in
set_option maxHeartbeats 1000000 in
theorem ev_form {W : World} {cs : List Value} {x : DataW H × List MemPlace} {base fuel : Nat} {spare : Nat → Bool} {held : Bool} (hl : cs.length = 28) (hf : DataW.trod enc Tryd.prog W base spare held fuel 41 cs = some x) : ∃ e : EvM, evCs e = cs := by
  match cs, hl with
  | [c0, c1, c2, c3, c4, c5, c6, c7, c8, c9, c10, c11, c12, c13, c14, c15, c16, c17, c18, c19, c20, c21, c22, c23, c24, c25, c26, c27], _ =>
    obtain ⟨xs, n, _, _, _, hlen, hg⟩ := DataW.trod_struct Tryd.underlying41 hf
    match xs, hlen with
    | [y0, y1, y2, y3, y4, y5, y6, y7, y8, y9, y10], _ =>
      obtain ⟨z0, e0, _, _⟩ := DataW.trod_int Tryd.underlying3 (show DataW.trod enc Tryd.prog W base spare held _ 3 [c0] = some y0 from hg 0 _ rfl)
      obtain ⟨z1, e1, _, _⟩ := DataW.trod_int Tryd.underlying2 (show DataW.trod enc Tryd.prog W base spare held _ 2 [c1] = some y1 from hg 1 _ rfl)
      obtain ⟨z2, e2, _, _⟩ := DataW.trod_int Tryd.underlying3 (show DataW.trod enc Tryd.prog W base spare held _ 3 [c2] = some y2 from hg 2 _ rfl)
      obtain ⟨z3, e3, _, _⟩ := DataW.trod_int Tryd.underlying2 (show DataW.trod enc Tryd.prog W base spare held _ 2 [c3] = some y3 from hg 3 _ rfl)
      obtain ⟨z4, e4, _, _⟩ := DataW.trod_int Tryd.underlying2 (show DataW.trod enc Tryd.prog W base spare held _ 2 [c4] = some y4 from hg 4 _ rfl)
      obtain ⟨z5, e5, _, _⟩ := DataW.trod_int Tryd.underlying2 (show DataW.trod enc Tryd.prog W base spare held _ 2 [c5] = some y5 from hg 5 _ rfl)
      obtain ⟨xsE, nE, _, _, _, hlE, hgE⟩ := DataW.trod_struct Tryd.underlying32 (show DataW.trod enc Tryd.prog W base spare held _ 32 [c6, c7, c8] = some y6 from hg 6 _ rfl)
      match xsE, hlE with
      | [E0, E1, E2], _ =>
      obtain ⟨z6, e6, _, _⟩ := DataW.trod_int Tryd.underlying2 (show DataW.trod enc Tryd.prog W base spare held _ 2 [c6] = some E0 from hgE 0 _ rfl)
      obtain ⟨z7, e7, _, _⟩ := DataW.trod_int Tryd.underlying3 (show DataW.trod enc Tryd.prog W base spare held _ 3 [c7] = some E1 from hgE 1 _ rfl)
      obtain ⟨A8, n8, q8, e8⟩ := slice_form Tryd.underlying30 (show DataW.trod enc Tryd.prog W base spare held _ 30 [c8] = some E2 from hgE 2 _ rfl)
      obtain ⟨xsO, nO, _, _, _, hlO, hgO⟩ := DataW.trod_struct Tryd.underlying34 (show DataW.trod enc Tryd.prog W base spare held _ 34 [c9, c10, c11, c12, c13] = some y7 from hg 7 _ rfl)
      match xsO, hlO with
      | [O0, O1, O2, O3, O4], _ =>
      obtain ⟨z9, e9, _, _⟩ := DataW.trod_int Tryd.underlying3 (show DataW.trod enc Tryd.prog W base spare held _ 3 [c9] = some O0 from hgO 0 _ rfl)
      obtain ⟨z10, e10, _, _⟩ := DataW.trod_int Tryd.underlying2 (show DataW.trod enc Tryd.prog W base spare held _ 2 [c10] = some O1 from hgO 1 _ rfl)
      obtain ⟨z11, e11, _, _⟩ := DataW.trod_int Tryd.underlying3 (show DataW.trod enc Tryd.prog W base spare held _ 3 [c11] = some O2 from hgO 2 _ rfl)
      obtain ⟨z12, e12, _, _⟩ := DataW.trod_int Tryd.underlying2 (show DataW.trod enc Tryd.prog W base spare held _ 2 [c12] = some O3 from hgO 3 _ rfl)
      obtain ⟨z13, e13, _, _⟩ := DataW.trod_int Tryd.underlying3 (show DataW.trod enc Tryd.prog W base spare held _ 3 [c13] = some O4 from hgO 4 _ rfl)
      obtain ⟨xsS, nS, _, _, _, hlS, hgS⟩ := DataW.trod_struct Tryd.underlying36 (show DataW.trod enc Tryd.prog W base spare held _ 36 [c14, c15, c16, c17, c18] = some y8 from hg 8 _ rfl)
      match xsS, hlS with
      | [S0, S1, S2, S3, S4], _ =>
      obtain ⟨z14, e14, _, _⟩ := DataW.trod_int Tryd.underlying3 (show DataW.trod enc Tryd.prog W base spare held _ 3 [c14] = some S0 from hgS 0 _ rfl)
      obtain ⟨z15, e15, _, _⟩ := DataW.trod_int Tryd.underlying2 (show DataW.trod enc Tryd.prog W base spare held _ 2 [c15] = some S1 from hgS 1 _ rfl)
      obtain ⟨z16, e16, _, _⟩ := DataW.trod_int Tryd.underlying3 (show DataW.trod enc Tryd.prog W base spare held _ 3 [c16] = some S2 from hgS 2 _ rfl)
      obtain ⟨z17, e17, _, _⟩ := DataW.trod_int Tryd.underlying3 (show DataW.trod enc Tryd.prog W base spare held _ 3 [c17] = some S3 from hgS 3 _ rfl)
      obtain ⟨z18, e18, _, _⟩ := DataW.trod_int Tryd.underlying2 (show DataW.trod enc Tryd.prog W base spare held _ 2 [c18] = some S4 from hgS 4 _ rfl)
      obtain ⟨xsX, nX, _, _, _, hlX, hgX⟩ := DataW.trod_struct Tryd.underlying39 (show DataW.trod enc Tryd.prog W base spare held _ 39 [c19, c20, c21, c22, c23, c24, c25, c26] = some y9 from hg 9 _ rfl)
      match xsX, hlX with
      | [X0, X1, X2, X3, X4, X5, X6, X7], _ =>
      obtain ⟨z19, e19, _, _⟩ := DataW.trod_int Tryd.underlying3 (show DataW.trod enc Tryd.prog W base spare held _ 3 [c19] = some X0 from hgX 0 _ rfl)
      obtain ⟨z20, e20, _, _⟩ := DataW.trod_int Tryd.underlying3 (show DataW.trod enc Tryd.prog W base spare held _ 3 [c20] = some X1 from hgX 1 _ rfl)
      obtain ⟨z21, e21, _, _⟩ := DataW.trod_int Tryd.underlying2 (show DataW.trod enc Tryd.prog W base spare held _ 2 [c21] = some X2 from hgX 2 _ rfl)
      obtain ⟨z22, e22, _, _⟩ := DataW.trod_int Tryd.underlying2 (show DataW.trod enc Tryd.prog W base spare held _ 2 [c22] = some X3 from hgX 3 _ rfl)
      obtain ⟨z23, e23, _, _⟩ := DataW.trod_int Tryd.underlying2 (show DataW.trod enc Tryd.prog W base spare held _ 2 [c23] = some X4 from hgX 4 _ rfl)
      obtain ⟨z24, e24, _, _⟩ := DataW.trod_int Tryd.underlying3 (show DataW.trod enc Tryd.prog W base spare held _ 3 [c24] = some X5 from hgX 5 _ rfl)
      obtain ⟨A25, n25, q25, e25⟩ := slice_form Tryd.underlying37 (show DataW.trod enc Tryd.prog W base spare held _ 37 [c25] = some X6 from hgX 6 _ rfl)
      obtain ⟨A26, n26, q26, e26⟩ := slice_form Tryd.underlying29 (show DataW.trod enc Tryd.prog W base spare held _ 29 [c26] = some X7 from hgX 7 _ rfl)
      obtain ⟨A27, n27, q27, e27⟩ := slice_form Tryd.underlying30 (show DataW.trod enc Tryd.prog W base spare held _ 30 [c27] = some y10 from hg 10 _ rfl)
      simp at e0 e1 e2 e3 e4 e5 e6 e7 e9 e10 e11 e12 e13 e14 e15 e16 e17 e18 e19 e20 e21 e22 e23 e24
      subst e0 e1 e2 e3 e4 e5 e6 e7 e8 e9 e10 e11 e12 e13 e14 e15 e16 e17 e18 e19 e20 e21 e22 e23 e24 e25 e26 e27
      refine ⟨⟨z0, z1, z2, z3, z4, z5, z6, z7, A8, q8, List.replicate n8 0, ⟨z9, z10, z11, z12, z13⟩, ⟨z14, z15, z16, z17, z18⟩, ⟨z19, z20, z21, z22, z23, z24, A25, q25, List.replicate n25 ⟨0, none, 0, []⟩, A26, q26, List.replicate n26 0⟩, A27, q27, List.replicate n27 0⟩, ?_⟩
      simp [evCs]
set_option maxRecDepth 100000 in
theorem open_evs {W : World} {r : Reach} {b0 : Nat} {v : Value} {d : DataW H} {p : List MemPlace} {base : Nat} {spare : Nat → Bool} {held : Bool}
    (hv : Value.okWide Tryd.prog W r b0 22 v) (h : DataW.Trod enc Tryd.prog W base spare held 22 v d p) :
    ∃ (A : Option Addr) (us : List EvM) (cap : Nat), v = .slice A us.length cap ∧ RecsAt evCs W W.heap.size A us ∧ us.length ≤ 9223372036854775807 := by
  obtain ⟨A, len, cap, rfl⟩ := okWide_slice Tryd.underlying22 hv
  obtain ⟨fuel, hf⟩ := h
  obtain ⟨A', n, cap', e, h1, h2, h3, h4⟩ := recs_whole (C := 28) Tryd.underlying22 (by kernel_rfl) (by decide) (show DataW.trod enc Tryd.prog W base spare held fuel 22 [.slice A len cap] = some _ from by simpa [Value.cells] using hf)
  injection e with e1 e2 e3
  subst e1 e2 e3
  obtain ⟨us, hl, hR⟩ := list_of (fun i u => ∃ b o, A = some ⟨b, o, none⟩ ∧ b < W.heap.size ∧ ∀ (j : Nat) (v : Value), (evCs u)[j]? = some v → W.cell? ⟨b, o + i * 28 + j, none⟩ = some v) len (fun i hi => by
    obtain ⟨b, o, cs, e, hb, hcl, hc, y, m, ht⟩ := h4 i hi
    obtain ⟨x, hx⟩ := ev_form hcl ht
    exact ⟨x, b, o, e, hb, by rw [hx]; exact hc⟩)
  exact ⟨A, us, cap, by rw [hl], recsAt_of evCs_len (by decide) hR, by omega⟩
end Go.Proofs.YtakdkiggaalimaaDoor
