/-
  How a configuration comes in, as an argument by value.
-/
import Derived.Test.YtloacoalmfaceaaGreatDoorAwk6
import Derived.Test.YtloacoalmfaceaaGreatDoorLift
namespace Go.Proofs.YtloacoalmfaceaaGreatDoor
open Go.ChangeShapes Go.WideShapes Go.ChangeAt Go.RowKit

theorem recsAt_of {α : Type} {cs : α → List Value} {s : Nat} (hs : ∀ a, (cs a).length = s) (h0 : 0 < s) {w : World} {B : Nat} {A : Option Addr} {xs : List α}
    (h : ∀ (i : Nat) (a : α), xs[i]? = some a → ∃ b o, A = some ⟨b, o, none⟩ ∧ b < B ∧ ∀ (j : Nat) (u : Value), (cs a)[j]? = some u → w.cell? ⟨b, o + i * s + j, none⟩ = some u) : RecsAt cs w B A xs := by
  intro j u hj
  have hl := (List.getElem?_eq_some_iff.1 hj).1
  rw [flat_len hs] at hl
  have hi : j / s < xs.length := Nat.div_lt_of_lt_mul (by rw [Nat.mul_comm]; exact hl)
  obtain ⟨a, ha⟩ : ∃ a, xs[j / s]? = some a := ⟨xs[j / s], by simp⟩
  obtain ⟨b, o, e, hb, hc⟩ := h _ a ha
  have hm : j % s < s := Nat.mod_lt _ h0
  obtain ⟨v, hv⟩ : ∃ v, (cs a)[j % s]? = some v := ⟨(cs a)[j % s]'(by rw [hs]; exact hm), by simp⟩
  have h1 := flat_at hs ha hv
  have e2 : j / s * s + j % s = j := by rw [Nat.mul_comm]; exact Nat.div_add_mod j s
  rw [e2, hj] at h1
  cases h1
  have := hc _ _ hv
  rw [Nat.add_assoc, e2] at this
  exact ⟨b, o, e, hb, this⟩
section
variable {H : Type} {enc : TypeId × Value → H}
set_option maxRecDepth 100000 in
theorem edges_field {W : World} {v : Value} {x : DataW H × List MemPlace} {base fuel : Nat} {spare : Nat → Bool} {held : Bool} (hf : DataW.trod enc Tryz.prog W base spare held fuel 23 [v] = some x) :
    ∃ (A : Option Addr) (us : List T3) (cap : Nat), v = .slice A us.length cap ∧ RecsAt cells3 W W.heap.size A us ∧ us.length ≤ cap ∧ cap ≤ 9223372036854775807 := by
  obtain ⟨A, n, cap, rfl, h1, h2, h3, h4⟩ := recs_field Tryz.underlying23 Tryz.underlying50 (by kernel_rfl) (by kernel_rfl) (by decide) hf
  obtain ⟨us, hl, hR⟩ := list_of (fun i u => ∃ b o, A = some ⟨b, o, none⟩ ∧ b < W.heap.size ∧ ∀ (j : Nat) (v : Value), (cells3 u)[j]? = some v → W.cell? ⟨b, o + i * 3 + j, none⟩ = some v) n (fun i hi => by
    obtain ⟨b, o, e, hb, hg⟩ := h4 i hi
    obtain ⟨u0, _, _, c0, t0⟩ := hg 0 _ rfl
    obtain ⟨u1, _, _, c1, t1⟩ := hg 1 _ rfl
    obtain ⟨u2, _, _, c2, t2⟩ := hg 2 _ rfl
    obtain ⟨z0, e0, _, _⟩ := DataW.trod_int Tryz.underlying3 t0
    obtain ⟨z1, e1, _, _⟩ := DataW.trod_int Tryz.underlying3 t1
    obtain ⟨z2, e2, _, _⟩ := DataW.trod_int Tryz.underlying2 t2
    simp at e0 e1 e2
    subst e0 e1 e2
    refine ⟨⟨z0, z1, z2⟩, b, o, e, hb, fun j v hj => ?_⟩
    match j, hj with
    | 0, hj => cases hj; exact c0
    | 1, hj => cases hj; exact c1
    | 2, hj => cases hj; exact c2
    | n + 3, hj => simp [cells3] at hj)
  exact ⟨A, us, cap, by rw [hl], recsAt_of cells3_len (by decide) hR, by omega, by omega⟩
set_option maxRecDepth 100000 in
theorem unts_field {W : World} {v : Value} {x : DataW H × List MemPlace} {base fuel : Nat} {spare : Nat → Bool} {held : Bool} (hf : DataW.trod enc Tryz.prog W base spare held fuel 24 [v] = some x) :
    ∃ (A : Option Addr) (us : List T3) (cap : Nat), v = .slice A us.length cap ∧ RecsAt cells3 W W.heap.size A us ∧ us.length ≤ cap ∧ cap ≤ 9223372036854775807 := by
  obtain ⟨A, n, cap, rfl, h1, h2, h3, h4⟩ := recs_field Tryz.underlying24 Tryz.underlying53 (by kernel_rfl) (by kernel_rfl) (by decide) hf
  obtain ⟨us, hl, hR⟩ := list_of (fun i u => ∃ b o, A = some ⟨b, o, none⟩ ∧ b < W.heap.size ∧ ∀ (j : Nat) (v : Value), (cells3 u)[j]? = some v → W.cell? ⟨b, o + i * 3 + j, none⟩ = some v) n (fun i hi => by
    obtain ⟨b, o, e, hb, hg⟩ := h4 i hi
    obtain ⟨u0, _, _, c0, t0⟩ := hg 0 _ rfl
    obtain ⟨u1, _, _, c1, t1⟩ := hg 1 _ rfl
    obtain ⟨u2, _, _, c2, t2⟩ := hg 2 _ rfl
    obtain ⟨z0, e0, _, _⟩ := DataW.trod_int Tryz.underlying3 t0
    obtain ⟨z1, e1, _, _⟩ := DataW.trod_int Tryz.underlying3 t1
    obtain ⟨z2, e2, _, _⟩ := DataW.trod_int Tryz.underlying3 t2
    simp at e0 e1 e2
    subst e0 e1 e2
    refine ⟨⟨z0, z1, z2⟩, b, o, e, hb, fun j v hj => ?_⟩
    match j, hj with
    | 0, hj => cases hj; exact c0
    | 1, hj => cases hj; exact c1
    | 2, hj => cases hj; exact c2
    | n + 3, hj => simp [cells3] at hj)
  exact ⟨A, us, cap, by rw [hl], recsAt_of cells3_len (by decide) hR, by omega, by omega⟩
set_option maxRecDepth 100000 in
theorem plans_field {W : World} {v : Value} {x : DataW H × List MemPlace} {base fuel : Nat} {spare : Nat → Bool} {held : Bool} (hf : DataW.trod enc Tryz.prog W base spare held fuel 25 [v] = some x) :
    ∃ (A : Option Addr) (ps : List Plan) (cap : Nat), v = .slice A ps.length cap ∧ Plans W W.heap.size A ps ∧ ps.length ≤ cap ∧ cap ≤ 9223372036854775807 := by
  obtain ⟨A, len, cap, rfl, h1, h2, h3, h4⟩ := recs_field Tryz.underlying25 Tryz.underlying43 (by kernel_rfl) (by kernel_rfl) (by decide) hf
  obtain ⟨ps, hl, hR⟩ := list_of (fun i q => PlanAt W W.heap.size A i q ∧ PlanWf q) len (fun i hi => by
    obtain ⟨b, o, e, hb, hg⟩ := h4 i hi
    obtain ⟨u0, y0, m0, c0, t0⟩ := hg 0 _ rfl
    obtain ⟨u1, y1, m1, c1, t1⟩ := hg 1 _ rfl
    obtain ⟨u2, y2, m2, c2, t2⟩ := hg 2 _ rfl
    obtain ⟨s, e0, _, hs⟩ := DataW.trod_string Tryz.underlying9 t0
    obtain ⟨z, e1, _, hz⟩ := DataW.trod_int Tryz.underlying3 t1
    obtain ⟨kA, zs, kc, rfl, k1, k2, k3, k4, k5⟩ := ints_field Tryz.underlying22 Tryz.underlying3 (by kernel_rfl) t2
    simp at e0 e1
    subst e0 e1
    exact ⟨⟨s, z, kA, zs, kc⟩, ⟨b, o, e, hb, c0, c1, c2, k1⟩, ⟨k2, hz, by unfold maxLen at hs; exact hs, k3, k4, k5⟩⟩)
  exact ⟨A, ps, cap, by rw [hl], hR, by omega, by omega⟩
/-- what the argument is. -/
structure CfgArg (w : World) (c : Cfg) : Prop where
  at_ : CfgAt w w.heap.size c
  pl : c.pl.length ≤ c.pc ∧ c.pc ≤ 9223372036854775807
  wf : ∀ p ∈ c.pl, PlanWf p
set_option maxRecDepth 100000 in
set_option maxHeartbeats 1000000 in
theorem open_cfg {W : World} {r : _} {b0 : Nat} {v : Value} {d : DataW H} {p : List MemPlace} {base : Nat} {spare : Nat → Bool} {held : Bool}
    (hv : Value.okWide Tryz.prog W r b0 27 v) (h : DataW.Trod enc Tryz.prog W base spare held 27 v d p) : ∃ c : Cfg, v = .agg c.cells.toArray ∧ CfgArg W c := by
  obtain ⟨cs, rfl, hsz⟩ := okWide_struct Tryz.underlying27 hv
  have hC : Tryz.prog.cellsOf 27 = 15 := by kernel_rfl
  obtain ⟨l⟩ := cs
  match l, hsz.trans hC with
  | [c0, c1, c2, c3, c4, c5, c6, c7, c8, c9, c10, c11, c12, c13, c14], _ =>
    obtain ⟨fuel, hf⟩ := h
    obtain ⟨xs, n, _, hx, _, hlen, hg⟩ := DataW.trod_struct Tryz.underlying27 hf
    match xs, hlen with
    | [y0, y1, y2, y3, y4, y5, y6, y7, y8, y9, y10, y11, y12, y13, y14], _ =>
      have g0 := hg 0 _ rfl
      have g1 := hg 1 _ rfl
      have g2 := hg 2 _ rfl
      have g3 := hg 3 _ rfl
      have g4 := hg 4 _ rfl
      have g5 := hg 5 _ rfl
      have g6 := hg 6 _ rfl
      have g7 := hg 7 _ rfl
      have g8 := hg 8 _ rfl
      have g9 := hg 9 _ rfl
      have g10 := hg 10 _ rfl
      have g11 := hg 11 _ rfl
      have g12 := hg 12 _ rfl
      have g13 := hg 13 _ rfl
      have g14 := hg 14 _ rfl
      simp only [Value.cells, List.getElem?_cons_zero, List.getElem?_cons_succ] at g0 g1 g2 g3 g4 g5 g6 g7 g8 g9 g10 g11 g12 g13 g14
      obtain ⟨zc, ec, _, _⟩ := DataW.trod_int Tryz.underlying3 (show DataW.trod enc Tryz.prog W base spare held n 3 [c0] = some y0 from g0)
      obtain ⟨dA, ds, dc, rfl, a1, _, a3, a4, _⟩ := ints_field Tryz.underlying22 Tryz.underlying3 (by kernel_rfl) g1
      obtain ⟨eA, es, ec', rfl, e1, e2, e3⟩ := edges_field g2
      obtain ⟨uA, us, uc, rfl, u1, u2, u3⟩ := unts_field g3
      obtain ⟨pA, pl, pc, rfl, p1, p2, p3⟩ := plans_field g4
      obtain ⟨z0, w0, _, _⟩ := DataW.trod_int Tryz.underlying2 (show DataW.trod enc Tryz.prog W base spare held n 2 [c5] = some y5 from g5)
      obtain ⟨z1, w1, _, _⟩ := DataW.trod_int Tryz.underlying2 (show DataW.trod enc Tryz.prog W base spare held n 2 [c6] = some y6 from g6)
      obtain ⟨z2, w2, _, _⟩ := DataW.trod_int Tryz.underlying2 (show DataW.trod enc Tryz.prog W base spare held n 2 [c7] = some y7 from g7)
      obtain ⟨z3, w3, _, _⟩ := DataW.trod_int Tryz.underlying2 (show DataW.trod enc Tryz.prog W base spare held n 2 [c8] = some y8 from g8)
      obtain ⟨z4, w4, _, _⟩ := DataW.trod_int Tryz.underlying2 (show DataW.trod enc Tryz.prog W base spare held n 2 [c9] = some y9 from g9)
      obtain ⟨z5, w5, _, _⟩ := DataW.trod_int Tryz.underlying2 (show DataW.trod enc Tryz.prog W base spare held n 2 [c10] = some y10 from g10)
      obtain ⟨z6, w6, _, _⟩ := DataW.trod_int Tryz.underlying2 (show DataW.trod enc Tryz.prog W base spare held n 2 [c11] = some y11 from g11)
      obtain ⟨z7, w7, _, _⟩ := DataW.trod_int Tryz.underlying2 (show DataW.trod enc Tryz.prog W base spare held n 2 [c12] = some y12 from g12)
      obtain ⟨z8, w8, _, _⟩ := DataW.trod_int Tryz.underlying3 (show DataW.trod enc Tryz.prog W base spare held n 3 [c13] = some y13 from g13)
      obtain ⟨z9, w9, _, _⟩ := DataW.trod_int Tryz.underlying3 (show DataW.trod enc Tryz.prog W base spare held n 3 [c14] = some y14 from g14)
      simp at ec w0 w1 w2 w3 w4 w5 w6 w7 w8 w9
      subst ec w0 w1 w2 w3 w4 w5 w6 w7 w8 w9
      exact ⟨⟨zc, dA, ds, dc, eA, es, ec', uA, us, uc, pA, pl, pc, [z0, z1, z2, z3, z4, z5, z6, z7, z8, z9]⟩, rfl, ⟨⟨a1, e1, u1, p1, rfl⟩, ⟨p2, p3⟩, fun q hq => by
        obtain ⟨i, hi⟩ := List.getElem?_of_mem hq
        exact (p1 i q hi).2⟩⟩
theorem CfgArg.sz {w : World} {c : Cfg} (h : CfgArg w c) (hs : Short c) : CfgSz c := by
  obtain ⟨s1, s2, s3, s4⟩ := hs
  exact ⟨by omega, by omega, by omega, by omega, h.pl.1, fun p hp => by have := (h.wf p hp).len; have := (h.wf p hp).cap; omega⟩
end
end Go.Proofs.YtloacoalmfaceaaGreatDoor
