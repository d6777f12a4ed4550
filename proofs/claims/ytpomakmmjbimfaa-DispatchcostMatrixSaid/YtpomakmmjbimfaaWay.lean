/-
  How a graph with travel times comes in.
-/
import Derived.Test.YtpomakmmjbimfaaNetB
namespace Go.Proofs.Ytpomakmmjbimfaa
open Go.ChangeShapes Go.WideShapes Go.ChangeAt Go.RowKit

theorem edge_len (e : EdgeT) : [Value.int .i64 e.frm, .int .i64 e.to, .int .i64 e.tm].length = 3 := rfl

theorem Fin35.le_inf {n : Nat} {S : Nat → Prop} {E : List EdgeT} {W D : List Int} (h : Fin35 n S E W D) (v : Nat) (d : Int) (hd : D[v]? = some d) : d ≤ 4611686018427387904 := by
  by_cases c : d = 4611686018427387904
  · omega
  · have := h.small v d hd c
    omega
theorem farK_le {D : List Int} (h : ∀ (v : Nat) (d : Int), D[v]? = some d → d ≤ 4611686018427387904) : ∀ (zs : List Int) (a m : Int), a ≤ 4611686018427387904 → zs.foldl (farStep D) (some a) = some m → m ≤ 4611686018427387904
  | [], a, m, ha, e => by cases e; exact ha
  | z :: zs, a, m, ha, e => by
    rw [List.foldl_cons] at e
    have hs : farStep D (some a) z = if 0 ≤ z ∧ z < D.length then some (max a (D.getD z.toNat 0)) else none := rfl
    rw [hs] at e
    split at e
    · rename_i hz
      obtain ⟨d, hd⟩ : ∃ d, D[z.toNat]? = some d := ⟨D[z.toNat]'(by omega), by simp⟩
      have := h _ _ hd
      have hg : D.getD z.toNat 0 = d := by rw [List.getD_eq_getElem?_getD, hd]; rfl
      rw [hg] at e
      exact farK_le h zs _ _ (by omega) e
    · rw [far_none] at e
      cases e
/-- one node more never makes it less. -/
theorem farL_more {D zs : List Int} (h : ∀ (v : Nat) (d : Int), D[v]? = some d → d ≤ 4611686018427387904) (hne : zs ≠ []) (z : Int) : farL D zs ≤ farL D (zs ++ [z]) := by
  unfold farL
  rw [if_neg hne, if_neg (by simp), farK_snoc]
  cases e : farK D zs with
  | none => exact Int.le_refl _
  | some m =>
    have hm := farK_le h zs 0 m (by omega) e
    have hs : farStep D (some m) z = if 0 ≤ z ∧ z < D.length then some (max m (D.getD z.toNat 0)) else none := rfl
    rw [hs]
    simp only [Option.getD_some]
    split
    · simp only [Option.getD_some]
      omega
    · simp only [Option.getD_none]
      exact hm

section
variable {H : Type} {enc : TypeId × Value → H}
set_option maxRecDepth 100000 in
/-- A slice of edges, its one cell read. -/
theorem edges_field {W : World} {v : Value} {x : DataW H × List MemPlace} {base fuel : Nat} {spare : Nat → Bool} {held : Bool}
    (hf : DataW.trod enc Try.prog W base spare held fuel 22 [v] = some x) :
    ∃ (A : Option Addr) (E : List EdgeT) (cap : Nat), v = .slice A E.length cap ∧ EdgesAt W W.heap.size A E ∧ E.length ≤ cap ∧ cap ≤ 9223372036854775807 ∧ (A = none → cap = 0) := by
  obtain ⟨A, n, cap, rfl, h1, h2, h3, h4⟩ := recs_field Try.underlying22 Try.underlying72 (by kernel_rfl) (by kernel_rfl) (by decide) hf
  obtain ⟨E, hl, hR⟩ := list_of' (fun i (u : EdgeT) => ∃ b o, A = some ⟨b, o, none⟩ ∧ b < W.heap.size ∧ ∀ (j : Nat) (v : Value), [Value.int .i64 u.frm, .int .i64 u.to, .int .i64 u.tm][j]? = some v → W.cell? ⟨b, o + i * 3 + j, none⟩ = some v) n (fun i hi => by
    obtain ⟨b, o, e, hb, hg⟩ := h4 i hi
    obtain ⟨u0, _, _, c0, t0⟩ := hg 0 _ rfl
    obtain ⟨u1, _, _, c1, t1⟩ := hg 1 _ rfl
    obtain ⟨u2, _, _, c2, t2⟩ := hg 2 _ rfl
    obtain ⟨z0, e0, _, _⟩ := DataW.trod_int Try.underlying3 t0
    obtain ⟨z1, e1, _, k1⟩ := DataW.trod_int Try.underlying3 t1
    obtain ⟨z2, e2, _, k2⟩ := DataW.trod_int Try.underlying2 t2
    simp at e0 e1 e2
    subst e0 e1 e2
    refine ⟨⟨z0, z1, z2⟩, b, o, e, hb, fun j v hj => ?_⟩
    match j, hj with
    | 0, hj => cases hj; exact c0
    | 1, hj => cases hj; exact c1
    | 2, hj => cases hj; exact c2
    | j + 3, hj => exact absurd (List.getElem?_eq_some_iff.1 hj).1 (by simp))
  exact ⟨A, E, cap, by rw [hl], recsAt_of edge_len (by omega) hR, by omega, by omega, h3⟩

set_option maxRecDepth 100000 in
theorem open_way {W : World} {r : Reach} {b0 : Nat} {v : Value} {d : DataW H} {p : List MemPlace} {base : Nat} {spare : Nat → Bool} {held : Bool}
    (hv : Value.okWide Try.prog W r b0 27 v) (h : DataW.Trod enc Try.prog W base spare held 27 v d p) :
    ∃ (z : Int) (A : Option Addr) (E : List EdgeT) (c : Nat) (A1 : Option Addr) (ts : List Int) (c1 : Nat) (fr : Int), v = .agg #[.int .i64 z, .slice A E.length c, .slice A1 ts.length c1, .int .i64 fr] ∧ EdgesAt W W.heap.size A E ∧ E.length ≤ 9223372036854775807 ∧ (A = none → c = 0) ∧ Sl W W.heap.size A1 (ts.map (Value.int .i64)) ∧ ts.length ≤ 9223372036854775807 := by
  obtain ⟨cs, rfl, hsz⟩ := okWide_struct Try.underlying27 hv
  have hC : Try.prog.cellsOf 27 = 4 := by kernel_rfl
  have hC2 : Try.prog.cellsOf 24 = 2 := by kernel_rfl
  have hC3 : Try.prog.cellsOf 3 = 1 := by kernel_rfl
  obtain ⟨l⟩ := cs
  match l, hsz.trans hC with
  | [c0, c1, c2, c3], _ =>
    obtain ⟨fuel, hf⟩ := h
    obtain ⟨xs, n, _, hx, _, hlen, hg⟩ := DataW.trod_struct Try.underlying27 hf
    match xs, hlen with
    | [y0, y1, y2], _ =>
      have g0 := hg 0 _ rfl
      have g1 := hg 1 _ rfl
      have g2 := hg 2 _ rfl
      simp only [Value.cells, List.getElem?_cons_zero, List.getElem?_cons_succ] at g0 g1 g2
      obtain ⟨zs, n', _, _, _, hlen', hg'⟩ := DataW.trod_struct Try.underlying24 g0
      match zs, hlen' with
      | [q0, q1], _ =>
        have k0 := hg' 0 _ rfl
        have k1 := hg' 1 _ rfl
        simp only [List.getElem?_cons_zero, List.getElem?_cons_succ] at k0 k1
        obtain ⟨z, e0, _, _⟩ := DataW.trod_int Try.underlying3 k0
        obtain ⟨fr, e3, _, _⟩ := DataW.trod_int Try.underlying3 g2
        obtain ⟨A, E, c, rfl, a1, a2, a3, a4⟩ := edges_field k1
        obtain ⟨A1, ts, c1, rfl, b1, b2, b3, b4, b5⟩ := ints_field Try.underlying25 Try.underlying2 (by kernel_rfl) g1
        simp [hC2, hC3] at e0 e3
        subst e0 e3
        exact ⟨z, A, E, c, A1, ts, c1, fr, rfl, a1, by omega, a4, b1, by omega⟩
end
end Go.Proofs.Ytpomakmmjbimfaa
