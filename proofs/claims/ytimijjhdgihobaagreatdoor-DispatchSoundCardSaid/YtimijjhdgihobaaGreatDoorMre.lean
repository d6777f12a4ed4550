/-
  How a state, and one unit, come in.
  A copy of a state whose incidents are put together anew, one after the other.
-/
import Derived.Test.YtimijjhdgihobaaGreatDoorMra
import Derived.Test.YtimijjhdgihobaaGreatDoorMqs
import Derived.Test.YtimijjhdgihobaaGreatDoorMqzf
import Derived.Test.YtimijjhdgihobaaGreatDoorMrd
namespace Go.Proofs.YtimijjhdgihobaaGreatDoor
section
open Go.ChangeShapes Go.WideShapes Go.ChangeAt Go.RowKit
section
variable {H : Type} {enc : TypeId × Value → H}
set_option maxRecDepth 100000 in
theorem incs_field {W : World} {v : Value} {x : DataW H × List MemPlace} {base fuel : Nat} {spare : Nat → Bool} {held : Bool} (hf : DataW.trod enc Tryz.prog W base spare held fuel 26 [v] = some x) :
    ∃ (A : Option Addr) (xs : List IncT) (cap : Nat), v = .slice A xs.length cap ∧ IncsAt W W.heap.size A xs ∧ NodesAt W W.heap.size xs ∧ (∀ x ∈ xs, IncWf x) ∧ xs.length ≤ cap ∧ cap ≤ 9223372036854775807 ∧ (A = none → cap = 0) := by
  obtain ⟨A, len, cap, rfl, h1, h2, h3, h4⟩ := recs_field Tryz.underlying26 Tryz.underlying46 (by kernel_rfl) (by kernel_rfl) (by decide) hf
  obtain ⟨xs, hl, hR⟩ := list_of' (fun i x => (∃ b o, A = some ⟨b, o, none⟩ ∧ b < W.heap.size ∧ ∀ (j : Nat) (v : Value), (cellsI x)[j]? = some v → W.cell? ⟨b, o + i * 10 + j, none⟩ = some v) ∧ Sl W W.heap.size x.nA (x.nodes.map (Value.int .i64)) ∧ IncWf x) len (fun i hi => by
    obtain ⟨b, o, e, hb, hg⟩ := h4 i hi
    obtain ⟨u0, _, _, c0, t0⟩ := hg 0 _ rfl
    obtain ⟨u1, _, _, c1, t1⟩ := hg 1 _ rfl
    obtain ⟨u2, _, _, c2, t2⟩ := hg 2 _ rfl
    obtain ⟨u3, _, _, c3, t3⟩ := hg 3 _ rfl
    obtain ⟨u4, _, _, c4, t4⟩ := hg 4 _ rfl
    obtain ⟨u5, _, _, c5, t5⟩ := hg 5 _ rfl
    obtain ⟨u6, _, _, c6, t6⟩ := hg 6 _ rfl
    obtain ⟨u7, _, _, c7, t7⟩ := hg 7 _ rfl
    obtain ⟨u8, _, _, c8, t8⟩ := hg 8 _ rfl
    obtain ⟨u9, _, _, c9, t9⟩ := hg 9 _ rfl
    obtain ⟨z0, e0, _, k0⟩ := DataW.trod_int Tryz.underlying2 t0
    obtain ⟨z1, e1, _, _⟩ := DataW.trod_int Tryz.underlying3 t1
    obtain ⟨s, e2, _, hs⟩ := DataW.trod_string Tryz.underlying9 t2
    obtain ⟨nA, ns, nc, rfl, m1, m2, m3, m4, m5⟩ := ints_field Tryz.underlying44 Tryz.underlying3 (by kernel_rfl) t3
    obtain ⟨z4, e4, _, _⟩ := DataW.trod_int Tryz.underlying3 t4
    obtain ⟨z5, e5, _, _⟩ := DataW.trod_int Tryz.underlying2 t5
    obtain ⟨cA, cs, cc, rfl, p1, p2, p3, p4, p5⟩ := ints_field Tryz.underlying25 Tryz.underlying2 (by kernel_rfl) t6
    obtain ⟨uA, us, uc, rfl, q1, q2, q3, q4, q5⟩ := ints_field Tryz.underlying44 Tryz.underlying3 (by kernel_rfl) t7
    obtain ⟨z8, e8, _, _⟩ := DataW.trod_int Tryz.underlying2 t8
    obtain ⟨bl, e9, _⟩ := DataW.trod_bool Tryz.underlying4 t9
    simp at e0 e1 e2 e4 e5 e8 e9
    subst e0 e1 e2 e4 e5 e8 e9
    refine ⟨⟨z0, z1, s, nA, ns, nc, z4, z5, cA, cs.length, cc, uA, us.length, uc, z8, bl⟩, ⟨b, o, e, hb, fun j v hj => ?_⟩, m1, ⟨k0, by unfold maxLen at hs; exact hs, m3, m4, m5, by simp only; omega, by simp only; omega⟩⟩
    match j, hj with
    | 0, hj => cases hj; exact c0
    | 1, hj => cases hj; exact c1
    | 2, hj => cases hj; exact c2
    | 3, hj => cases hj; exact c3
    | 4, hj => cases hj; exact c4
    | 5, hj => cases hj; exact c5
    | 6, hj => cases hj; exact c6
    | 7, hj => cases hj; exact c7
    | 8, hj => cases hj; exact c8
    | 9, hj => cases hj; exact c9
    | j + 10, hj => exact absurd (List.getElem?_eq_some_iff.1 hj).1 (by simp [cellsI]))
  refine ⟨A, xs, cap, by rw [hl], recsAt_of cellsI_len (by omega) (fun i a hi => (hR i a hi).1), fun x hx => ?_, fun x hx => ?_, by omega, by omega, h3⟩
  · obtain ⟨i, hi⟩ := List.mem_iff_getElem?.1 hx
    exact (hR i x hi).2.1
  · obtain ⟨i, hi⟩ := List.mem_iff_getElem?.1 hx
    exact (hR i x hi).2.2
set_option maxRecDepth 100000 in
theorem plans_field {W : World} {v : Value} {x : DataW H × List MemPlace} {base fuel : Nat} {spare : Nat → Bool} {held : Bool} (hf : DataW.trod enc Tryz.prog W base spare held fuel 28 [v] = some x) :
    ∃ (A : Option Addr) (ps : List Plan) (cap : Nat), v = .slice A ps.length cap ∧ Plans W W.heap.size A ps ∧ ps.length ≤ cap ∧ cap ≤ 9223372036854775807 := by
  obtain ⟨A, len, cap, rfl, h1, h2, h3, h4⟩ := recs_field Tryz.underlying28 Tryz.underlying101 (by kernel_rfl) (by kernel_rfl) (by decide) hf
  obtain ⟨ps, hl, hR⟩ := list_of (fun i q => PlanAt W W.heap.size A i q ∧ PlanWf q) len (fun i hi => by
    obtain ⟨b, o, e, hb, hg⟩ := h4 i hi
    obtain ⟨u0, y0, m0, c0, t0⟩ := hg 0 _ rfl
    obtain ⟨u1, y1, m1, c1, t1⟩ := hg 1 _ rfl
    obtain ⟨u2, y2, m2, c2, t2⟩ := hg 2 _ rfl
    obtain ⟨s, e0, _, hs⟩ := DataW.trod_string Tryz.underlying9 t0
    obtain ⟨z, e1, _, hz⟩ := DataW.trod_int Tryz.underlying3 t1
    obtain ⟨kA, zs, kc, rfl, k1, k2, k3, k4, k5⟩ := ints_field Tryz.underlying44 Tryz.underlying3 (by kernel_rfl) t2
    simp at e0 e1
    subst e0 e1
    exact ⟨⟨s, z, kA, zs, kc⟩, ⟨b, o, e, hb, c0, c1, c2, k1⟩, ⟨k2, hz, by unfold maxLen at hs; exact hs, k3, k4, k5⟩⟩)
  exact ⟨A, ps, cap, by rw [hl], hR, by omega, by omega⟩
set_option maxRecDepth 100000 in
theorem open_state {W : World} {r : _} {b0 : Nat} {v : Value} {d : DataW H} {p : List MemPlace} {base : Nat} {spare : Nat → Bool} {held : Bool}
    (hv : Value.okWide Tryz.prog W r b0 30 v) (h : DataW.Trod enc Tryz.prog W base spare held 30 v d p) :
    ∃ s : StT, v = .agg #[.int .i64 s.z, .slice s.eA s.E.length s.ec, .slice s.tA s.ts.length s.tc, .slice s.iA s.xs.length s.ic, .slice s.uA s.us.length s.uc, .slice s.pA s.ps.length s.pc, .int .i64 s.rsv] ∧ StIn W W.heap.size s ∧ StWf s := by
  obtain ⟨cs, rfl, hsz⟩ := okWide_struct Tryz.underlying30 hv
  have hC : Tryz.prog.cellsOf 30 = 7 := by kernel_rfl
  have hC2 : Tryz.prog.cellsOf 24 = 2 := by kernel_rfl
  have hC3 : Tryz.prog.cellsOf 3 = 1 := by kernel_rfl
  obtain ⟨l⟩ := cs
  match l, hsz.trans hC with
  | [c0, c1, c2, c3, c4, c5, c6], _ =>
    obtain ⟨fuel, hf⟩ := h
    obtain ⟨xs, n, _, hx, _, hlen, hg⟩ := DataW.trod_struct Tryz.underlying30 hf
    match xs, hlen with
    | [y0, y1, y2, y3, y4, y5], _ =>
      have g0 := hg 0 _ rfl
      have g1 := hg 1 _ rfl
      have g2 := hg 2 _ rfl
      have g3 := hg 3 _ rfl
      have g4 := hg 4 _ rfl
      have g5 := hg 5 _ rfl
      simp only [Value.cells, List.getElem?_cons_zero, List.getElem?_cons_succ] at g0 g1 g2 g3 g4 g5
      obtain ⟨zs, n', _, _, _, hlen', hg'⟩ := DataW.trod_struct Tryz.underlying24 g0
      match zs, hlen' with
      | [q0, q1], _ =>
        have k0 := hg' 0 _ rfl
        have k1 := hg' 1 _ rfl
        simp only [List.getElem?_cons_zero, List.getElem?_cons_succ] at k0 k1
        obtain ⟨z, e0, _, _⟩ := DataW.trod_int Tryz.underlying3 k0
        obtain ⟨rsv, e3, _, _⟩ := DataW.trod_int Tryz.underlying3 g5
        obtain ⟨A, E, c, rfl, a1, a2, a3, a4⟩ := edges_field k1
        obtain ⟨A1, ts, c1, rfl, b1, b2, b3, b4, b5⟩ := ints_field Tryz.underlying25 Tryz.underlying2 (by kernel_rfl) g1
        obtain ⟨A2, xs, c2, rfl, i1, i2, i3, i4, i5, i6⟩ := incs_field g2
        obtain ⟨A3, us, c3, rfl, u1, u2, u3, u4, u5⟩ := units_field g3
        obtain ⟨A4, ps, c4, rfl, p1, p2, p3⟩ := plans_field g4
        simp [hC2, hC3] at e0 e3
        subst e0 e3
        exact ⟨⟨z, A, E, c, A1, ts, c1, A2, xs, c2, A3, us, c3, A4, ps, c4, rsv⟩, rfl, ⟨a1, b1, i1, i2, u1, p1⟩, ⟨by simp only; omega, a4, by simp only; omega, i3, by simp only; omega, i6, u2, u3, u4, u5, by simp only; omega⟩⟩
end
end
section
open Go.RowKit Go.Maps

/-- the box T holds the state s, but for the incidents: they are the row v, which holds ys. -/
structure CopyAt (T : Nat) (s : StT) (w0 : World) (v : Value) (ys : List IncT) (Y : World) : Prop where
  below : Below T w0 Y
  c0 : Y.cell? ⟨T, 0, none⟩ = some (.int .i64 s.z)
  c1 : Y.cell? ⟨T, 1, none⟩ = some (.slice s.eA s.E.length s.ec)
  c2 : Y.cell? ⟨T, 2, none⟩ = some (.slice s.tA s.ts.length s.tc)
  c3 : Y.cell? ⟨T, 3, none⟩ = some v
  f3 : Y.frozen? ⟨T, 3, none⟩ = false
  c4 : Y.cell? ⟨T, 4, none⟩ = some (.slice s.uA s.us.length s.uc)
  c5 : Y.cell? ⟨T, 5, none⟩ = some (.slice s.pA s.ps.length s.pc)
  c6 : Y.cell? ⟨T, 6, none⟩ = some (.int .i64 s.rsv)
  own : OwnInc Y (T + 1) 46 v ys
  lt : T < Y.heap.size
section
variable {T : Nat} {s : StT} {w0 Y Y' : World} {v v' : Value} {ys ys' : List IncT}
theorem CopyAt.next (h : CopyAt T s w0 v ys Y) (hb : Below (T + 1) Y Y') (ho : OwnInc Y' (T + 1) 46 v ys) : CopyAt T s w0 v ys Y' :=
  have c := fun (j : Nat) => hb.cell (p := ⟨T, j, none⟩) (Nat.lt_succ_self T)
  ⟨h.below.trans (hb.mono (Nat.le_succ T)), (c 0).trans h.c0, (c 1).trans h.c1, (c 2).trans h.c2, (c 3).trans h.c3, (hb.frozen (p := ⟨T, 3, none⟩) (Nat.lt_succ_self T)).trans h.f3, (c 4).trans h.c4, (c 5).trans h.c5, (c 6).trans h.c6, ho, Nat.lt_of_lt_of_le h.lt hb.size⟩
theorem CopyAt.far (h : CopyAt T s w0 v ys Y) (hb : Below Y.heap.size Y Y') : CopyAt T s w0 v ys Y' := h.next (hb.mono h.lt) (h.own.kept_new hb)
theorem CopyAt.alloc (h : CopyAt T s w0 v ys Y) (o : Obj) : CopyAt T s w0 v ys (Y.alloc o) := h.far (below_newH _ _)
theorem CopyAt.put (h : CopyAt T s w0 v ys Y) {g n c : Nat} (hg : Y.grownBy Y' v.ownBlock) (ho : OwnInc Y' (T + 1) 46 (.slice (some ⟨g, 0, none⟩) n c) ys') :
    Below (T + 1) Y Y' ∧ CopyAt T s w0 (.slice (some ⟨g, 0, none⟩) n c) ys' (Y'.setCell ⟨T, 3, none⟩ (.slice (some ⟨g, 0, none⟩) n c)) := by
  have hb : Below (T + 1) Y Y' := (Below.refl _ _).grown hg h.lt (fun k e => h.own.ge_base k e)
  have cl := fun (j : Nat) => hb.cell (p := ⟨T, j, none⟩) (Nat.lt_succ_self T)
  refine ⟨hb, (h.below.trans (hb.mono (Nat.le_succ T))).setCell (p := ⟨T, 3, none⟩) (Nat.le_refl _) _, (World.cell?_setCell_other Y' ⟨T, 3, none⟩ ⟨T, 0, none⟩ _ (by intro e; injection e with _ e; cases e)).trans ((cl 0).trans h.c0), (World.cell?_setCell_other Y' ⟨T, 3, none⟩ ⟨T, 1, none⟩ _ (by intro e; injection e with _ e; cases e)).trans ((cl 1).trans h.c1), (World.cell?_setCell_other Y' ⟨T, 3, none⟩ ⟨T, 2, none⟩ _ (by intro e; injection e with _ e; cases e)).trans ((cl 2).trans h.c2), World.cell?_setCell_same' _ _ _ (by rw [cl 3, h.c3]; rfl), ?_, (World.cell?_setCell_other Y' ⟨T, 3, none⟩ ⟨T, 4, none⟩ _ (by intro e; injection e with _ e; cases e)).trans ((cl 4).trans h.c4), (World.cell?_setCell_other Y' ⟨T, 3, none⟩ ⟨T, 5, none⟩ _ (by intro e; injection e with _ e; cases e)).trans ((cl 5).trans h.c5), (World.cell?_setCell_other Y' ⟨T, 3, none⟩ ⟨T, 6, none⟩ _ (by intro e; injection e with _ e; cases e)).trans ((cl 6).trans h.c6), ho.setCell_other ?_ _, by have := h.lt; have := hb.size; simp; omega⟩
  · rw [World.frozen?_setCell]
    exact (hb.frozen (p := ⟨T, 3, none⟩) (Nat.lt_succ_self T)).trans h.f3
  · intro e
    have := ho.ge_base _ e
    simp only at this
    omega
/-- the state with other incidents. -/
def StT.lay (s : StT) (A : Option Addr) (ys : List IncT) (c : Nat) : StT := { s with iA := A, xs := ys, ic := c }
theorem StIn.lay (h : StIn Y Y.heap.size s) {A : Option Addr} {c : Nat} (hr : IncsAt Y Y.heap.size A ys) (hsub : ∀ y ∈ ys, y ∈ s.xs) : StIn Y Y.heap.size (s.lay A ys c) := ⟨h.e, h.t, hr, h.n.sub hsub, h.u, h.p⟩
theorem StWf.lay (h : StWf s) {A : Option Addr} {c : Nat} (hsub : ∀ y ∈ ys, y ∈ s.xs) (hl : ys.length ≤ 9223372036854775807) (hn : A = none → c = 0) : StWf (s.lay A ys c) := ⟨h.el, h.en, h.tl, fun x hx => h.iw x (hsub x hx), hl, hn, h.uw, h.ul, h.ucap, h.un, h.pl⟩
theorem StOk.lay {n : Nat} (h : StOk n s) {A : Option Addr} {c : Nat} (hsub : ∀ y ∈ ys, y ∈ s.xs) (hl : ys.length ≤ s.xs.length) : StOk n (s.lay A ys c) := ⟨h.hn, h.hE, h.hok, by have := h.hl; show ys.length ≤ 19; omega, fun x hx => h.hsml x (hsub x hx), h.hul, h.hsm⟩
end
/-- the incidents that pass, among the first k. -/
def passI (p : IncT → Bool) (xs : List IncT) (k : Nat) : List IncT := (xs.take k).filter p
theorem passI_succ {p : IncT → Bool} {xs : List IncT} {k : Nat} {x : IncT} (h : xs[k]? = some x) : passI p xs (k + 1) = if p x = true then passI p xs k ++ [x] else passI p xs k := by
  unfold passI
  rw [take_snoc' h, List.filter_append]
  cases e : p x <;> simp [List.filter, e]
theorem passI_all (p : IncT → Bool) (xs : List IncT) : passI p xs xs.length = xs.filter p := by
  unfold passI
  rw [List.take_length]
theorem passI_len (p : IncT → Bool) (xs : List IncT) (k : Nat) : (passI p xs k).length ≤ xs.length := by
  have h1 := List.length_filter_le p (xs.take k)
  have h2 : (xs.take k).length ≤ xs.length := by rw [List.length_take]; omega
  unfold passI
  omega
end
end Go.Proofs.YtimijjhdgihobaaGreatDoor
