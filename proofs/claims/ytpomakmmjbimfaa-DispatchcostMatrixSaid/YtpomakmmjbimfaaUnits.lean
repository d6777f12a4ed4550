/-
  Units as they lie in memory and come in.
-/
import Derived.Test.YtpomakmmjbimfaaProg
import Derived.Test.YtpomakmmjbimfaaRecs
import Derived.Test.YtpomakmmjbimfaaLift
namespace Go.Proofs.Ytpomakmmjbimfaa
open Go.ChangeShapes Go.WideShapes Go.ChangeAt Go.RowKit

structure UnitT where
  id : Int
  kind : Int
  home : Int
  state : Int
  node : Int
  seq : Int
  heard : Int
  inc : Int
  epoch : Int
  acked : Int
def cellsU (u : UnitT) : List Value := [.int .i64 u.id, .int .i64 u.kind, .int .i64 u.home, .int .i64 u.state, .int .i64 u.node, .int .i64 u.seq, .int .i64 u.heard, .int .i64 u.inc, .int .i64 u.epoch, .int .i64 u.acked]
theorem cellsU_len (u : UnitT) : (cellsU u).length = 10 := rfl
theorem cellsU_one (u : UnitT) : ∀ v ∈ cellsU u, v.oneCell' = true := by
  intro v hv
  simp only [cellsU, List.mem_cons, List.not_mem_nil, or_false] at hv
  rcases hv with rfl | rfl | rfl | rfl | rfl | rfl | rfl | rfl | rfl | rfl <;> rfl
abbrev UnitsAt := RecsAt cellsU
abbrev OwnU := OwnR cellsU 10
theorem unit_info : (Try.prog.info? 39).map (fun i => (i.zero, i.size, i.bytes)) = some (some (.agg #[.int .i64 0, .int .i64 0, .int .i64 0, .int .i64 0, .int .i64 0, .int .i64 0, .int .i64 0, .int .i64 0, .int .i64 0, .int .i64 0]), 10, 80) := by kernel_rfl

theorem unit_cells {w : World} {b o : Nat} {u : UnitT} (h : ∀ (j : Nat) (v : Value), (cellsU u)[j]? = some v → w.cell? ⟨b, o + j, none⟩ = some v) :
    w.cell? ⟨b, o, none⟩ = some (.int .i64 u.id) ∧ w.cell? ⟨b, o + 1, none⟩ = some (.int .i64 u.kind) ∧ w.cell? ⟨b, o + 2, none⟩ = some (.int .i64 u.home) ∧ w.cell? ⟨b, o + 3, none⟩ = some (.int .i64 u.state) ∧ w.cell? ⟨b, o + 4, none⟩ = some (.int .i64 u.node) ∧
    w.cell? ⟨b, o + 5, none⟩ = some (.int .i64 u.seq) ∧ w.cell? ⟨b, o + 6, none⟩ = some (.int .i64 u.heard) ∧ w.cell? ⟨b, o + 7, none⟩ = some (.int .i64 u.inc) ∧ w.cell? ⟨b, o + 8, none⟩ = some (.int .i64 u.epoch) ∧ w.cell? ⟨b, o + 9, none⟩ = some (.int .i64 u.acked) :=
  ⟨h 0 _ rfl, h 1 _ rfl, h 2 _ rfl, h 3 _ rfl, h 4 _ rfl, h 5 _ rfl, h 6 _ rfl, h 7 _ rfl, h 8 _ rfl, h 9 _ rfl⟩
theorem unit_at {w : World} {B : Nat} {A : Option Addr} {us : List UnitT} (h : UnitsAt w B A us) {i : Nat} {u : UnitT} (hi : us[i]? = some u) : ∃ b o, A = some ⟨b, o, none⟩ ∧ b < B ∧ w.cell? ⟨b, o + i * 10, none⟩ = some (.int .i64 u.id) ∧ w.cell? ⟨b, o + i * 10 + 1, none⟩ = some (.int .i64 u.kind) ∧ w.cell? ⟨b, o + i * 10 + 2, none⟩ = some (.int .i64 u.home) ∧ w.cell? ⟨b, o + i * 10 + 3, none⟩ = some (.int .i64 u.state) ∧ w.cell? ⟨b, o + i * 10 + 4, none⟩ = some (.int .i64 u.node) ∧
    w.cell? ⟨b, o + i * 10 + 5, none⟩ = some (.int .i64 u.seq) ∧ w.cell? ⟨b, o + i * 10 + 6, none⟩ = some (.int .i64 u.heard) ∧ w.cell? ⟨b, o + i * 10 + 7, none⟩ = some (.int .i64 u.inc) ∧ w.cell? ⟨b, o + i * 10 + 8, none⟩ = some (.int .i64 u.epoch) ∧ w.cell? ⟨b, o + i * 10 + 9, none⟩ = some (.int .i64 u.acked) := by
  obtain ⟨b, o, e, hb, hc⟩ := RecsAt.at cellsU_len h hi (by omega)
  exact ⟨b, o, e, hb, unit_cells hc⟩

structure UnitWf (u : UnitT) : Prop where
  kind : (Lit.int .i64 u.kind).wf = true
  home : (Lit.int .i64 u.home).wf = true
  node : (Lit.int .i64 u.node).wf = true
  inc : (Lit.int .i64 u.inc).wf = true

theorem list_of' {α : Type} (R : Nat → α → Prop) : ∀ n, (∀ i, i < n → ∃ x, R i x) → ∃ l : List α, l.length = n ∧ ∀ i x, l[i]? = some x → R i x := by
  intro n
  induction n with
  | zero => intro _; exact ⟨[], rfl, fun i x h => by simp at h⟩
  | succ n ih =>
    intro h
    obtain ⟨l, hl, hR⟩ := ih (fun i hi => h i (by omega))
    obtain ⟨x, hx⟩ := h n (by omega)
    refine ⟨l ++ [x], by simp [hl], fun i y hy => ?_⟩
    by_cases hi : i < l.length
    · rw [List.getElem?_append_left hi] at hy
      exact hR i y hy
    · have hlt : i < (l ++ [x]).length := (List.getElem?_eq_some_iff.1 hy).1
      simp at hlt
      have : i = l.length := by omega
      subst this
      simp at hy
      subst hy
      rw [hl]
      exact hx

/-- from cells read one by one to the whole row. -/
theorem recsAt_of {α : Type} {cs : α → List Value} {s : Nat} (hs : ∀ a, (cs a).length = s) (h0 : 0 < s) {w : World} {B : Nat} {A : Option Addr} {xs : List α}
    (h : ∀ (i : Nat) (a : α), xs[i]? = some a → ∃ b o, A = some ⟨b, o, none⟩ ∧ b < B ∧ ∀ (j : Nat) (u : Value), (cs a)[j]? = some u → w.cell? ⟨b, o + i * s + j, none⟩ = some u) : RecsAt cs w B A xs := by
  intro j u hj
  have hl := (List.getElem?_eq_some_iff.1 hj).1
  rw [flat_len hs] at hl
  have hi : j / s < xs.length := Nat.div_lt_of_lt_mul (by rw [Nat.mul_comm]; exact hl)
  obtain ⟨a, ha⟩ : ∃ a, xs[j / s]? = some a := ⟨xs[j / s], by simp⟩
  obtain ⟨b, o, e, hb, hc⟩ := h _ a ha
  have hm : j % s < s := Nat.mod_lt _ h0
  obtain ⟨v, hv⟩ : ∃ v, (cs a)[j % s]? = some v := ⟨(cs a)[j % s]'(by rw [hs]; exact hm), by simp⟩
  have h1 := flat_at hs ha hv
  have e2 : j / s * s + j % s = j := by rw [Nat.mul_comm]; exact Nat.div_add_mod j s
  rw [e2, hj] at h1
  cases h1
  have := hc _ _ hv
  rw [Nat.add_assoc, e2] at this
  exact ⟨b, o, e, hb, this⟩

section
variable {H : Type} {enc : TypeId × Value → H}
set_option maxRecDepth 100000 in
/-- A slice of units, its one cell read. -/
theorem units_field {W : World} {v : Value} {x : DataW H × List MemPlace} {base fuel : Nat} {spare : Nat → Bool} {held : Bool}
    (hf : DataW.trod enc Try.prog W base spare held fuel 36 [v] = some x) :
    ∃ (A : Option Addr) (us : List UnitT) (cap : Nat), v = .slice A us.length cap ∧ UnitsAt W W.heap.size A us ∧ (∀ u ∈ us, UnitWf u) ∧ us.length ≤ cap ∧ cap ≤ 9223372036854775807 ∧ (A = none → cap = 0) := by
  obtain ⟨A, n, cap, rfl, h1, h2, h3, h4⟩ := recs_field Try.underlying36 Try.underlying39 (by kernel_rfl) (by kernel_rfl) (by decide) hf
  obtain ⟨us, hl, hR⟩ := list_of' (fun i u => (∃ b o, A = some ⟨b, o, none⟩ ∧ b < W.heap.size ∧ ∀ (j : Nat) (v : Value), (cellsU u)[j]? = some v → W.cell? ⟨b, o + i * 10 + j, none⟩ = some v) ∧ UnitWf u) n (fun i hi => by
    obtain ⟨b, o, e, hb, hg⟩ := h4 i hi
    obtain ⟨u0, _, _, c0, t0⟩ := hg 0 _ rfl
    obtain ⟨u1, _, _, c1, t1⟩ := hg 1 _ rfl
    obtain ⟨u2, _, _, c2, t2⟩ := hg 2 _ rfl
    obtain ⟨u3, _, _, c3, t3⟩ := hg 3 _ rfl
    obtain ⟨u4, _, _, c4, t4⟩ := hg 4 _ rfl
    obtain ⟨u5, _, _, c5, t5⟩ := hg 5 _ rfl
    obtain ⟨u6, _, _, c6, t6⟩ := hg 6 _ rfl
    obtain ⟨u7, _, _, c7, t7⟩ := hg 7 _ rfl
    obtain ⟨u8, _, _, c8, t8⟩ := hg 8 _ rfl
    obtain ⟨u9, _, _, c9, t9⟩ := hg 9 _ rfl
    obtain ⟨z0, e0, _, _⟩ := DataW.trod_int Try.underlying3 t0
    obtain ⟨z1, e1, _, k1⟩ := DataW.trod_int Try.underlying3 t1
    obtain ⟨z2, e2, _, k2⟩ := DataW.trod_int Try.underlying3 t2
    obtain ⟨z3, e3, _, _⟩ := DataW.trod_int Try.underlying3 t3
    obtain ⟨z4, e4, _, k4⟩ := DataW.trod_int Try.underlying3 t4
    obtain ⟨z5, e5, _, _⟩ := DataW.trod_int Try.underlying2 t5
    obtain ⟨z6, e6, _, _⟩ := DataW.trod_int Try.underlying2 t6
    obtain ⟨z7, e7, _, k7⟩ := DataW.trod_int Try.underlying2 t7
    obtain ⟨z8, e8, _, _⟩ := DataW.trod_int Try.underlying2 t8
    obtain ⟨z9, e9, _, _⟩ := DataW.trod_int Try.underlying2 t9
    simp at e0 e1 e2 e3 e4 e5 e6 e7 e8 e9
    subst e0 e1 e2 e3 e4 e5 e6 e7 e8 e9
    refine ⟨⟨z0, z1, z2, z3, z4, z5, z6, z7, z8, z9⟩, ⟨b, o, e, hb, fun j v hj => ?_⟩, ⟨k1, k2, k4, k7⟩⟩
    match j, hj with
    | 0, hj => cases hj; exact c0
    | 1, hj => cases hj; exact c1
    | 2, hj => cases hj; exact c2
    | 3, hj => cases hj; exact c3
    | 4, hj => cases hj; exact c4
    | 5, hj => cases hj; exact c5
    | 6, hj => cases hj; exact c6
    | 7, hj => cases hj; exact c7
    | 8, hj => cases hj; exact c8
    | 9, hj => cases hj; exact c9
    | j + 10, hj => exact absurd (List.getElem?_eq_some_iff.1 hj).1 (by simp [cellsU]))
  refine ⟨A, us, cap, by rw [hl], recsAt_of cellsU_len (by omega) (fun i a hi => (hR i a hi).1), fun u hu => ?_, by omega, by omega, h3⟩
  obtain ⟨i, hi⟩ := List.mem_iff_getElem?.1 hu
  exact (hR i u hi).2
set_option maxRecDepth 100000 in
theorem open_units {W : World} {r : Reach} {b0 : Nat} {v : Value} {d : DataW H} {p : List MemPlace} {base : Nat} {spare : Nat → Bool} {held : Bool}
    (hv : Value.okWide Try.prog W r b0 36 v) (h : DataW.Trod enc Try.prog W base spare held 36 v d p) :
    ∃ (A : Option Addr) (us : List UnitT) (cap : Nat), v = .slice A us.length cap ∧ UnitsAt W W.heap.size A us ∧ (∀ u ∈ us, UnitWf u) ∧ us.length ≤ cap ∧ cap ≤ 9223372036854775807 ∧ (A = none → cap = 0) := by
  obtain ⟨A, len, cap, rfl⟩ := okWide_slice Try.underlying36 hv
  obtain ⟨fuel, hf⟩ := h
  exact units_field (by simpa [Value.cells] using hf)
end
end Go.Proofs.Ytpomakmmjbimfaa
