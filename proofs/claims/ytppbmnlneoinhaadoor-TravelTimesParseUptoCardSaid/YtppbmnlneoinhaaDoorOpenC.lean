/-
  How changes come in: a slice of them; one by value; an array of two integers.
-/
import Derived.Test.YtppbmnlneoinhaaDoorChg
import Derived.Test.YtppbmnlneoinhaaDoorLift
import Derived.Lib.SmallJoins
namespace Go.Proofs.YtppbmnlneoinhaaDoor
open Go.ChangeShapes Go.WideShapes Go.ChangeAt Go.RowKit

theorem list_of' {α : Type} (R : Nat → α → Prop) : ∀ n, (∀ i, i < n → ∃ x, R i x) → ∃ l : List α, l.length = n ∧ ∀ i x, l[i]? = some x → R i x := by
  intro n
  induction n with
  | zero => intro _; exact ⟨[], rfl, fun i x h => by simp at h⟩
  | succ n ih =>
    intro h
    obtain ⟨l, hl, hR⟩ := ih (fun i hi => h i (by omega))
    obtain ⟨x, hx⟩ := h n (by omega)
    refine ⟨l ++ [x], by simp [hl], fun i y hy => ?_⟩
    by_cases hi : i < l.length
    · rw [List.getElem?_append_left hi] at hy
      exact hR i y hy
    · have hlt : i < (l ++ [x]).length := (List.getElem?_eq_some_iff.1 hy).1
      simp at hlt
      have : i = l.length := by omega
      subst this
      simp at hy
      subst hy
      rw [hl]
      exact hx

/-- from cells read one by one to the whole row. -/
theorem recsAt_of {α : Type} {cs : α → List Value} {s : Nat} (hs : ∀ a, (cs a).length = s) (h0 : 0 < s) {w : World} {B : Nat} {A : Option Addr} {xs : List α}
    (h : ∀ (i : Nat) (a : α), xs[i]? = some a → ∃ b o, A = some ⟨b, o, none⟩ ∧ b < B ∧ ∀ (j : Nat) (u : Value), (cs a)[j]? = some u → w.cell? ⟨b, o + i * s + j, none⟩ = some u) : RecsAt cs w B A xs := by
  intro j u hj
  have hl := (List.getElem?_eq_some_iff.1 hj).1
  rw [flat_len hs] at hl
  have hi : j / s < xs.length := Nat.div_lt_of_lt_mul (by rw [Nat.mul_comm]; exact hl)
  obtain ⟨a, ha⟩ : ∃ a, xs[j / s]? = some a := ⟨xs[j / s], by simp⟩
  obtain ⟨b, o, e, hb, hc⟩ := h _ a ha
  have hm : j % s < s := Nat.mod_lt _ h0
  obtain ⟨v, hv⟩ : ∃ v, (cs a)[j % s]? = some v := ⟨(cs a)[j % s]'(by rw [hs]; exact hm), by simp⟩
  have h1 := flat_at hs ha hv
  have e2 : j / s * s + j % s = j := by rw [Nat.mul_comm]; exact Nat.div_add_mod j s
  rw [e2, hj] at h1
  cases h1
  have := hc _ _ hv
  rw [Nat.add_assoc, e2] at this
  exact ⟨b, o, e, hb, this⟩

section
variable {H : Type} {enc : TypeId × Value → H}
set_option maxRecDepth 100000 in
/-- A slice of changes, its one cell read. -/
theorem chgs_field {W : World} {v : Value} {x : DataW H × List MemPlace} {base fuel : Nat} {spare : Nat → Bool} {held : Bool}
    (hf : DataW.trod enc Tryd.prog W base spare held fuel 23 [v] = some x) :
    ∃ (A : Option Addr) (cs : List ChgT) (cap : Nat), v = .slice A cs.length cap ∧ ChgsAt W W.heap.size A cs ∧ cs.length ≤ cap ∧ cap ≤ 9223372036854775807 ∧ (A = none → cap = 0) := by
  obtain ⟨A, n, cap, rfl, h1, h2, h3, h4⟩ := recs_field Tryd.underlying23 Tryd.underlying57 (by kernel_rfl) (by kernel_rfl) (by decide) hf
  obtain ⟨us, hl, hR⟩ := list_of' (fun i u => ∃ b o, A = some ⟨b, o, none⟩ ∧ b < W.heap.size ∧ ∀ (j : Nat) (v : Value), (cellsC u)[j]? = some v → W.cell? ⟨b, o + i * 3 + j, none⟩ = some v) n (fun i hi => by
    obtain ⟨b, o, e, hb, hg⟩ := h4 i hi
    obtain ⟨u0, _, _, c0, t0⟩ := hg 0 _ rfl
    obtain ⟨u1, _, _, c1, t1⟩ := hg 1 _ rfl
    obtain ⟨u2, _, _, c2, t2⟩ := hg 2 _ rfl
    obtain ⟨z0, e0, _, _⟩ := DataW.trod_int Tryd.underlying2 t0
    obtain ⟨z1, e1, _, _⟩ := DataW.trod_int Tryd.underlying3 t1
    obtain ⟨z2, e2, _, _⟩ := DataW.trod_int Tryd.underlying2 t2
    simp at e0 e1 e2
    subst e0 e1 e2
    refine ⟨⟨z0, z1, z2⟩, b, o, e, hb, fun j v hj => ?_⟩
    match j, hj with
    | 0, hj => cases hj; exact c0
    | 1, hj => cases hj; exact c1
    | 2, hj => cases hj; exact c2
    | j + 3, hj => exact absurd (List.getElem?_eq_some_iff.1 hj).1 (by simp [cellsC]))
  exact ⟨A, us, cap, by rw [hl], recsAt_of cellsC_len (by omega) hR, by omega, by omega, h3⟩
set_option maxRecDepth 100000 in
theorem open_chgs {W : World} {r : Reach} {b0 : Nat} {v : Value} {d : DataW H} {p : List MemPlace} {base : Nat} {spare : Nat → Bool} {held : Bool}
    (hv : Value.okWide Tryd.prog W r b0 23 v) (h : DataW.Trod enc Tryd.prog W base spare held 23 v d p) :
    ∃ (A : Option Addr) (cs : List ChgT) (cap : Nat), v = .slice A cs.length cap ∧ ChgsAt W W.heap.size A cs ∧ cs.length ≤ cap ∧ cap ≤ 9223372036854775807 ∧ (A = none → cap = 0) := by
  obtain ⟨A, len, cap, rfl⟩ := okWide_slice Tryd.underlying23 hv
  obtain ⟨fuel, hf⟩ := h
  exact chgs_field (by simpa [Value.cells] using hf)
set_option maxRecDepth 100000 in
theorem open_chg {W : World} {r : Reach} {b0 : Nat} {v : Value} {d : DataW H} {p : List MemPlace} {base : Nat} {spare : Nat → Bool} {held : Bool}
    (hv : Value.okWide Tryd.prog W r b0 57 v) (h : DataW.Trod enc Tryd.prog W base spare held 57 v d p) :
    ∃ c : ChgT, v = .agg #[.int .i64 c.tick, .int .i64 c.edge, .int .i64 c.time] ∧ (-9223372036854775808 ≤ c.tick ∧ c.tick ≤ 9223372036854775807) := by
  obtain ⟨v0, v1, v2, y0, y1, y2, n, rfl, _, _, t0, t1, t2⟩ := Go.Joins.open_agg3 Tryd.underlying57 (by kernel_rfl) (by kernel_rfl) hv h
  obtain ⟨z0, e0, _, k0⟩ := DataW.trod_int Tryd.underlying2 t0
  obtain ⟨z1, e1, _, _⟩ := DataW.trod_int Tryd.underlying3 t1
  obtain ⟨z2, e2, _, _⟩ := DataW.trod_int Tryd.underlying2 t2
  simp at e0 e1 e2
  subst e0 e1 e2
  refine ⟨⟨z0, z1, z2⟩, rfl, ?_⟩
  simp [Lit.wf] at k0
  exact k0
end
end Go.Proofs.YtppbmnlneoinhaaDoor
