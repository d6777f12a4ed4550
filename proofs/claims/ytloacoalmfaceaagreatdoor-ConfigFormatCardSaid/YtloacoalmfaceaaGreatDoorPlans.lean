/-
  Slices of response plans: how they lie in memory, how they come in, and the plain functions over them.
  No condition: plain lemmas.
-/
import Derived.Test.YtloacoalmfaceaaGreatDoorProg
import Derived.Test.YtloacoalmfaceaaGreatDoorLift
namespace Go.Proofs.YtloacoalmfaceaaGreatDoor
open Go.ChangeShapes Go.WideShapes Go.ChangeAt Go.RowKit

structure Plan where
  code : ByteArray
  urg : Int
  kA : Option Addr
  kinds : List Int
  kc : Nat

def PlanAt (w : World) (B : Nat) (A : Option Addr) (i : Nat) (p : Plan) : Prop :=
  ∃ b o, A = some ⟨b, o, none⟩ ∧ b < B ∧ w.cell? ⟨b, o + i * 3, none⟩ = some (.string p.code) ∧ w.cell? ⟨b, o + i * 3 + 1, none⟩ = some (.int .i64 p.urg) ∧
    w.cell? ⟨b, o + i * 3 + 2, none⟩ = some (.slice p.kA p.kinds.length p.kc) ∧ Sl w B p.kA (p.kinds.map (Value.int .i64))
structure PlanWf (p : Plan) : Prop where
  kinds : ∀ z ∈ p.kinds, (Lit.int .i64 z).wf = true
  urg : (Lit.int .i64 p.urg).wf = true
  code : p.code.size ≤ 9223372036854775807
  len : p.kinds.length ≤ p.kc
  cap : p.kc ≤ 9223372036854775807
  none_ : p.kA = none → p.kc = 0
def Plans (w : World) (B : Nat) (A : Option Addr) (ps : List Plan) : Prop := ∀ (i : Nat) (p : Plan), ps[i]? = some p → PlanAt w B A i p ∧ PlanWf p

theorem PlanAt.keep {w w' : World} {B : Nat} {A : Option Addr} {i : Nat} {p : Plan} (h : PlanAt w B A i p) (hk : ∀ q : Addr, q.block < B → w'.cell? q = w.cell? q) : PlanAt w' B A i p := by
  obtain ⟨b, o, e, hb, h1, h2, h3, h4⟩ := h
  exact ⟨b, o, e, hb, (hk _ hb).trans h1, (hk _ hb).trans h2, (hk _ hb).trans h3, h4.keep hk⟩
theorem Plans.below {w w' : World} {B : Nat} {A : Option Addr} {ps : List Plan} (h : Plans w B A ps) (hb : Below B w w') : Plans w' B A ps := fun i p hi => ⟨(h i p hi).1.keep (fun _ hq => hb.cell hq), (h i p hi).2⟩
theorem Plans.more {w : World} {B B' : Nat} {A : Option Addr} {ps : List Plan} (h : Plans w B A ps) (hB : B ≤ B') : Plans w B' A ps := fun i p hi => by
  obtain ⟨⟨b, o, e, hb, h1, h2, h3, h4⟩, h5⟩ := h i p hi
  exact ⟨⟨b, o, e, Nat.lt_of_lt_of_le hb hB, h1, h2, h3, h4.more hB⟩, h5⟩

theorem list_of {α : Type} (R : Nat → α → Prop) : ∀ n, (∀ i, i < n → ∃ x, R i x) → ∃ l : List α, l.length = n ∧ ∀ i x, l[i]? = some x → R i x := by
  intro n
  induction n with
  | zero => intro _; exact ⟨[], rfl, fun i x h => by simp at h⟩
  | succ n ih =>
    intro h
    obtain ⟨l, hl, hR⟩ := ih (fun i hi => h i (by omega))
    obtain ⟨x, hx⟩ := h n (by omega)
    refine ⟨l ++ [x], by simp [hl], fun i y hy => ?_⟩
    by_cases hi : i < l.length
    · rw [List.getElem?_append_left hi] at hy
      exact hR i y hy
    · have hlt : i < (l ++ [x]).length := (List.getElem?_eq_some_iff.1 hy).1
      simp at hlt
      have : i = l.length := by omega
      subst this
      simp at hy
      subst hy
      rw [hl]
      exact hx

section
variable {H : Type} {enc : TypeId × Value → H}
set_option maxRecDepth 100000 in
theorem open_plans {W : World} {r : Reach} {b0 : Nat} {v : Value} {d : DataW H} {p : List MemPlace} {base : Nat} {spare : Nat → Bool} {held : Bool}
    (hv : Value.okWide Tryz.prog W r b0 25 v) (h : DataW.Trod enc Tryz.prog W base spare held 25 v d p) :
    ∃ (A : Option Addr) (ps : List Plan) (cap : Nat), v = .slice A ps.length cap ∧ Plans W W.heap.size A ps ∧ ps.length ≤ cap ∧ cap ≤ 9223372036854775807 := by
  obtain ⟨A, len, cap, rfl⟩ := okWide_slice Tryz.underlying25 hv
  obtain ⟨fuel, hf⟩ := h
  obtain ⟨A', n, cap', e, h1, h2, h3, h4⟩ := recs_field Tryz.underlying25 Tryz.underlying43 (by kernel_rfl) (by kernel_rfl) (by decide) (by simpa [Value.cells] using hf)
  injection e with e1 e2 e3
  subst e1 e2 e3
  obtain ⟨ps, hl, hR⟩ := list_of (fun i q => PlanAt W W.heap.size A i q ∧ PlanWf q) len (fun i hi => by
    obtain ⟨b, o, e, hb, hg⟩ := h4 i hi
    obtain ⟨u0, y0, m0, c0, t0⟩ := hg 0 _ rfl
    obtain ⟨u1, y1, m1, c1, t1⟩ := hg 1 _ rfl
    obtain ⟨u2, y2, m2, c2, t2⟩ := hg 2 _ rfl
    obtain ⟨s, e0, _, hs⟩ := DataW.trod_string Tryz.underlying9 t0
    obtain ⟨z, e1, _, hz⟩ := DataW.trod_int Tryz.underlying3 t1
    obtain ⟨kA, zs, kc, rfl, k1, k2, k3, k4, k5⟩ := ints_field Tryz.underlying22 Tryz.underlying3 (by kernel_rfl) t2
    simp at e0 e1
    subst e0 e1
    exact ⟨⟨s, z, kA, zs, kc⟩, ⟨b, o, e, hb, c0, c1, c2, k1⟩, ⟨k2, hz, by unfold maxLen at hs; exact hs, k3, k4, k5⟩⟩)
  exact ⟨A, ps, cap, by rw [hl], hR, by omega, by omega⟩
end
end Go.Proofs.YtloacoalmfaceaaGreatDoor
