/-
  How a response plan comes in, as an argument by value.
-/
import Derived.Test.YtcpplebgocbnhaaDoorPlans
import Derived.Lib.SmallJoins
namespace Go.Proofs.YtcpplebgocbnhaaDoor
open Go.ChangeShapes Go.WideShapes Go.ChangeAt Go.RowKit

section
variable {H : Type} {enc : TypeId × Value → H}
set_option maxRecDepth 100000 in
theorem open_plan {W : World} {r : Reach} {b0 : Nat} {v : Value} {d : DataW H} {p : List MemPlace} {base : Nat} {spare : Nat → Bool} {held : Bool}
    (hv : Value.okWide Tryd.prog W r b0 35 v) (h : DataW.Trod enc Tryd.prog W base spare held 35 v d p) :
    ∃ q : Plan, v = .agg #[.string q.code, .int .i64 q.urg, .slice q.kA q.kinds.length q.kc] ∧ Sl W W.heap.size q.kA (q.kinds.map (Value.int .i64)) ∧ PlanWf q := by
  obtain ⟨v0, v1, v2, y0, y1, y2, n, rfl, _, _, t0, t1, t2⟩ := Go.Joins.open_agg3 Tryd.underlying35 (by kernel_rfl) (by kernel_rfl) hv h
  obtain ⟨s, e0, _, hs⟩ := DataW.trod_string Tryd.underlying9 t0
  obtain ⟨z, e1, _, hz⟩ := DataW.trod_int Tryd.underlying3 t1
  obtain ⟨kA, zs, kc, rfl, k1, k2, k3, k4, k5⟩ := ints_field Tryd.underlying33 Tryd.underlying3 (by kernel_rfl) t2
  simp at e0 e1
  subst e0 e1
  exact ⟨⟨s, z, kA, zs, kc⟩, rfl, k1, ⟨k2, hz, by unfold maxLen at hs; exact hs, k3, k4, k5⟩⟩
end
end Go.Proofs.YtcpplebgocbnhaaDoor
