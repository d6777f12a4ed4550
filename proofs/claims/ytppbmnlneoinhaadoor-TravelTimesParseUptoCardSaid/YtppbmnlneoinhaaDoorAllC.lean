/-
  Plain: of valid changes all lie between the tick 0 and the greatest time.
  No condition: a plain lemma.
-/
import Derived.Test.YtppbmnlneoinhaaDoorChgP
namespace Go.Proofs.YtppbmnlneoinhaaDoor
theorem chgsL_all {m : Nat} {L : List ChgT} (h : ∀ c ∈ L, okC m c) : chgsL L 0 4611686018427387904 = L := by
  unfold chgsL
  refine List.filter_eq_self.2 fun c hc => ?_
  have := h c hc
  unfold okC at this
  unfold inR
  simp
  omega
end Go.Proofs.YtppbmnlneoinhaaDoor
