/-
  traveltimes.countBefore: how many changes of an ascending list lie before a tick.
-/
import Derived.Test.YtppbmnlneoinhaaDoorTab
import Derived.Shelf.SlSorted.Search
import Derived.Test.YtppbmnlneoinhaaDoorShelf
namespace Go.Proofs.YtppbmnlneoinhaaDoor
open Go.Shelf Go.RowKit Go.Lib Go.Sort

set_option maxHeartbeats 1000000 in
theorem srch_closure (ba bx b o m cap : Nat) (x y : Int) (i : Nat) (W : World) (hi : i < m)
    (ha : W.cell? ⟨ba, 0, none⟩ = some (.slice (some ⟨b, o, none⟩) m cap)) (hx : W.cell? ⟨bx, 0, none⟩ = some (.int .i64 x)) (hc : W.cell? ⟨b, o + i * 3, none⟩ = some (.int .i64 y)) :
    Calls Tryd.prog 50 (#[.int .i64 i] ++ #[.pointer (some ⟨ba, 0, none⟩), .pointer (some ⟨bx, 0, none⟩)]) W fun e w' => e = .returned (.bool (decide (x ≤ y))) ∧ ∃ q, w' = W.drewN q := by
  have hiz : (i : Int) < (m : Int) := by omega
  go_enter Tryd.func50, Tryd.ntmps50
  go_wp2
  go_quiet (fail)
  go_wp2
  go_ret
  exact ⟨by first | rfl | simp, _, rfl⟩

/-- how many changes lie before the tick x. -/
def cntB (cs : List ChgT) (x : Int) : Nat := (cs.map ChgT.tick).countP (fun y => !decide (x ≤ y))

set_option maxHeartbeats 2000000 in
theorem countBefore_any (A : Option Addr) (cap : Nat) (cs : List ChgT) (x : Int) (w : World) (h : ChgsAt w w.heap.size A cs) (hsz : cs.length < 4611686018427387904) (hs : Asc cs) :
    Calls Tryd.prog 36 #[.slice A cs.length cap, .int .i64 x] w fun e w' => e = .returned (.int .i64 (cntB cs x : Nat)) ∧ Below w.heap.size w w' := by
  obtain ⟨W0, hW0⟩ : ∃ W0, W0 = (w.alloc (.cells #[.slice A cs.length cap] 23)).alloc (.cells #[.int .i64 x] 2) := ⟨_, rfl⟩
  have hsize : W0.heap.size = w.heap.size + 1 + 1 := by rw [hW0]; simp
  have ca : W0.cell? ⟨w.heap.size, 0, none⟩ = some (.slice A cs.length cap) := by rw [hW0]; exact cell_alloc_sl _ (cell_new_sl w _ _)
  have cx : W0.cell? ⟨w.heap.size + 1, 0, none⟩ = some (.int .i64 x) := by rw [hW0]; have := cell_new_sl (w.alloc (.cells #[.slice A cs.length cap] 23)) (.int .i64 x) 2; rwa [World.size_alloc] at this
  have hB0 : Below w.heap.size w W0 := by rw [hW0]; exact ((Below.refl _ w).alloc (Nat.le_refl _) _).alloc (by simp) _
  have eg : ∀ args w, (callFunc 50 args).run Tryd.prog w = .ok (.enter 50 args) w := enters_of Tryd.func50 (by kernel_rfl) rfl
  obtain ⟨d, hd⟩ : ∃ d, d = (cs.map ChgT.tick).toArray := ⟨_, rfl⟩
  have hdl : d.size = cs.length := by rw [hd]; simp
  have hdi : ∀ (i : Nat) (c : ChgT), cs[i]? = some c → d[i]! = c.tick := fun i c hc => by
    rw [hd, getElem!_def]
    simp [hc]
  have hS := Any.sort_Search Tryd.search 50 #[.pointer (some ⟨w.heap.size, 0, none⟩), .pointer (some ⟨w.heap.size + 1, 0, none⟩)] d.size (fun i => decide (x ≤ d[i]!)) W0 eg (by omega)
    (fun m os i hi => by
      obtain ⟨c, hc⟩ : ∃ c, cs[i]? = some c := ⟨cs[i]'(by omega), by simp⟩
      obtain ⟨b, o, rfl, hb, c0, _⟩ := chg_at (h.below hB0) hc
      rw [hdi i c hc]
      exact (srch_closure w.heap.size (w.heap.size + 1) b o cs.length cap x c.tick i _ (by omega) (cell_grown (by simp [hsize]; omega) ca m os) (cell_grown (by simp [hsize]) cx m os) (cell_grown (by simp [hsize]; omega) c0 m os)).mono
        fun _ _ ⟨he, q, hq⟩ => ⟨he, q, #[], by rw [hq, grow_empty]⟩)
    (fun a b hab hb hh => by
      obtain ⟨c, hc⟩ : ∃ c, cs[a]? = some c := ⟨cs[a]'(by omega), by simp⟩
      obtain ⟨c', hc'⟩ : ∃ c', cs[b]? = some c' := ⟨cs[b]'(by omega), by simp⟩
      have := hs a b c c' hab hc hc'
      rw [hdi a c hc] at hh
      rw [hdi b c' hc']
      simp at hh ⊢
      omega)
  rw [Lib.countP_range d (fun y => !decide (x ≤ y)), hdl, show d.toList.countP (fun y => !decide (x ≤ y)) = cntB cs x from by rw [hd]; rfl] at hS
  change Calls Tryd.prog 49 _ _ _ at hS
  have HS := Lib.hid hS
  have HB0 := Lib.hid hB0
  clear hS hB0 h ca cx hs hd hdl hdi eg
  go_enter Tryd.func36, Tryd.ntmps36
  go_wp2_with (go_at_call 49; rw [← hW0]; refine HS.out.mono ?_; rintro e w' ⟨rfl, q, os, rfl⟩)
  go_ret
  refine ⟨rfl, ?_⟩
  rw [← hW0]
  exact HB0.out.trans (below_grown_sl w.heap.size W0 q os (by omega))
end Go.Proofs.YtppbmnlneoinhaaDoor
