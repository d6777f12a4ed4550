/-
  A table without changes; Parse at no graph.
-/
import Derived.Test.YtppbmnlneoinhaaDoorMade
import Derived.Test.YtppbmnlneoinhaaDoorAll
namespace Go.Proofs.YtppbmnlneoinhaaDoor
open Go.RowKit Go.Maps

theorem allE_nil (E : List EdgeT) (t : Int) : allE E [] t = E.map EdgeT.tm := by
  apply List.ext_getElem?
  intro i
  by_cases h : i < E.length
  · obtain ⟨e, he⟩ : ∃ e, E[i]? = some e := ⟨E[i], by simp⟩
    rw [allE_at h, atE_in he, List.getElem?_map, he]
    rfl
  · rw [List.getElem?_eq_none (by rw [allE_len]; omega), List.getElem?_eq_none (by simp; omega)]
theorem closedE_nil {E : List EdgeT} (h : ∀ x ∈ E.map EdgeT.tm, x ≤ 1048576) (t : Int) : ∀ k, k ≤ E.length → closedE E [] t k = []
  | 0, _ => rfl
  | k + 1, hk => by
    obtain ⟨e, he⟩ : ∃ e, E[k]? = some e := ⟨E[k], by simp⟩
    have h1 : atE E [] (k : Nat) t = e.tm := by rw [atE_in he]; rfl
    have h2 := h e.tm (List.mem_map.2 ⟨e, List.mem_of_getElem? he, rfl⟩)
    rw [closedE_succ, closedE_nil h t k (by omega), h1, if_neg (by omega)]
    rfl
set_option maxRecDepth 100000 in
set_option maxHeartbeats 1000000 in
theorem parse_nil (s : ByteArray) (w : World) :
    Calls Tryd.prog 10 #[.pointer none, .string s] w fun e w' => e = .returned (.tuple #[.pointer none, .int .i64 0, .int .i64 1]) ∧ Below w.heap.size w w' := by
  go_enter Tryd.func10, Tryd.ntmps10
  go_wp2_with fail
  refine bodyPost_ret (v := .tuple #[.pointer none, .int .i64 0, .int .i64 1]) (by simp [results, Tryd.results10, go_sem]) rfl ⟨rfl, ?_⟩
  exact (((Below.refl _ _).alloc (Nat.le_refl _) _).alloc (by simp) _).alloc (by simp; omega) _
end Go.Proofs.YtppbmnlneoinhaaDoor
