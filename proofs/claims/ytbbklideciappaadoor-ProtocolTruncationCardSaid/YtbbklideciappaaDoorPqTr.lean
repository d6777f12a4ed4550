/-
  A text that is cut off, in plain Lean: how many newlines it has, what its last byte is.
-/
import Derived.Test.YtbbklideciappaaDoorPqR
namespace Go.Proofs.YtbbklideciappaaDoor
open Go.RowKit

theorem count_join : ∀ {L : List (List UInt8)}, (∀ l ∈ L, (10 : UInt8) ∉ l) → (joinL L).count 10 = L.length
  | [], _ => rfl
  | l :: r, h => by
    have e : joinL (l :: r) = l ++ 10 :: joinL r := by simp [joinL]
    rw [e, List.count_append, List.count_cons, count_zero (h l (by simp)), count_join (fun x hx => h x (by simp [hx]))]
    simp
theorem last_join {L : List (List UInt8)} (h : L ≠ []) : ∃ A, joinL L = A ++ [10] := by
  obtain ⟨r, x, rfl⟩ : ∃ r x, L = r ++ [x] := ⟨L.dropLast, L.getLast h, (List.dropLast_concat_getLast h).symm⟩
  exact ⟨joinL r ++ x, by rw [joinL_app, joinL_one, List.append_assoc]⟩
/-- a text cut off behind k + 1 bytes: its last byte. -/
theorem last_cut {L : List (List UInt8)} {t : List UInt8} (ht : (10 : UInt8) ∉ t) {k : Nat} (hk : (joinL L ++ t).length = k + 1) {c : UInt8} (hc : (joinL L ++ t)[k]? = some c) : (c = 10 → t = [] ∧ L ≠ []) ∧ (c ≠ 10 → t ≠ []) := by
  by_cases h : t = []
  · subst h
    rw [List.append_nil] at hk hc
    have hL : L ≠ [] := fun e => by rw [e] at hk; simp [joinL] at hk
    refine ⟨fun _ => ⟨rfl, hL⟩, fun hn => ?_⟩
    obtain ⟨A, hA⟩ := last_join hL
    rw [hA] at hk hc
    simp only [List.length_append, List.length_cons, List.length_nil] at hk
    have : k = A.length := by omega
    subst this
    simp at hc
    exact absurd hc.symm hn
  · refine ⟨fun e => ?_, fun _ => h⟩
    subst e
    refine absurd ?_ ht
    rw [List.length_append] at hk
    have hl : 0 < t.length := List.length_pos_iff.2 h
    rw [List.getElem?_append_right (by omega)] at hc
    exact List.mem_of_getElem? hc
theorem count_next {l : List UInt8} {i : Nat} {c : UInt8} (h : l[i]? = some c) : (l.take (i + 1)).count 10 = (l.take i).count 10 + if c = 10 then 1 else 0 := by
  rw [take_snoc' h, List.count_append, List.count_cons, List.count_nil]
  by_cases hc : c = 10
  · subst hc; simp
  · simp [hc]
theorem text_pos (p : Prot) : 0 < (textP p).length := by
  unfold textP linesP
  rw [show ∀ (a : List UInt8) r, joinL (a :: r) = a ++ 10 :: joinL r from fun a r => by simp [joinL]]
  simp
  omega
theorem con_empty {p : Prot} (h : conOf p = empC) : p.qs.length = 0 := by
  have h1 : p.qs.map conQ = [] := congrArg Con.qs h
  simpa using congrArg List.length h1
end Go.Proofs.YtbbklideciappaaDoor
