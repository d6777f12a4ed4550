/-
  The truth of a sentence as a Boolean; lists; bytes of a string; fresh blocks. No condition: plain lemmas.
-/
import Derived.Test.YtakdkiggaalimaaGreatDoorRecs
import Derived.Test.YtakdkiggaalimaaGreatDoorOnly
namespace Go.Proofs.YtakdkiggaalimaaGreatDoor
open Go.RowKit

noncomputable def tb (P : Prop) : Bool := @decide P (Classical.propDecidable P)
theorem tb_true {P : Prop} (h : P) : tb P = true := @decide_eq_true P (Classical.propDecidable P) h
theorem tb_false {P : Prop} (h : ¬ P) : tb P = false := @decide_eq_false P (Classical.propDecidable P) h
theorem tb_iff {P Q : Prop} (h : P ↔ Q) : tb P = tb Q := by rw [propext h]
theorem of_tb {P : Prop} (h : tb P = true) : P := Classical.byContradiction fun n => by rw [tb_false n] at h; cases h
theorem of_tb_f {P : Prop} (h : tb P = false) : ¬ P := fun p => by rw [tb_true p] at h; cases h
theorem ret_tb {P : Prop} {b : Bool} (h : b = true ↔ P) : Ending.returned (.bool b) = .returned (.bool (tb P)) := by
  by_cases hp : P
  · rw [tb_true hp, h.2 hp]
  · rw [tb_false hp]
    cases b
    · rfl
    · exact absurd (h.1 rfl) hp
theorem ret_yes {P : Prop} (h : P) : Ending.returned (.bool true) = .returned (.bool (tb P)) := by rw [tb_true h]
theorem ret_no {P : Prop} (h : ¬ P) : Ending.returned (.bool false) = .returned (.bool (tb P)) := by rw [tb_false h]
theorem all_take_iff {α : Type} {P : α → Prop} {l : List α} {k : Nat} {x : α} (h : l[k]? = some x) : (∀ y ∈ l.take (k + 1), P y) ↔ (∀ y ∈ l.take k, P y) ∧ P x := by
  obtain ⟨h1, h2⟩ := List.getElem?_eq_some_iff.1 h
  rw [List.take_succ_eq_append_getElem h1, h2]
  simp only [List.mem_append, List.mem_singleton]
  exact ⟨fun h => ⟨fun y hy => h y (.inl hy), h x (.inr rfl)⟩, fun h y hy => by
    rcases hy with hy | rfl
    · exact h.1 y hy
    · exact h.2⟩
theorem take_snoc' {α : Type} {us : List α} {k : Nat} {u : α} (h : us[k]? = some u) : us.take (k + 1) = us.take k ++ [u] := by
  obtain ⟨h1, h2⟩ := List.getElem?_eq_some_iff.1 h
  rw [List.take_succ_eq_append_getElem h1, h2]
theorem byte_at {s : ByteArray} {k : Nat} (h : k < s.size) : s.data.toList[k]? = some s[k] := by
  rw [List.getElem?_eq_getElem (by simpa using h)]; rfl
theorem toL_inj {a b : ByteArray} (h : a.toList = b.toList) : a = b := by
  rw [ByteArray.toList_eq, ByteArray.toList_eq] at h
  apply ByteArray.ext
  exact Array.toList_inj.1 h
theorem str_eq {a b : ByteArray} (h : a = b) : (a.toList == b.toList) = true := beq_iff_eq.2 (by rw [h])
theorem str_ne {a b : ByteArray} (h : a ≠ b) : (a.toList == b.toList) = false := beq_eq_false_iff_ne.2 (fun e => h (toL_inj e))
theorem list_of {α : Type} (R : Nat → α → Prop) : ∀ n, (∀ i, i < n → ∃ x, R i x) → ∃ l : List α, l.length = n ∧ ∀ i x, l[i]? = some x → R i x := by
  intro n
  induction n with
  | zero => intro _; exact ⟨[], rfl, fun i x h => by simp at h⟩
  | succ n ih =>
    intro h
    obtain ⟨l, hl, hR⟩ := ih (fun i hi => h i (by omega))
    obtain ⟨x, hx⟩ := h n (by omega)
    refine ⟨l ++ [x], by simp [hl], fun i y hy => ?_⟩
    by_cases hi : i < l.length
    · rw [List.getElem?_append_left hi] at hy
      exact hR i y hy
    · have hlt : i < (l ++ [x]).length := (List.getElem?_eq_some_iff.1 hy).1
      simp at hlt
      have : i = l.length := by omega
      subst this
      simp at hy
      subst hy
      rw [hl]
      exact hx
theorem recsAt_of {α : Type} {cs : α → List Value} {s : Nat} (hs : ∀ a, (cs a).length = s) (h0 : 0 < s) {w : World} {B : Nat} {A : Option Addr} {xs : List α}
    (h : ∀ (i : Nat) (a : α), xs[i]? = some a → ∃ b o, A = some ⟨b, o, none⟩ ∧ b < B ∧ ∀ (j : Nat) (u : Value), (cs a)[j]? = some u → w.cell? ⟨b, o + i * s + j, none⟩ = some u) : RecsAt cs w B A xs := by
  intro j u hj
  have hl := (List.getElem?_eq_some_iff.1 hj).1
  rw [flat_len hs] at hl
  have hi : j / s < xs.length := Nat.div_lt_of_lt_mul (by rw [Nat.mul_comm]; exact hl)
  obtain ⟨a, ha⟩ : ∃ a, xs[j / s]? = some a := ⟨xs[j / s], by simp⟩
  obtain ⟨b, o, e, hb, hc⟩ := h _ a ha
  have hm : j % s < s := Nat.mod_lt _ h0
  obtain ⟨v, hv⟩ : ∃ v, (cs a)[j % s]? = some v := ⟨(cs a)[j % s]'(by rw [hs]; exact hm), by simp⟩
  have h1 := flat_at hs ha hv
  have e2 : j / s * s + j % s = j := by rw [Nat.mul_comm]; exact Nat.div_add_mod j s
  rw [e2, hj] at h1
  cases h1
  have := hc _ _ hv
  rw [Nat.add_assoc, e2] at this
  exact ⟨b, o, e, hb, this⟩
theorem new_obj (w : World) (o : Obj) : (w.alloc o).heap[w.heap.size]? = some o := by
  show (w.heap.push o)[w.heap.size]? = some o
  simp
theorem below_new (w : World) (o : Obj) : Below w.heap.size w (w.alloc o) := (Below.refl _ _).alloc (Nat.le_refl _) _
theorem lt_new (w : World) (o : Obj) : w.heap.size < (w.alloc o).heap.size := by simp
theorem cell_new (w : World) (vs : List Value) (t : TypeId) {j : Nat} {u : Value} (h : vs[j]? = some u) : (w.alloc (.cells vs.toArray t)).cell? ⟨w.heap.size, j, none⟩ = some u := by
  rw [World.cell?_alloc_at (hn := rfl)]
  simpa using h
end Go.Proofs.YtakdkiggaalimaaGreatDoor
