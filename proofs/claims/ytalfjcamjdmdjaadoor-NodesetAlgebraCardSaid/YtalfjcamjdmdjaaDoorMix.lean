/-
  nodeset: two rows of words joined word by word.
-/
import Derived.Test.YtalfjcamjdmdjaaDoorSetC
import Derived.Deep.RegionHeld3
import Derived.Deep.DeepCutAuto
namespace Go.Proofs.YtalfjcamjdmdjaaDoor
open Go.RowKit

/-- the first k words joined. -/
def mixW (f : Nat → Nat → Nat) (V W : List Nat) (k : Nat) : List Nat := (List.range 64).map (fun i => if i < k then f (V.getD i 0) (W.getD i 0) else V.getD i 0)
theorem mix_zero {f : Nat → Nat → Nat} {V W : List Nat} (hV : V.length = 64) : mixW f V W 0 = V := by
  refine List.ext_getElem (by simp [mixW, hV]) fun i h1 h2 => ?_
  simp [mixW, h2]
theorem mix_at {f : Nat → Nat → Nat} {V W : List Nat} {k i : Nat} (hi : i < 64) : (mixW f V W k)[i]? = some (if i < k then f (V.getD i 0) (W.getD i 0) else V.getD i 0) := by
  unfold mixW
  rw [List.getElem?_map, List.getElem?_range hi]
  rfl
theorem mix_set {f : Nat → Nat → Nat} {V W : List Nat} {k : Nat} : (mixW f V W k).set k (f (V.getD k 0) (W.getD k 0)) = mixW f V W (k + 1) := by
  refine List.ext_getElem? fun i => ?_
  by_cases hi : i < 64
  · by_cases hik : k = i
    · subst hik
      rw [List.getElem?_set_self (by simp [mixW]; omega), mix_at hi, if_pos (by omega)]
    · rw [List.getElem?_set_ne hik, mix_at hi, mix_at hi]
      by_cases h : i < k
      · rw [if_pos h, if_pos (by omega)]
      · rw [if_neg h, if_neg (by omega)]
  · rw [List.getElem?_eq_none (by simp [mixW]; omega), List.getElem?_eq_none (by simp [mixW]; omega)]
theorem getD_lt {V : List Nat} (hV : Wds V) (i : Nat) : V.getD i 0 < 18446744073709551616 := by
  rw [List.getD_eq_getElem?_getD]
  cases h : V[i]? with
  | none => simp
  | some x => exact hV.lt x (List.mem_of_getElem? h)
theorem wds_mix {f : Nat → Nat → Nat} (hf : ∀ {x y : Nat}, x < 18446744073709551616 → y < 18446744073709551616 → f x y < 18446744073709551616) {V W : List Nat} (hV : Wds V) (hW : Wds W) (k : Nat) : Wds (mixW f V W k) := by
  refine ⟨by simp [mixW], fun x hx => ?_⟩
  unfold mixW at hx
  obtain ⟨i, _, rfl⟩ := List.mem_map.1 hx
  split
  · exact hf (getD_lt hV i) (getD_lt hW i)
  · exact getD_lt hV i
theorem has_mix {f : Nat → Nat → Nat} {V W : List Nat} {n : Nat} (hn : n < 4096) : hasW (mixW f V W 64) n = (f (V.getD (n / 64) 0) (W.getD (n / 64) 0)).testBit (n % 64) := by
  unfold hasW
  rw [List.getD_eq_getElem?_getD, mix_at (by omega), if_pos (by omega)]
  rfl
theorem ops_start (w : World) (p q : Option Addr) {W0 : World} (hW0 : W0 = ((w.alloc (.cells #[.pointer p] 30)).alloc (.cells #[.pointer q] 30)).alloc (.cells #[.pointer none] 30)) :
    W0.cell? ⟨w.heap.size, 0, none⟩ = some (.pointer p) ∧ W0.cell? ⟨w.heap.size + 1, 0, none⟩ = some (.pointer q) ∧ W0.cell? ⟨w.heap.size + 1 + 1, 0, none⟩ = some (.pointer none) ∧ W0.frozen? ⟨w.heap.size + 1 + 1, 0, none⟩ = false ∧ W0.heap.size = w.heap.size + 1 + 1 + 1 ∧ Below w.heap.size w W0 := by
  obtain ⟨A, hA⟩ : ∃ A, A = w.alloc (.cells #[.pointer p] 30) := ⟨_, rfl⟩
  obtain ⟨B, hB⟩ : ∃ B, B = A.alloc (.cells #[.pointer q] 30) := ⟨_, rfl⟩
  have za : A.heap.size = w.heap.size + 1 := by rw [hA]; simp
  have zb : B.heap.size = w.heap.size + 1 + 1 := by rw [hB]; simp [za]
  have b1 : Below w.heap.size w A := by rw [hA]; exact (Below.refl _ _).alloc (Nat.le_refl _) _
  have b2 : Below A.heap.size A B := by rw [hB]; exact (Below.refl _ _).alloc (Nat.le_refl _) _
  rw [← hA, ← hB] at hW0
  have b3 : Below B.heap.size B W0 := by rw [hW0]; exact (Below.refl _ _).alloc (Nat.le_refl _) _
  refine ⟨?_, ?_, ?_, ?_, by rw [hW0]; simp [zb], b1.trans ((b2.mono (by omega)).trans (b3.mono (by omega)))⟩
  · refine ((b3.cell (p := ⟨w.heap.size, 0, none⟩) (by show w.heap.size < _; omega)).trans (b2.cell (p := ⟨w.heap.size, 0, none⟩) (by show w.heap.size < _; omega))).trans ?_
    rw [hA, World.cell?_alloc_at (hn := rfl)]
    rfl
  · refine (b3.cell (p := ⟨w.heap.size + 1, 0, none⟩) (by show w.heap.size + 1 < _; omega)).trans ?_
    rw [hB, World.cell?_alloc_at (hn := za.symm)]
    rfl
  · rw [hW0, World.cell?_alloc_at (hn := zb.symm)]
    rfl
  · rw [hW0, World.frozen?_alloc_at (hn := zb.symm)]
/-- a whole row stored, in a region that draws its order. -/
theorem step_store_words {ops : Array Oper} {o : Oper} {a : Act} {K : Act → World → Prop} {Q : Exit → Act → World → Prop} {X : Prop} (w : World) (hgd : o.guard = none) (x y : Operand) (ho : o.op = .store 56 x y)
    (b : Nat) (V W : List Nat) (hx : a.eval x = .pointer (some ⟨b, 0, none⟩)) (hy : a.eval y = .agg (wcells W)) (hr : RowAt w b V) (hV : V.length = 64) (hW : W.length = 64)
    (h : ∀ w', RowAt w' b W → Only (fun k => k = b) w w' → K (a.put o.dst undef) w') :
    if Region.wanted o (yielded ops a.tmps) = true then Oper.wp Tryd.prog o a w K Q else X := by
  have hw : Region.wanted o (yielded ops a.tmps) = true := by unfold Region.wanted; rw [hgd]
  rw [if_pos hw]
  exact wp_store_words x y ho b V W hx hy hr hV hW h
/-- the two rows ahead of the loop. -/
def OpsMid (W0 : World) (V W : List Nat) (v5 v6 : Value) (wx : World) : Prop :=
  ∃ b1 b2, v5 = .pointer (some ⟨b1, 0, none⟩) ∧ v6 = .pointer (some ⟨b2, 0, none⟩) ∧ W0.heap.size ≤ b1 ∧ W0.heap.size ≤ b2 ∧ b1 ≠ b2 ∧ RowAt wx b1 V ∧ RowAt wx b2 W ∧ Below W0.heap.size W0 wx
theorem row_alloc {A B : World} {W : List Nat} (h : B = A.alloc (.cells (wcells W) 56)) : RowAt B A.heap.size W ∧ Below A.heap.size A B ∧ A.heap.size < B.heap.size := by
  subst h
  exact ⟨rowAt_new A W, (Below.refl _ _).alloc (Nat.le_refl _) _, by simp⟩
end Go.Proofs.YtalfjcamjdmdjaaDoor
