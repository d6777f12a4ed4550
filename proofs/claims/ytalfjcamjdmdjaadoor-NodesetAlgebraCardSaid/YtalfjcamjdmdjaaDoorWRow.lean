/-
  A row of 64 words in memory; two such rows compared; a bit laid in (add).
-/
import Derived.Test.YtalfjcamjdmdjaaDoorCount
import Derived.Test.YtalfjcamjdmdjaaDoorOnly
import Derived.ChangeKeysEq
import Derived.Laws.Rows
import Derived.RegionTactic
import Derived.ChangeAlike
import Derived.BigRegion
import Derived.IntWalk
namespace Go.Proofs.YtalfjcamjdmdjaaDoor
open Go.RowKit

def wcells (W : List Nat) : Array Value := (W.map (fun x : Nat => Value.int .u64 x)).toArray
/-- the block b holds the words W. -/
def RowAt (w : World) (b : Nat) (W : List Nat) : Prop := w.heap[b]? = some (.cells (wcells W) 56 (0, 0))
theorem wcells_size (W : List Nat) : (wcells W).size = W.length := by simp [wcells]
theorem wcells_at {W : List Nat} {i x : Nat} (h : W[i]? = some x) : (wcells W)[i]? = some (.int .u64 x) := by
  unfold wcells
  rw [List.getElem?_toArray, List.getElem?_map, h]
  rfl
section
variable {w w' : World} {b : Nat} {W : List Nat}
theorem RowAt.cell (h : RowAt w b W) {i x : Nat} (hx : W[i]? = some x) : w.cell? ⟨b, i, none⟩ = some (.int .u64 x) := (cell_of_row w b i _ _ _ h).trans (wcells_at hx)
theorem RowAt.free (h : RowAt w b W) (i : Nat) : w.frozen? ⟨b, i, none⟩ = false := frozen_of_row w b i _ _ h
theorem RowAt.lt (h : RowAt w b W) : b < w.heap.size := (Array.getElem?_eq_some_iff.1 h).1
theorem RowAt.only {S : Nat → Prop} (h : RowAt w b W) (ho : Only S w w') (hb : ¬ S b) : RowAt w' b W := (ho.block b h.lt hb).trans h
theorem RowAt.below (h : RowAt w b W) (hb : Below w.heap.size w w') : RowAt w' b W := (hb.block b h.lt).trans h
theorem RowAt.set (h : RowAt w b W) (i y : Nat) : RowAt (w.setCell ⟨b, i, none⟩ (.int .u64 y)) b (W.set i y) := by
  unfold RowAt
  rw [heap_setCell_same w b i _ _ _ h]
  congr 2
  unfold wcells
  simp [List.map_set]
theorem rowAt_new (w : World) (W : List Nat) : RowAt (w.alloc (.cells (wcells W) 56)) w.heap.size W := heap_alloc_new w _
theorem rowAt_zeros (w : World) : RowAt (w.alloc (.cells (wcells zeros) 56)) w.heap.size zeros := rowAt_new w zeros
end

/-- two rows compared. -/
theorem eq_items (w : World) (A B : List Nat) (hA : A.length = 64) (hB : B.length = 64) (d : Nat) : ∀ is : List Nat, (∀ i ∈ is, i < 64) → (Op.eqItems (d + 1) 54 1 (wcells A) (wcells B) is).run Tryd.prog w = .ok (is.all fun i => A.getD i 0 == B.getD i 0) w
  | [], _ => rfl
  | i :: is, h => by
    have hi := h i List.mem_cons_self
    have ih := eq_items w A B hA hB d is (fun j hj => h j (List.mem_cons_of_mem _ hj))
    have e1 : A[i]? = some (A.getD i 0) := by rw [List.getD_eq_getElem?_getD, List.getElem?_eq_getElem (by omega)]; rfl
    have e2 : B[i]? = some (B.getD i 0) := by rw [List.getD_eq_getElem?_getD, List.getElem?_eq_getElem (by omega)]; rfl
    have p1 := run_part_plain (P := Tryd.prog) w (e := 54) (by kernel_rfl) (wcells_at e1)
    have p2 := run_part_plain (P := Tryd.prog) w (e := 54) (by kernel_rfl) (wcells_at e2)
    have p3 := run_equalIn_int (P := Tryd.prog) w d 54 .u64 .u64 ((A.getD i 0 : Nat) : Int) ((B.getD i 0 : Nat) : Int) Tryd.underlying54
    have e3 : (((A.getD i 0 : Nat) : Int) == ((B.getD i 0 : Nat) : Int)) = (A.getD i 0 == B.getD i 0) := by
      rw [Bool.eq_iff_iff]
      simp
      omega
    rw [e3] at p3
    rw [Op.eqItems]
    simp only [Nat.mul_one, Sem.run_bind, p1, p2, p3, Result.andThen_ok, List.all_cons]
    cases hr : (A.getD i 0 == B.getD i 0)
    · simp
    · simpa using ih
theorem words_info : (Tryd.prog.info? 54).isSome = true := by kernel_rfl
theorem cells_one : Tryd.prog.cellsOf 54 = 1 := by kernel_rfl
theorem eql_words (w : World) (A B : List Nat) (hA : A.length = 64) (hB : B.length = 64) : (binOp .eql 56 (.agg (wcells A)) (.agg (wcells B))).run Tryd.prog w = .ok (.bool (A == B)) w := by
  obtain ⟨i, hi⟩ := Option.isSome_iff_exists.1 words_info
  have h1 := run_equalIn_array (P := Tryd.prog) w 9999 (t := 56) (e := 54) (n := 64) (wcells A) (wcells B) Tryd.underlying56 hi
  have h2 := eq_items w A B hA hB 9998 (List.range 64) (fun i h => List.mem_range.1 h)
  have h3 : (List.range 64).all (fun i => A.getD i 0 == B.getD i 0) = (A == B) := by
    rw [Bool.eq_iff_iff, List.all_eq_true, beq_iff_eq]
    constructor
    · intro h
      refine List.ext_getElem (by omega) fun i h1 h2 => ?_
      have := beq_iff_eq.1 (h i (List.mem_range.2 (by omega)))
      simpa [List.getD_eq_getElem?_getD, h1, h2] using this
    · rintro rfl i _
      simp
  rw [cells_one] at h1
  rw [h3] at h2
  simp only [binOp, Op.equal, Op.maxDepth, Sem.run_bind, h1.trans h2, Result.andThen_ok, Sem.run_pure]
end Go.Proofs.YtalfjcamjdmdjaaDoor
