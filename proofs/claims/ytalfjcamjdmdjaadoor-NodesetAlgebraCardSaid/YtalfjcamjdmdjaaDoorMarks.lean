/-
  Range over a function: the marks of the loops that are over, at the function's end; what a round may change.
  No condition: over whatever program.
-/
import Derived.Test.YtalfjcamjdmdjaaDoorRndG
import Derived.Test.YtalfjcamjdmdjaaDoorOnly
namespace Go.Proofs.YtalfjcamjdmdjaaDoor
open Go.RowKit

/-- a mark of a loop that is over. -/
def mkD (x : Nat) : Deferred := { target := .collected x, args := #[] }
theorem leaves_marks {F : Fence} {n : Nat} {P : Program} {fn : Func} {tmps : Array Value} {R : Ending → World → Prop} : ∀ (Ds : List Nat) (W : World), (∀ x ∈ Ds, W.heap[x]? = some (.deferred (some []))) → Ds.Nodup → (∀ W', Only (fun k => k ∈ Ds) W W' → LeavesIn F n P fn tmps R [] .returning W') → LeavesInM F n P fn tmps R (Ds.map mkD) .returning W
  | [], W, _, _, h => h W Only.refl
  | x :: Ds, W, hm, hn, h => by
    have hx := hm x List.mem_cons_self
    obtain ⟨h1, h2⟩ := List.nodup_cons.1 hn
    have ho : Only (fun k => k = x) W (W.putObj x (.deferred none)) := Only.of_grown (grownBy_putObj' W x (.deferred none)) (fun j e => by cases e; rfl)
    refine ⟨by simp, .inl ⟨x, _, rfl, run_takeDeferred hx, ?_⟩⟩
    refine leaves_marks Ds _ (fun y hy => ?_) h2 (fun W' hW' => h W' ?_)
    · exact (ho.block y (Array.getElem?_eq_some_iff.1 (hm y (List.mem_cons_of_mem _ hy))).1 (fun e => by subst e; exact h1 hy)).trans (hm y (List.mem_cons_of_mem _ hy))
    · exact (ho.mono (S' := fun k => k ∈ x :: Ds) (fun j _ e => by subst e; exact List.mem_cons_self)).trans hW' (fun j _ e => List.mem_cons_of_mem _ e)
theorem leaves_one {F : Fence} {n : Nat} {P : Program} {fn : Func} {tmps : Array Value} {R : Ending → World → Prop} {x : Nat} {W : World} (hx : W.heap[x]? = some (.deferred (some []))) (h : ∀ W', Only (fun k => k = x) W W' → LeavesIn F n P fn tmps R [] .returning W') : LeavesInM F n P fn tmps R [{ target := .collected x, args := #[] }] .returning W :=
  leaves_marks [x] W (fun y hy => by rcases List.mem_singleton.1 hy with rfl; exact hx) (by simp) (fun W' hW' => h W' (hW'.mono (fun j _ e => List.mem_singleton.1 e)))
theorem new_cell (W : World) (v : Value) (t : TypeId) : (W.alloc (.cells #[v] t)).cell? ⟨W.heap.size, 0, none⟩ = some v ∧ (W.alloc (.cells #[v] t)).frozen? ⟨W.heap.size, 0, none⟩ = false := ⟨by simp [go_sem], by simp [go_sem]⟩
theorem old_cell {W : World} {a : Addr} {v : Value} (o : Obj) (h : W.cell? a = some v) : (W.alloc o).cell? a = some v := cell_kept h (World.grownBy_alloc W o none) (fun r e => by cases e)
theorem keeps_from {B : Nat} {S : Nat → Prop} {W W' : World} (ho : Only S W W') (hc : ∀ j, S j → B ≤ j → ∃ o, W.heap[j]? = some o ∧ o.isCells = true) : KeepsFrom B W W' :=
  ⟨ho.size, fun k o hB hk hf => (ho.block k (Array.getElem?_eq_some_iff.1 hk).1 (fun s => by
    obtain ⟨o', h1, h2⟩ := hc k s hB
    rw [hk] at h1
    cases h1
    rw [hf] at h2
    cases h2)).trans hk⟩
theorem ownR_cells {α : Type} {cs : α → List Value} {s : Nat} {w : World} {base : Nat} {e : TypeId} {v : Value} {zs : List α} (ho : OwnR cs s w base e v zs) {g : Nat} (hg : v.ownBlock = some g) : base ≤ g ∧ ∃ o, w.heap[g]? = some o ∧ o.isCells = true := by
  rcases ho.2 with ⟨rfl, _⟩ | ⟨g', cap, cur, rfl, hb, hgg, _⟩
  · cases hg
  · cases hg
    exact ⟨hb, _, hgg, rfl⟩
/-- a block that holds no cells is no cell's block. -/
theorem not_cells {W : World} {a : Addr} {v : Value} (h : W.cell? a = some v) {r : Nat} {o : Obj} (ho : W.heap[r]? = some o) (hc : o.isCells = false) : a.block ≠ r := by
  rintro rfl
  obtain ⟨o', h1, h2⟩ := cells_of_cell h
  rw [ho] at h1
  cases h1
  rw [hc] at h2
  cases h2
end Go.Proofs.YtalfjcamjdmdjaaDoor
