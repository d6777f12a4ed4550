/-
  nodeset: bitmap, Len, Has, All, Equal.
-/
import Derived.Test.YtalfjcamjdmdjaaDoorSet
import Derived.Laws.Tables
import Derived.Deep.QuietTactic
import Derived.BigQuiet
namespace Go.Proofs.YtalfjcamjdmdjaaDoor
open Go.RowKit

theorem wcells_one (W : List Nat) : (wcells W).all (·.oneCell') = true := by
  unfold wcells
  rw [Array.all_eq_true_iff_forall_mem]
  intro v hv
  simp at hv
  obtain ⟨x, _, rfl⟩ := hv
  rfl
theorem setRow_at {w : World} {b : Nat} {V : List Nat} (h : RowAt w b V) (W : List Nat) : RowAt (w.setRow b (wcells W)) b W ∧ Only (fun k => k = b) w (w.setRow b (wcells W)) := by
  constructor
  · unfold RowAt World.setRow
    simp only
    rw [Array.getElem?_modify, if_pos rfl, show w.heap[b]? = _ from h]
    rfl
  · refine ⟨rfl, rfl, rfl, by simp, fun k _ hn => ?_⟩
    unfold World.setRow
    simp only
    rw [Array.getElem?_modify, if_neg (fun e => hn e.symm)]
/-- a whole row stored. -/
theorem wp_store_words {o : Oper} {a : Act} {w : World} {K : Act → World → Prop} {Q : Exit → Act → World → Prop} (x y : Operand) (ho : o.op = .store 56 x y)
    (b : Nat) (V W : List Nat) (hx : a.eval x = .pointer (some ⟨b, 0, none⟩)) (hy : a.eval y = .agg (wcells W)) (hr : RowAt w b V) (hV : V.length = 64) (hW : W.length = 64)
    (h : ∀ w', RowAt w' b W → Only (fun k => k = b) w w' → K (a.put o.dst undef) w') : o.wp Tryd.prog a w K Q := by
  have hi : (Tryd.prog.info? 56).map (·.size) = some (wcells W).size := by rw [wcells_size, hW]; exact words_size
  have hs := run_storeVar_row (P := Tryd.prog) w b 56 56 (wcells V) (wcells W) hr hi (by rw [wcells_size, wcells_size, hV, hW]) (wcells_one W)
  obtain ⟨h1, h2⟩ := setRow_at hr W
  unfold Oper.wp execOp
  simp only [ho, hx, hy, Instr.storeAt, Instr.sureAddr, Sem.run_bind, Sem.run_pure, Result.andThen_ok, hs]
  exact h _ h1 h2
theorem wpList_store_words {ops : Array Oper} {rest : List Oper} {o : Oper} {a : Act} {w : World} {Q : Exit → Act → World → Prop} (hgd : o.guard = none) (x y : Operand) (ho : o.op = .store 56 x y)
    (b : Nat) (V W : List Nat) (hx : a.eval x = .pointer (some ⟨b, 0, none⟩)) (hy : a.eval y = .agg (wcells W)) (hr : RowAt w b V) (hV : V.length = 64) (hW : W.length = 64)
    (h : ∀ w', RowAt w' b W → Only (fun k => k = b) w w' → wpList Tryd.prog ops Q rest (a.put o.dst undef) w') : wpList Tryd.prog ops Q (o :: rest) a w :=
  wpList_plain hgd fun _ hK => wp_store_words x y ho b V W hx hy hr hV hW fun w' h1 h2 => hK _ _ (h w' h1 h2)
def RetBits (w : World) (W : List Nat) (e : Ending) (w' : World) : Prop := e = .returned (.agg (wcells W)) ∧ Below w.heap.size w w'
set_option maxRecDepth 100000 in
set_option maxHeartbeats 1000000 in
theorem bitmap_any (w : World) (p : Option Addr) (W : List Nat) (h : SetAt w p W) : Calls Tryd.prog 46 #[.agg #[.pointer p]] w (RetBits w W) := by
  obtain ⟨hW, h⟩ := h
  have hwz : wcells zeros = (List.replicate 64 (Value.int .u64 0)).toArray := by simp [wcells, zeros]
  simp only [List.replicate_succ, List.replicate_zero] at hwz
  obtain ⟨rb, hrb⟩ : ∃ rb, rb = w.heap.size + 1 := ⟨_, rfl⟩
  obtain ⟨W0, hW0⟩ : ∃ W0, W0 = (w.alloc (.cells #[.pointer p] 30)).alloc (.cells (wcells zeros) 56) := ⟨_, rfl⟩
  have hb0 : Below w.heap.size w W0 := by rw [hW0]; exact ((Below.refl _ _).alloc (Nat.le_refl _) _).alloc (by simp) _
  have hr0 : RowAt W0 rb zeros := by
    have := rowAt_zeros (w.alloc (.cells #[.pointer p] 30))
    rw [← hW0] at this
    have e : (w.alloc (.cells #[.pointer p] 30)).heap.size = rb := by rw [hrb]; simp
    rw [e] at this
    exact this
  have hk0 : W0.cell? ⟨w.heap.size, 0, none⟩ = some (.pointer p) := by
    rw [hW0]
    exact ((Below.refl (w.alloc (.cells #[.pointer p] 30)).heap.size _).alloc (Nat.le_refl _) _).cell (p := ⟨w.heap.size, 0, none⟩) (by simp) |>.trans (by rw [World.cell?_alloc_at (hn := rfl)]; rfl)
  have hsz : ∀ V : List Nat, V.length = 64 → (Tryd.prog.info? 56).map (·.size) = some (wcells V).size := fun V h => by rw [wcells_size, h]; exact words_size
  rw [hwz] at hW0
  have hbz : ∀ b V, RowAt w b V → RowAt W0 b V := fun b V h => by
    have hb := h.lt
    exact (hb0.block b hb).trans h
  rw [hW0, hrb] at hr0
  rw [hW0] at hb0
  have HB0 := Lib.hid hb0
  have HR0 := Lib.hid hr0
  have HW := Lib.hid hW
  have HZ := Lib.hid hwz
  have HSZ := Lib.hid hsz
  rcases h with ⟨rfl, rfl⟩ | ⟨hne, b, rfl, hrow⟩
  · clear hb0 hr0 hW0 hwz hsz hrb hW hbz hk0
    go_enter Tryd.func46, Tryd.ntmps46
    go_wp2_with (refine wpList_store_words rfl (.tmp 2) (.tmp 6) rfl (w.heap.size + 1) zeros zeros (by rfl) (by rw [HZ.out]; rfl) HR0.out wds_zeros.len wds_zeros.len ?_; intro w3 hr3 ho3)
    refine bodyPost_ret (results_cell_row Tryd.results46 _ _ (w.heap.size + 1) 56 (wcells zeros) (0, 0) _ (by rfl) hr3 Tryd.underlying56 rfl (HSZ.out _ wds_zeros.len)) rfl ⟨rfl, ?_⟩
    exact HB0.out.trans (ho3.below HB0.out.size (fun j e => by have e : j = w.heap.size + 1 := e; omega))
  · have hr1 := hbz b W hrow
    rw [hW0] at hr1
    have HR1 := Lib.hid hr1
    clear hb0 hr0 hW0 hwz hsz hrb hW hbz hk0 hr1 hrow hne
    go_enter Tryd.func46, Tryd.ntmps46
    go_wp2_with (first
      | (refine wpList_load_row rfl 56 (.tmp 9) rfl b (by rfl) 56 (wcells W) (0, 0) _ HR1.out Tryd.underlying56 rfl (HSZ.out _ HW.out.len) ?_)
      | (refine wpList_store_words rfl (.tmp 2) (.tmp 10) rfl (w.heap.size + 1) zeros W (by rfl) (by rfl) HR0.out wds_zeros.len HW.out.len ?_; intro w3 hr3 ho3))
    refine bodyPost_ret (results_cell_row Tryd.results46 _ _ (w.heap.size + 1) 56 (wcells W) (0, 0) _ (by rfl) hr3 Tryd.underlying56 rfl (HSZ.out _ HW.out.len)) rfl ⟨rfl, ?_⟩
    exact HB0.out.trans (ho3.below HB0.out.size (fun j e => by have e : j = w.heap.size + 1 := e; omega))
end Go.Proofs.YtalfjcamjdmdjaaDoor
