/-
  Two orders, two status reports compared at the operation; the laws for it in a chain of comparisons.
-/
import Derived.Test.YtakdkiggaalimaaGreatDoorTrEq
import Derived.Test.YtakdkiggaalimaaGreatDoorTrFt
namespace Go.Proofs.YtakdkiggaalimaaGreatDoor
open Go.RowKit Go.Maps

theorem wpList_binB {P : Program} {ops : Array Oper} {Q : Exit → Act → World → Prop} {o : Oper} {r : List Oper} {a : Act} {w : World} {b : Bool} {op : BinOp} {t t2 : TypeId} {x y : Operand} (ho : o.op = .binOp op t x y t2) (hw : Region.wanted o (yielded ops a.tmps) = true)
    (hrun : ((do eqGuard op t x y (a.eval x) (a.eval y); binOp op t (a.eval x) (a.eval y)) : Sem Value).run P w = .ok (.bool b) w) (h : wpList P ops Q r (a.put o.dst (.bool b)) w) : wpList P ops Q (o :: r) a w := by
  unfold wpList
  rw [if_pos hw]
  refine .inl ?_
  unfold Oper.wp execOp
  rw [ho]
  simp only [Sem.run_bind] at hrun ⊢
  rw [hrun]
  exact h
theorem wpList_cmpT {P : Program} {ops : Array Oper} {Q : Exit → Act → World → Prop} {o : Oper} {r : List Oper} {a : Act} {w : World} {j : Nat} {want b : Bool} {p : Prop} (_hg : o.guard = some (j, want)) (_hy : yielded ops a.tmps j = some b) (_hb : b = tb p)
    (hf : tb p = false → ¬ p → wpList P ops Q (o :: r) a w) (ht : tb p = true → p → wpList P ops Q (o :: r) a w) : wpList P ops Q (o :: r) a w := by
  by_cases h : p
  · exact ht (tb_true h) h
  · exact hf (tb_false h) h
theorem ord_run (o1 o2 : OrdC) (w : World) : ((do eqGuard BinOp.eql 27 (.tmp 76) (.tmp 78) (ordV o1) (ordV o2); binOp BinOp.eql 27 (ordV o1) (ordV o2)) : Sem Value).run Tryz.prog w = .ok (.bool (tb (o1 = o2))) w := by
  rw [tb_iff (ord_iff o1 o2)]
  unfold ordV
  by_cases h0 : o1.unit = o2.unit
  rotate_left
  · rw [tb_false (fun h => h0 h.1)]
    go_simp
  by_cases h1 : o1.epoch = o2.epoch
  rotate_left
  · rw [tb_false (fun h => h1 h.2.1)]
    go_simp
  by_cases h2 : o1.kind = o2.kind
  rotate_left
  · rw [tb_false (fun h => h2 h.2.2.1)]
    go_simp
  by_cases h3 : o1.incident = o2.incident
  rotate_left
  · rw [tb_false (fun h => h3 h.2.2.2.1)]
    go_simp
  by_cases h4 : o1.node = o2.node
  rotate_left
  · rw [tb_false (fun h => h4 h.2.2.2.2)]
    go_simp
  rw [tb_true ⟨h0, h1, h2, h3, h4⟩]
  go_simp
theorem sta_run (o1 o2 : StaC) (w : World) : ((do eqGuard BinOp.eql 29 (.tmp 83) (.tmp 85) (staV o1) (staV o2); binOp BinOp.eql 29 (staV o1) (staV o2)) : Sem Value).run Tryz.prog w = .ok (.bool (tb (o1 = o2))) w := by
  rw [tb_iff (sta_iff o1 o2)]
  unfold staV
  by_cases h0 : o1.unit = o2.unit
  rotate_left
  · rw [tb_false (fun h => h0 h.1)]
    go_simp
  by_cases h1 : o1.seq = o2.seq
  rotate_left
  · rw [tb_false (fun h => h1 h.2.1)]
    go_simp
  by_cases h2 : o1.state = o2.state
  rotate_left
  · rw [tb_false (fun h => h2 h.2.2.1)]
    go_simp
  by_cases h3 : o1.node = o2.node
  rotate_left
  · rw [tb_false (fun h => h3 h.2.2.2.1)]
    go_simp
  by_cases h4 : o1.epoch = o2.epoch
  rotate_left
  · rw [tb_false (fun h => h4 h.2.2.2.2)]
    go_simp
  rw [tb_true ⟨h0, h1, h2, h3, h4⟩]
  go_simp
end Go.Proofs.YtakdkiggaalimaaGreatDoor
