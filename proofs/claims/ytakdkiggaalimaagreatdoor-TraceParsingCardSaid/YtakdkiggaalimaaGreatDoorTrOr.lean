/-
  Two orders, two status reports compared, whichever slots they lie in.
-/
import Derived.Test.YtakdkiggaalimaaGreatDoorTrOq
namespace Go.Proofs.YtakdkiggaalimaaGreatDoor
open Go.RowKit Go.Maps

theorem ord_run' (i j : Nat) (o1 o2 : OrdC) (w : World) : ((do eqGuard BinOp.eql 27 (.tmp i) (.tmp j) (ordV o1) (ordV o2); binOp BinOp.eql 27 (ordV o1) (ordV o2)) : Sem Value).run Tryz.prog w = .ok (.bool (tb (o1 = o2))) w := by
  rw [tb_iff (ord_iff o1 o2)]
  unfold ordV
  by_cases h0 : o1.unit = o2.unit
  rotate_left
  · rw [tb_false (fun h => h0 h.1)]
    go_simp
  by_cases h1 : o1.epoch = o2.epoch
  rotate_left
  · rw [tb_false (fun h => h1 h.2.1)]
    go_simp
  by_cases h2 : o1.kind = o2.kind
  rotate_left
  · rw [tb_false (fun h => h2 h.2.2.1)]
    go_simp
  by_cases h3 : o1.incident = o2.incident
  rotate_left
  · rw [tb_false (fun h => h3 h.2.2.2.1)]
    go_simp
  by_cases h4 : o1.node = o2.node
  rotate_left
  · rw [tb_false (fun h => h4 h.2.2.2.2)]
    go_simp
  rw [tb_true ⟨h0, h1, h2, h3, h4⟩]
  go_simp
theorem sta_run' (i j : Nat) (o1 o2 : StaC) (w : World) : ((do eqGuard BinOp.eql 29 (.tmp i) (.tmp j) (staV o1) (staV o2); binOp BinOp.eql 29 (staV o1) (staV o2)) : Sem Value).run Tryz.prog w = .ok (.bool (tb (o1 = o2))) w := by
  rw [tb_iff (sta_iff o1 o2)]
  unfold staV
  by_cases h0 : o1.unit = o2.unit
  rotate_left
  · rw [tb_false (fun h => h0 h.1)]
    go_simp
  by_cases h1 : o1.seq = o2.seq
  rotate_left
  · rw [tb_false (fun h => h1 h.2.1)]
    go_simp
  by_cases h2 : o1.state = o2.state
  rotate_left
  · rw [tb_false (fun h => h2 h.2.2.1)]
    go_simp
  by_cases h3 : o1.node = o2.node
  rotate_left
  · rw [tb_false (fun h => h3 h.2.2.2.1)]
    go_simp
  by_cases h4 : o1.epoch = o2.epoch
  rotate_left
  · rw [tb_false (fun h => h4 h.2.2.2.2)]
    go_simp
  rw [tb_true ⟨h0, h1, h2, h3, h4⟩]
  go_simp
end Go.Proofs.YtakdkiggaalimaaGreatDoor
