/-
  What the bound of the second form gives: a state has few units.
-/
import Derived.Test.YtimijjhdgihobaaDoorMqzc
import Derived.Test.YtimijjhdgihobaaDoorMre
import Derived.Deep.Slices
namespace Go.Proofs.YtimijjhdgihobaaDoor
section
open Go.ChangeShapes Go.WideShapes Go.ChangeAt Go.RowKit
section
variable {H : Type} {enc : TypeId × Value → H}
theorem bulk_one (d : DataW H) : 1 ≤ Rows.uptoBulk d := by
  cases d with
  | lit l => cases l <;> simp [Rows.uptoBulk]
  | nil => simp [Rows.uptoBulk]
  | ptr d => simp [Rows.uptoBulk]
  | slice elems spare => simp [Rows.uptoBulk]
  | agg parts => simp [Rows.uptoBulk]
  | iface t d => simp [Rows.uptoBulk]
  | map entries => simp [Rows.uptoBulk]
  | held h => simp [Rows.uptoBulk]
theorem bulk_length (l : List (DataW H)) : l.length ≤ Rows.uptoBulkAll l := by
  induction l with
  | nil => simp [Rows.uptoBulkAll]
  | cons x r ih =>
    have := bulk_one x
    simp only [Rows.uptoBulkAll, List.length_cons]
    omega
/-- a slice is not longer than its reading's bulk. -/
theorem bulk_slice {W : World} {t e : TypeId} {A : Option Addr} {n cap base : Nat} {spare : Nat → Bool} {held : Bool} {d : DataW H} {p : List MemPlace} (ht : Tryd.prog.underlying t = some (.slice e)) (h : DataW.Trod enc Tryd.prog W base spare held t (.slice A n cap) d p) : n ≤ Rows.uptoBulk d := by
  obtain ⟨fuel, hf⟩ := h
  have hf' : DataW.trod enc Tryd.prog W base spare held fuel t [.slice A n cap] = some (d, p) := by simpa [Value.cells] using hf
  rcases Go.Deep.open_slice ht hf' with ⟨hcs, _⟩ | ⟨a, len, cap', m, n', D, Pl, hcs, _, _, _, _, hx, _⟩
  · simp at hcs
    omega
  · simp at hcs
    injection hx with hd _
    subst hd
    have h1 := bulk_length ((List.range len).map D)
    simp only [List.length_map, List.length_range] at h1
    simp only [Rows.uptoBulk]
    omega
theorem bulk_two {d0 d1 : DataW H} {gs : List (DataW H)} (h : Rows.uptoSmall H ([d0, d1] ++ gs) = true) : Rows.uptoBulk d0 ≤ 1048576 ∧ Rows.uptoBulk d1 ≤ 1048576 := by
  have h1 : Rows.uptoBulkAll ([d0, d1] ++ gs) ≤ 1048576 := of_decide_eq_true h
  simp only [List.cons_append, Rows.uptoBulkAll] at h1
  omega
theorem bulk_mem {l : List (DataW H)} {d : DataW H} (h : d ∈ l) : Rows.uptoBulk d ≤ Rows.uptoBulkAll l := by
  induction l with
  | nil => simp at h
  | cons x r ih =>
    simp only [Rows.uptoBulkAll]
    rcases List.mem_cons.1 h with rfl | h
    · omega
    · have := ih h
      omega
set_option maxRecDepth 100000 in
theorem bulk_units {W : World} {s : StT} {d : DataW H} {p : List MemPlace} {base : Nat} {spare : Nat → Bool} {held : Bool}
    (h : DataW.Trod enc Tryd.prog W base spare held 30 (.agg #[.int .i64 s.z, .slice s.eA s.E.length s.ec, .slice s.tA s.ts.length s.tc, .slice s.iA s.xs.length s.ic, .slice s.uA s.us.length s.uc, .slice s.pA s.ps.length s.pc, .int .i64 s.rsv]) d p) : s.us.length ≤ Rows.uptoBulk d := by
  obtain ⟨fuel, hf⟩ := h
  obtain ⟨xs, n, _, hx, _, hlen, hg⟩ := DataW.trod_struct Tryd.underlying30 hf
  match xs, hlen with
  | [y0, y1, y2, y3, y4, y5], _ =>
    have hC4 : Tryd.prog.cellsOf 27 = 1 := by kernel_rfl
    have g3 := hg 3 _ rfl
    simp only [Value.cells, List.getElem?_cons_zero, List.getElem?_cons_succ] at g3
    have hb := bulk_slice (A := s.uA) (n := s.us.length) (cap := s.uc) Tryd.underlying27 ⟨n, (show DataW.trod enc Tryd.prog W base spare held n 27 [.slice s.uA s.us.length s.uc] = some (y3.1, y3.2) from by
      have g4 : DataW.trod enc Tryd.prog W base spare held n 27 (List.take (Tryd.prog.cellsOf 27) (List.drop 4 [.int .i64 s.z, .slice s.eA s.E.length s.ec, .slice s.tA s.ts.length s.tc, .slice s.iA s.xs.length s.ic, .slice s.uA s.us.length s.uc, .slice s.pA s.ps.length s.pc, .int .i64 s.rsv])) = some y3 := g3
      rw [hC4] at g4
      exact g4)⟩
    injection hx with hd _
    subst hd
    have hm : y3.1 ∈ [y0, y1, y2, y3, y4, y5].map (·.1) := by simp
    have h2 := bulk_mem hm
    simp only [Rows.uptoBulk]
    omega
end
end
end Go.Proofs.YtimijjhdgihobaaDoor
