/-
  The functions in the law TraceKindIndex (printed by gentrez.py).
-/
import Derived.Test.YtakdkiggaalimaaDoorTrEy
namespace Go.Proofs.YtakdkiggaalimaaDoor
open Go.RowKit Go.Maps

/-- a variable at q that holds the numbers l; all else that existed in W0 is as it was. -/
structure VarAt (W0 : World) (q : Nat) (v : Value) (l : List Int) (X : World) : Prop where
  blk : X.heap[q]? = some (.cells #[v] IS (0, 0))
  own : OwnI X W0.heap.size 3 v l
  rest : Only (fun b => b = q) W0 X
def VarK (W0 : World) (q : Nat) (l : List Int) (X : World) : Prop := ∃ v, VarAt W0 q v l X
theorem VarAt.mid {W0 X Y : World} {q : Nat} {v : Value} {l : List Int} (h : VarAt W0 q v l X) (hg : X.grownBy Y v.ownBlock) (hq : q < W0.heap.size) : Y.heap[q]? = some (.cells #[v] IS (0, 0)) :=
  (hg.block q (Array.getElem?_eq_some_iff.1 h.blk).1 (fun e => by have := OwnV.ge_base h.own q e.symm; omega)).trans h.blk
theorem VarAt.push {W0 X Y : World} {q : Nat} {v v' : Value} {l l' : List Int} (h : VarAt W0 q v l X) (hg : X.grownBy Y v.ownBlock) (ho : OwnI Y W0.heap.size 3 v' l') (hq : q < W0.heap.size) : VarAt W0 q v' l' (Y.setCell ⟨q, 0, none⟩ v') := by
  have h1 := h.mid hg hq
  refine ⟨?_, ownsRow_setCell_other ho (fun e => by have := OwnV.ge_base ho q e; omega) _, ?_⟩
  · unfold World.setCell
    simp only []
    rw [Array.getElem?_modify]
    simp [h1]
  · refine Only.setCell (S := fun b => b = q) ⟨hg.os.trans h.rest.os, hg.tape.trans h.rest.tape, hg.output.trans h.rest.output, Nat.le_trans h.rest.size hg.size, fun b hb hn => ?_⟩ (a := ⟨q, 0, none⟩) (fun _ => rfl) v'
    exact (hg.block b (Nat.lt_of_lt_of_le hb h.rest.size) (fun e => by have := OwnV.ge_base h.own b e.symm; omega)).trans (h.rest.block b hb hn)
set_option maxRecDepth 100000 in
set_option maxHeartbeats 4000000 in
theorem some51_any (W0 : World) (ns : List Int) (q1 q2 lim : Nat) (k : Nat) (x : Int) (X : World) (hx : ns[k]? = some x) (hn : W0.heap[q2]? = some (.cells #[.int .i64 lim] 3 (0, 0))) (hq : q2 ≠ q1) (hB : q1 < W0.heap.size ∧ q2 < W0.heap.size) (hl : ns.length ≤ 100000) (h : VarK W0 q1 (ns.take k) X) :
    Calls Tryd.prog 11 #[.int .i64 x, .pointer (some ⟨q1, 0, none⟩), .pointer (some ⟨q2, 0, none⟩)] X fun e Y => e = .returned (.bool (decide (k + 1 < lim))) ∧ VarK W0 q1 (ns.take (k + 1)) Y := by
  obtain ⟨v, h⟩ := h
  obtain ⟨y1, z1⟩ := IxAt.cell h.blk
  have hkl : k < ns.length := (List.getElem?_eq_some_iff.1 hx).1
  have HK : Hid ((ns.take k).length = k) := Lib.hid (by rw [List.length_take]; omega)
  have HX := Lib.hid hx
  have HB := Lib.hid (And.intro trivial hB)
  have hq2 : X.heap[q2]? = some (.cells #[.int .i64 lim] 3 (0, 0)) := (h.rest.block q2 (Array.getElem?_eq_some_iff.1 hn).1 (fun e => hq e)).trans hn
  have HQ2 := Lib.hid hq2
  have hq' : ¬ q1 = q2 := fun e => hq e.symm
  have hlt1 := (Array.getElem?_eq_some_iff.1 h.blk).1
  have H := Lib.hid h
  have d1 : decide (k + 1 < lim) = decide (((k + 1 : Nat) : Int) < (lim : Int)) := by rw [decide_eq_decide]; omega
  rw [d1]
  clear hx hB h d1 hn hq2
  go_enter Tryd.func11, Tryd.ntmps11
  go_wp2_with (at_builtin; refine wpList_append_one _ rfl (.tmp 5) (.tmp 7) 29 rfl W0.heap.size 3 Tryd.underlying29 ek_int rfl (by decide) v (ns.take k) X x (f := Value.int .i64) rfl rfl rfl H.out.own rfl (by have := HK.out; omega) H.out.rest.size ?_; intro v5 w5 hown5 hg5; have hpush := H.out.push hg5 hown5 HB.out.2.1; obtain ⟨y5, z5⟩ := IxAt.cell (H.out.mid hg5 HB.out.2.1); have HPU := Lib.hid hpush; obtain ⟨A5, c5, rfl, _⟩ := OwnV.sl hown5; have hl5 := (Array.getElem?_eq_some_iff.1 (H.out.mid hg5 HB.out.2.1)).1; have n5 : w5.cell? ⟨q2, 0, none⟩ = some (.int .i64 lim) := (by rw [cell_of_row _ _ _ _ _ _ ((hg5.block q2 (Array.getElem?_eq_some_iff.1 HQ2.out).1 (fun e => by have := OwnV.ge_base H.out.own q2 e.symm; have h8 := HB.out.2; omega)).trans HQ2.out)]; first | done | rfl); simp only [List.length_append, List.length_cons, List.length_nil, Nat.zero_add, HK.out] at HPU ⊢; clear hpush hown5 hg5)
  go_ret
  exact ⟨rfl, _, by rw [take_snoc' HX.out]; exact HPU.out⟩
set_option maxRecDepth 100000 in
set_option maxHeartbeats 4000000 in
theorem all51_any (W0 : World) (ns : List Int) (q1 : Nat) (k : Nat) (x : Int) (X : World) (hx : ns[k]? = some x) (hB : q1 < W0.heap.size) (hl : ns.length ≤ 100000) (h : VarK W0 q1 (ns.take k) X) :
    Calls Tryd.prog 12 #[.int .i64 x, .pointer (some ⟨q1, 0, none⟩)] X fun e Y => e = .returned (.bool (decide (k + 1 < 1000))) ∧ VarK W0 q1 (ns.take (k + 1)) Y := by
  obtain ⟨v, h⟩ := h
  obtain ⟨y1, z1⟩ := IxAt.cell h.blk
  have hkl : k < ns.length := (List.getElem?_eq_some_iff.1 hx).1
  have HK : Hid ((ns.take k).length = k) := Lib.hid (by rw [List.length_take]; omega)
  have HX := Lib.hid hx
  have HB := Lib.hid (And.intro trivial hB)
  have hlt1 := (Array.getElem?_eq_some_iff.1 h.blk).1
  have H := Lib.hid h
  have d1 : decide (k + 1 < 1000) = decide (((k + 1 : Nat) : Int) < (1000 : Int)) := by rw [decide_eq_decide]; omega
  rw [d1]
  clear hx hB h d1
  go_enter Tryd.func12, Tryd.ntmps12
  go_wp2_with (at_builtin; refine wpList_append_one _ rfl (.tmp 4) (.tmp 6) 29 rfl W0.heap.size 3 Tryd.underlying29 ek_int rfl (by decide) v (ns.take k) X x (f := Value.int .i64) rfl rfl rfl H.out.own rfl (by have := HK.out; omega) H.out.rest.size ?_; intro v5 w5 hown5 hg5; have hpush := H.out.push hg5 hown5 HB.out.2; obtain ⟨y5, z5⟩ := IxAt.cell (H.out.mid hg5 HB.out.2); have HPU := Lib.hid hpush; obtain ⟨A5, c5, rfl, _⟩ := OwnV.sl hown5; have hl5 := (Array.getElem?_eq_some_iff.1 (H.out.mid hg5 HB.out.2)).1; simp only [List.length_append, List.length_cons, List.length_nil, Nat.zero_add, HK.out] at HPU ⊢; clear hpush hown5 hg5)
  go_ret
  exact ⟨rfl, _, by rw [take_snoc' HX.out]; exact HPU.out⟩
end Go.Proofs.YtakdkiggaalimaaDoor
