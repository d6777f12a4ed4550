/-
  samaritanref12.more at an answer: what is left behind (printed by genpqma.py, split).
-/
import Derived.Test.YtbbklideciappaaGreatDoorPqMo
namespace Go.Proofs.YtbbklideciappaaGreatDoor
open Go.RowKit Go.Maps

theorem fin_ans {w W : World} {p : Prot} {k : Nat} {l x : List UInt8} {init : List Ques} {q : Ques} {a : Ans} {b : Bool} {base base9 g n c8 n9 c9 : Nat} {A9 : Option Addr} (h : ProtAt w w.heap.size p) (hc : CntLe p k) (hn : NilOk p) (hq : p.qs = init ++ [q]) (hl : l = 45 :: 32 :: x) (hn1 : n = p.qs.length)
    (h8 : w.heap.size ≤ base) (h9 : w.heap.size ≤ base9) (hb : (b = true ∧ IsAns x a) ∨ (b = false ∧ ∀ a', ¬ IsAns x a')) (ho : OwnR cellsQ 2 W base 43 (.slice (some ⟨g, 0, none⟩) n c8) (init ++ [⟨q.text, A9, q.ans ++ [a], c9⟩])) (ha : OwnR cellsA 4 W base9 45 (.slice A9 n9 c9) (q.ans ++ [a])) (hbe : Below w.heap.size w W) :
    RetMo p k l w (.returned (.tuple #[protV p.name p.ver (some ⟨g, 0, none⟩) n c8, .bool b])) W := by
  have hnl : n = (init ++ [(⟨q.text, A9, q.ans ++ [a], c9⟩ : Ques)]).length := by rw [hn1, hq]; simp
  have hca := OwnR.caps ha
  have hqm : q ∈ p.qs := by rw [hq]; simp
  obtain ⟨A, c, e, hrow⟩ := OwnR.sl ho
  injection e with e1 e2 e3
  subst e1 e3
  obtain ⟨A', c', e', hrow'⟩ := OwnR.sl ha
  injection e' with e1' e2' e3'
  subst e1' e3'
  refine ⟨⟨p.name, p.ver, some ⟨g, 0, none⟩, init ++ [⟨q.text, A9, q.ans ++ [a], c9⟩], c8⟩, b, by rw [hnl], ?_, hbe⟩
  rcases hb with ⟨rfl, ha2⟩ | ⟨rfl, hno⟩
  · refine .inl ⟨rfl, ?_, ⟨hrow, fun y hy => ?_⟩, ⟨?_, fun y hy => ?_⟩, ⟨⟨?_, fun y hy => ?_⟩, ⟨?_, ?_⟩, fun y hy => ?_⟩, fun B hB hf => ⟨fun b o e => ?_, fun y hy => ?_⟩⟩
    · have e4 : conOf ⟨p.name, p.ver, some ⟨g, 0, none⟩, init ++ [⟨q.text, A9, q.ans ++ [a], c9⟩], c8⟩ = addA (conOf p) a := conOf_a (A := A9) (c := c9) hq
      rw [e4]
      exact .ans x a hl ha2 (by unfold conOf; rw [hq]; simp)
    · rcases List.mem_append.1 hy with hy | hy
      · exact (RecsAt.below (h.ans y (by rw [hq]; simp [hy])) hbe).more hbe.size
      · rw [List.mem_singleton.1 hy]
        exact hrow'
    · have := hc.1
      rw [hq] at this
      simp at this ⊢
      omega
    · rcases List.mem_append.1 hy with hy | hy
      · have := hc.2 y (by rw [hq]; simp [hy])
        omega
      · rw [List.mem_singleton.1 hy]
        have := hc.2 q hqm
        simp
        omega
    · intro q
      cases q
    · rcases List.mem_append.1 hy with hy | hy
      · exact hn.1.2 y (by rw [hq]; simp [hy])
      · rw [List.mem_singleton.1 hy]
        exact hca.2.2.2
    · exact (OwnR.caps ho).2.1
    · exact (OwnR.caps ho).2.2.1
    · rcases List.mem_append.1 hy with hy | hy
      · exact hn.2.2 y (by rw [hq]; simp [hy])
      · rw [List.mem_singleton.1 hy]
        exact ⟨hca.2.1, hca.2.2.1⟩
    · obtain ⟨g', c', e1, h1, _⟩ := own_some ho (by simp)
      injection e1 with e1 _ _
      have e2 : some (⟨g', 0, none⟩ : Addr) = some ⟨b, o, none⟩ := e1.symm.trans e
      injection e2 with e2
      injection e2 with e2 _
      omega
    · rcases List.mem_append.1 hy with hy | hy
      · exact hf.2 y (by rw [hq]; simp [hy])
      · rw [List.mem_singleton.1 hy]
        intro b o e
        obtain ⟨g', c', e1, h1, _⟩ := own_some ha (by simp)
        injection e1 with e1 _ _
        have e2 : some (⟨g', 0, none⟩ : Addr) = some ⟨b, o, none⟩ := e1.symm.trans e
        injection e2 with e2
        injection e2 with e2 _
        omega
  · refine .inr ⟨rfl, fun d hd => ?_⟩
    rw [hl] at hd
    cases hd with
    | ques t hl _ => unfold lQues at hl; injection hl with hl _; cases hl
    | ans y b hl hb _ =>
      injection hl with _ hl
      injection hl with _ hl
      subst hl
      exact hno b hb
end Go.Proofs.YtbbklideciappaaGreatDoor
