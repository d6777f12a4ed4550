/-
  The text of a protocol as it grows, in plain words of the prover
-/
import Derived.Test.YtbbklideciappaaGreatDoorPqR
namespace Go.Proofs.YtbbklideciappaaGreatDoor
open Go.RowKit

def preL (p : Prot) (k : Nat) : List (List UInt8) := lHead p.name p.ver :: (p.qs.take k).flatMap linesQ
def preAL (p : Prot) (k : Nat) (q : Ques) (j : Nat) : List (List UInt8) := preL p k ++ lQues q.text :: (q.ans.take j).map lAns
/-- the text behind k questions. -/
def preP (p : Prot) (k : Nat) : List UInt8 := joinL (preL p k)
/-- the text behind k questions, the next one and j of its answers. -/
def preA (p : Prot) (k : Nat) (q : Ques) (j : Nat) : List UInt8 := joinL (preAL p k q j)
theorem preP_zero (p : Prot) : preP p 0 = lHead p.name p.ver ++ [10] := by
  unfold preP preL
  simp [joinL]
theorem preA_zero (p : Prot) (k : Nat) (q : Ques) : preA p k q 0 = preP p k ++ (lQues q.text ++ [10]) := by
  unfold preA preAL preP
  rw [joinL_app]
  simp [joinL]
theorem preA_succ {p : Prot} {k : Nat} {q : Ques} {j : Nat} {a : Ans} (ha : q.ans[j]? = some a) : preA p k q (j + 1) = preA p k q j ++ (lAns a ++ [10]) := by
  unfold preA preAL
  rw [take_snoc' ha, List.map_append, ← List.cons_append, ← List.append_assoc, joinL_app _ (List.map lAns [a])]
  congr 1
  simp [joinL]
theorem preL_succ {p : Prot} {k : Nat} {q : Ques} (hq : p.qs[k]? = some q) : preL p (k + 1) = preL p k ++ linesQ q := by
  unfold preL
  rw [take_snoc' hq, List.flatMap_append]
  simp
theorem preA_all {p : Prot} {k : Nat} {q : Ques} (hq : p.qs[k]? = some q) : preA p k q q.ans.length = preP p (k + 1) := by
  unfold preA preP preAL
  rw [preL_succ hq, List.take_length]
  rfl
theorem preP_all (p : Prot) : preP p p.qs.length = textP p := by
  unfold preP preL
  rw [List.take_length]
  rfl
theorem joinL_le (A B : List (List UInt8)) : (joinL A).length ≤ (joinL (A ++ B)).length := by
  rw [joinL_app, List.length_append]
  omega
theorem preL_app (p : Prot) (k : Nat) : linesP p = preL p k ++ (p.qs.drop k).flatMap linesQ := by
  unfold preL
  conv => lhs; unfold linesP; rw [← List.take_append_drop k p.qs]
  rw [List.flatMap_append]
  rfl
theorem preP_len {p : Prot} (h : ProtOk p) (k : Nat) : (preP p k).length ≤ 330000 := by
  have h1 := text_len h
  have h2 := joinL_le (preL p k) ((p.qs.drop k).flatMap linesQ)
  rw [← preL_app] at h2
  exact Nat.le_trans h2 h1
theorem preA_len {p : Prot} (h : ProtOk p) {k : Nat} {q : Ques} (hq : p.qs[k]? = some q) (j : Nat) : (preA p k q j).length ≤ 330000 := by
  have h1 := preP_len h (k + 1)
  rw [← preA_all hq] at h1
  have h2 := joinL_le (preAL p k q j) ((q.ans.drop j).map lAns)
  have e : preAL p k q j ++ (q.ans.drop j).map lAns = preAL p k q q.ans.length := by
    unfold preAL
    rw [List.append_assoc, List.cons_append, ← List.map_append, List.take_append_drop, List.take_length]
  rw [e] at h2
  exact Nat.le_trans h2 h1
end Go.Proofs.YtbbklideciappaaGreatDoor
