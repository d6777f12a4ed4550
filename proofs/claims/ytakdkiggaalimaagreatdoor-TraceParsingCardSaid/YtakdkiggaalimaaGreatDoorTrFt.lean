/-
  Laws for long chains of comparisons in one region: what lies behind a guard that does not hold is passed over in one step.
  No condition: plain laws over whatever program.
-/
import Derived.Test.YtakdkiggaalimaaGreatDoorTb
namespace Go.Proofs.YtakdkiggaalimaaGreatDoor
open Go.RowKit

/-- the rest of a region of which nothing is to be done but copies and choices. -/
def runFlat (ops : Array Oper) : List Oper → Act → Option Act
  | [], a => some a
  | o :: r, a =>
    match Region.wanted o (yielded ops a.tmps) with
    | true =>
      match o.op with
      | .move x => runFlat ops r (a.put o.dst (a.eval x))
      | .assign x => runFlat ops r (a.put o.dst (a.eval x))
      | .pick c x y =>
        match a.eval c with
        | .bool true => runFlat ops r (a.put o.dst (a.eval x))
        | .bool false => runFlat ops r (a.put o.dst (a.eval y))
        | _ => none
      | _ => none
    | false => runFlat ops r (a.put o.dst undef)
theorem wpList_flat {P : Program} {ops : Array Oper} {Q : Exit → Act → World → Prop} : ∀ {l : List Oper} {a a' : Act} {w : World}, runFlat ops l a = some a' → wpList P ops Q [] a' w → wpList P ops Q l a w
  | [], a, a', w, h, hq => by
    unfold runFlat at h
    injection h with h
    subst h
    exact hq
  | o :: r, a, a', w, h, hq => by
    unfold runFlat at h
    unfold wpList
    split at h
    · rename_i hw
      rw [if_pos hw]
      refine .inl ?_
      split at h
      · rename_i x ho
        unfold Oper.wp execOp
        rw [ho]
        exact wpList_flat h hq
      · rename_i x ho
        unfold Oper.wp execOp
        rw [ho]
        exact wpList_flat h hq
      · rename_i c x y ho
        split at h
        · rename_i hc
          unfold Oper.wp execOp
          rw [ho]
          simp only [hc]
          exact wpList_flat h hq
        · rename_i hc
          unfold Oper.wp execOp
          rw [ho]
          simp only [hc]
          exact wpList_flat h hq
        · cases h
      · cases h
    · rename_i hw
      rw [if_neg (by rw [hw]; simp)]
      exact wpList_flat h hq
/-- what is not guarded in the rest of a region is given one value. -/
def setAll (v : Value) : List Oper → Act → Act
  | [], a => a
  | o :: r, a => match o.guard with
    | none => setAll v r (a.put o.dst v)
    | some _ => setAll v r a
theorem wpList_jump {P : Program} {ops : Array Oper} {Q : Exit → Act → World → Prop} {l : List Oper} {a : Act} {w : World} (v : Value) (h : runFlat ops l a = some (setAll v l a)) (hq : wpList P ops Q [] (setAll v l a) w) : wpList P ops Q l a w := wpList_flat h hq
/-- the same, the frame behind it named by what leads to it. -/
theorem wpList_pass {P : Program} {ops : Array Oper} {Q : Exit → Act → World → Prop} {l : List Oper} {a : Act} {w : World} (h : (runFlat ops l a).isSome = true) (hq : ∀ a', runFlat ops l a = some a' → wpList P ops Q [] a' w) : wpList P ops Q l a w := by
  obtain ⟨a', h'⟩ := Option.isSome_iff_exists.1 h
  exact wpList_flat h' (hq a' h')
/-- an operation behind a guard that is a comparison: both ways. -/
theorem wpList_cmpI {P : Program} {ops : Array Oper} {Q : Exit → Act → World → Prop} {o : Oper} {r : List Oper} {a : Act} {w : World} {j : Nat} {want b : Bool} {x y : Int} (_hg : o.guard = some (j, want)) (_hy : yielded ops a.tmps j = some b) (_hb : b = (x == y))
    (hf : (x == y) = false → x ≠ y → wpList P ops Q (o :: r) a w) (ht : (x == y) = true → x = y → wpList P ops Q (o :: r) a w) : wpList P ops Q (o :: r) a w := by
  by_cases h : x = y
  · exact ht (by simp [h]) h
  · exact hf (by simp [h]) h
theorem wpList_cmpN {P : Program} {ops : Array Oper} {Q : Exit → Act → World → Prop} {o : Oper} {r : List Oper} {a : Act} {w : World} {j : Nat} {want b : Bool} {x y : Int} (_hg : o.guard = some (j, want)) (_hy : yielded ops a.tmps j = some b) (_hb : b = (x != y))
    (hf : (x != y) = true → x ≠ y → wpList P ops Q (o :: r) a w) (ht : (x != y) = false → x = y → wpList P ops Q (o :: r) a w) : wpList P ops Q (o :: r) a w := by
  by_cases h : x = y
  · exact ht (by simp [h]) h
  · exact hf (by simp [h]) h
theorem wpList_cmpL {P : Program} {ops : Array Oper} {Q : Exit → Act → World → Prop} {o : Oper} {r : List Oper} {a : Act} {w : World} {j : Nat} {want b : Bool} {x y : List UInt8} (_hg : o.guard = some (j, want)) (_hy : yielded ops a.tmps j = some b) (_hb : b = (x == y))
    (hf : (x == y) = false → x ≠ y → wpList P ops Q (o :: r) a w) (ht : (x == y) = true → x = y → wpList P ops Q (o :: r) a w) : wpList P ops Q (o :: r) a w := by
  by_cases h : x = y
  · exact ht (by simp [h]) h
  · exact hf (by simp [h]) h
theorem wpList_cmpA {P : Program} {ops : Array Oper} {Q : Exit → Act → World → Prop} {o : Oper} {r : List Oper} {a : Act} {w : World} {j : Nat} {want b c d : Bool} (_hg : o.guard = some (j, want)) (_hy : yielded ops a.tmps j = some b) (_hb : b = (c && d))
    (hf : (c && d) = false → wpList P ops Q (o :: r) a w) (ht : (c && d) = true → wpList P ops Q (o :: r) a w) : wpList P ops Q (o :: r) a w := by
  cases h : c && d
  · exact hf h
  · exact ht h
end Go.Proofs.YtakdkiggaalimaaGreatDoor
