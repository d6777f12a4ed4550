/-
  A map from integers to whatever values that the call made: look-ups (with and without 'ok') and stores, key by key.
  No condition: plain lemmas over whatever program.
-/
import Derived.Test.YtpomakmmjbimfaaRecs
import Derived.Maps.OwnRows
namespace Go.Proofs.Ytpomakmmjbimfaa
open Go.RowKit Go.Maps Go.ChangeMaps Go.MapKept Go.ChangeShapes
open Go.WideElems (Fit rd rg pl rd_val elemAt)

def heldV (v : Value) : Option (DataW Value × List MemPlace) := some (.held v, [])
def asHeld : Option Value → DataW Value
  | some v => .held v
  | none => .nil
/-- block b is a map from integers (type k); at the key z stands F z. -/
def MapV (P : Program) (k : TypeId) (w : World) (b n : Nat) (F : Int → Option Value) : Prop :=
  ∃ es clock, w.heap[b]? = some (.map es clock) ∧ Fit P k heldV es clock ∧ es.size ≤ n ∧ ∀ z, (DataW.map ((es.toList.map (rg P k heldV)).foldr DataW.insert [])).atKey (.int .i64 z) .nil = asHeld (F z)
def updV (F : Int → Option Value) (z : Int) (v : Value) : Int → Option Value := fun y => if y = z then some v else F y

section
variable {P : Program} {k : TypeId} {w w' : World} {b n : Nat} {F : Int → Option Value}
theorem MapV.made : MapV P k (w.alloc (.map #[] 0)) w.heap.size 0 (fun _ => none) := ⟨#[], 0, (MapKept.heap_alloc w _).1, ⟨by simp, stamped_empty 0, by simp⟩, Nat.le_refl _, fun _ => rfl⟩
theorem MapV.lt (h : MapV P k w b n F) : b < w.heap.size := by
  obtain ⟨es, clock, h1, _⟩ := h
  exact (Array.getElem?_eq_some_iff.1 h1).1
theorem MapV.same (h : MapV P k w b n F) (hb : w'.heap[b]? = w.heap[b]?) : MapV P k w' b n F := by
  obtain ⟨es, clock, h1, h2, h3, h4⟩ := h
  exact ⟨es, clock, hb.trans h1, h2, h3, h4⟩
theorem MapV.mono (h : MapV P k w b n F) {m : Nat} (hm : n ≤ m) : MapV P k w b m F := by
  obtain ⟨es, clock, h1, h2, h3, h4⟩ := h
  exact ⟨es, clock, h1, h2, Nat.le_trans h3 hm, h4⟩
theorem MapV.look {t E : TypeId} (h : MapV P k w b n F) (hk : P.underlying k = some (.int .i64)) (ht : P.underlying t = some (.map k E)) {z0 : Value} (hz : (zeroValue E).run P w = .ok z0 w) (c : Bool) {z : Int} (hwf : (Lit.int .i64 z).wf = true) :
    (F z = none ∧ (Instr.lookup t (.map (some b)) (.int .i64 z) c).run P w = .ok (if c then .tuple #[z0, .bool false] else z0) w) ∨ ∃ v, F z = some v ∧ (Instr.lookup t (.map (some b)) (.int .i64 z) c).run P w = .ok (if c then .tuple #[v, .bool true] else v) w := by
  obtain ⟨es, clock, h1, h2, h3, h4⟩ := h
  rcases fit_look c (int_keyed hk) ht hz h1 h2 (keyOf_int_mk hk hwf) with ⟨hr, _, hat⟩ | ⟨e0, y, _, _, hr, hR, hat, _⟩
  · refine .inl ⟨?_, hr⟩
    have := h4 z
    rw [hat] at this
    cases hF : F z with
    | none => rfl
    | some v => rw [hF] at this; cases this
  · refine .inr ⟨e0.val, ?_, hr⟩
    have := h4 z
    rw [hat] at this
    simp only [heldV, Option.some.injEq] at hR
    subst hR
    cases hF : F z with
    | none => rw [hF] at this; cases this
    | some v =>
      rw [hF] at this
      injection this with this
      rw [this]
theorem MapV.put {t E : TypeId} (h : MapV P k w b n F) (hk : P.underlying k = some (.int .i64)) (ht : P.underlying t = some (.map k E)) (hn : n < 9223372036854775807) {z : Int} (hwf : (Lit.int .i64 z).wf = true) (v : Value) :
    ∃ w', (Instr.mapUpdate t (.map (some b)) (.int .i64 z) v).run P w = .ok () w' ∧ MapV P k w' b (n + 1) (updV F z v) ∧ w.grownBy w' (some b) := by
  obtain ⟨es, clock, h1, h2, h3, h4⟩ := h
  obtain ⟨es', clock', hrun, F', hput, _, _, _⟩ := fit_store (R' := heldV) (int_keyed hk) ht h1 h2 (by unfold maxLen; omega) (fun _ _ _ _ hz => hz) (keyOf_int_mk hk hwf) (val := v) rfl
  refine ⟨_, hrun, ⟨es', clock', heap_setBlock_same h1 _, F', ?_, fun y => ?_⟩, ⟨rfl, rfl, rfl, by simp [setBlock], fun i _ hi => heap_setBlock_other h1 _ (fun e1 => hi (by rw [e1]))⟩⟩
  · have e1 : es'.size = ((es'.toList.map (rg P k heldV)).foldr DataW.insert []).length := by rw [length_sorted]; simp
    rw [e1, hput]
    unfold putKey
    rw [length_insert]
    have e2 := List.length_filter_le (notKey (.int .i64 z)) ((es.toList.map (rg P k heldV)).foldr DataW.insert [])
    rw [length_sorted] at e2
    simp at e2
    omega
  · rw [hput, ← DataW.put_eq]
    unfold updV
    by_cases hy : y = z
    · subst hy
      rw [if_pos rfl, atKey_put_same (k := .int .i64 y) ⟨_, rfl⟩ trivial]
      rfl
    · rw [if_neg hy, atKey_put_other (by intro q; injection q with _ q; exact hy q)]
      exact h4 y
end

theorem wpList_lookup_any {P : Program} (w : World) {ops : Array Oper} {rest : List Oper} {o : Oper} {a : Act} {Q : Exit → Act → World → Prop} (hg : Region.wanted o (yielded ops a.tmps) = true) (m x : Operand) (t : TypeId) (c : Bool) (hop : o.op = Op.lookup t m x c) (mv xv v : Value) (hm : a.eval m = mv) (hx : a.eval x = xv) (hrun : (Instr.lookup t mv xv c).run P w = .ok v w)
    (hK : wpList P ops Q rest (a.put o.dst v) w) : wpList P ops Q (o :: rest) a w := by
  refine BigFrame.wpList_want hg fun K' hK' => ?_
  unfold Oper.wp
  simp [execOp, hop, hm, hx, hrun, Result.andThen]
  exact hK' _ _ hK
theorem wpList_put_any {P : Program} (w : World) {w2 : World} {ops : Array Oper} {rest : List Oper} {o : Oper} {a : Act} {Q : Exit → Act → World → Prop} (hg : Region.wanted o (yielded ops a.tmps) = true) (m x v : Operand) (t : TypeId) (hop : o.op = Op.mapUpdate t m x v) (mv xv vv : Value) (hm : a.eval m = mv) (hx : a.eval x = xv) (hv : a.eval v = vv) (hrun : (Instr.mapUpdate t mv xv vv).run P w = .ok () w2)
    (hK : wpList P ops Q rest (a.put o.dst undef) w2) : wpList P ops Q (o :: rest) a w := by
  refine BigFrame.wpList_want hg fun K' hK' => ?_
  unfold Oper.wp
  simp [execOp, hop, hm, hx, hv, hrun, Result.andThen]
  exact hK' _ _ hK
end Go.Proofs.Ytpomakmmjbimfaa
