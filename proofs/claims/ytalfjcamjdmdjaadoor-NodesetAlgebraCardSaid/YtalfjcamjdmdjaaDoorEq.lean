/-
  nodeset: Equal.
-/
import Derived.Test.YtalfjcamjdmdjaaDoorSetC
import Derived.Deep.MidRow
import Derived.BigQuiet
namespace Go.Proofs.YtalfjcamjdmdjaaDoor
open Go.RowKit

theorem row_range {w : World} {b : Nat} {V : List Nat} (h : RowAt w b V) : w.rangeAt b 0 (V.map fun x : Nat => Value.int .u64 (x : Int)) := fun j v hv => by
  rw [List.getElem?_map] at hv
  obtain ⟨x, h1, rfl⟩ := Option.map_eq_some_iff.1 hv
  rw [Nat.zero_add]
  exact h.cell h1
theorem row_load {w : World} {b : Nat} {V : List Nat} (h : RowAt w b V) (hV : V.length = 64) : (Instr.loadAt 56 (.pointer (some ⟨b, 0, none⟩))).run Tryd.prog w = .ok (.agg (wcells V)) w :=
  run_loadAt_mid w b 0 56 _ _ (row_range h) Tryd.underlying56 rfl (by rw [List.length_map, hV]; exact words_size)
theorem wpQuiet_load {P : Program} {ops : Array Oper} {C : World → Prop} {Q : Act → Prop} {a : Act} {o : Oper} {rest : List Oper} (hw : Region.wanted o (yielded ops a.tmps) = true) (ty : TypeId) (x : Operand) (ho : o.op = .load ty x) (u : Value) (hx : a.eval x = u) (v : Value)
    (hl : ∀ w, C w → (Instr.loadAt ty u).run P w = .ok v w) (h : wpQuiet P ops C Q rest (a.put o.dst v)) : wpQuiet P ops C Q (o :: rest) a :=
  BigFrame.wpQuiet_want hw fun K hK => ⟨v, fun w hw' => by
    unfold Oper.quietAt execOp
    simp only [ho, hx, Sem.run_bind, Sem.run_pure, Result.andThen_ok, hl w hw']
    exact ⟨rfl, rfl⟩, hK _ h⟩
theorem ptr_equalIn (X : World) (d c : Nat) : (Op.equalIn (d + 1) 28 (.pointer none) (.pointer (some ⟨c, 0, none⟩))).run Tryd.prog X = .ok false X := by
  have h := Tryd.underlying28
  simp [Op.equalIn, run_underlying h]
theorem ptr_eql (X : World) (c : Nat) : (binOp .eql 28 (.pointer none) (.pointer (some ⟨c, 0, none⟩))).run Tryd.prog X = .ok (.bool false) X := by
  have h : (Op.equal 28 (.pointer none) (.pointer (some ⟨c, 0, none⟩))).run Tryd.prog X = .ok false X := ptr_equalIn X 9999 c
  simp only [binOp]
  simp [h]
set_option maxRecDepth 100000 in
set_option maxHeartbeats 1000000 in
theorem equal_any (w : World) (p q : Option Addr) (V U : List Nat) (h : SetAt w p V) (k : SetAt w q U) : Calls Tryd.prog 19 #[.agg #[.pointer p], .agg #[.pointer q]] w fun e w' => e = .returned (.bool (V == U)) ∧ Below w.heap.size w w' := by
  have hb0 : Below w.heap.size w ((w.alloc (.cells #[.pointer p] 30)).alloc (.cells #[.pointer q] 30)) := ((Below.refl _ _).alloc (Nat.le_refl _) _).alloc (by simp) _
  obtain ⟨hV, hv⟩ := h
  obtain ⟨hU, hu⟩ := k
  rcases hv with ⟨rfl, rfl⟩ | ⟨hne, b, rfl, hrow⟩
  · rcases hu with ⟨rfl, rfl⟩ | ⟨hne, c, rfl, hrow⟩
    · have HB0 := Lib.hid hb0
      clear hb0 hV hU
      go_enter Tryd.func19, Tryd.ntmps19
      go_wp2_with fail
      go_ret
      exact ⟨ret_bool (by simp), HB0.out⟩
    · have HB0 := Lib.hid hb0
      have HN := Lib.hid hne
      have hpe := ptr_eql
      clear hb0 hV hU hne hrow
      go_enter Tryd.func19, Tryd.ntmps19
      go_wp2_with fail
      go_ret
      exact ⟨ret_bool (by rw [beq_eq_false_iff_ne.2 (fun e => HN.out e.symm)]), HB0.out⟩
  · rcases hu with ⟨rfl, rfl⟩ | ⟨hne', c, rfl, hrow'⟩
    · have HB0 := Lib.hid hb0
      have HN := Lib.hid hne
      clear hb0 hV hU hne hrow
      go_enter Tryd.func19, Tryd.ntmps19
      go_wp2_with fail
      go_ret
      exact ⟨ret_bool (by rw [beq_eq_false_iff_ne.2 HN.out]), HB0.out⟩
    · have hl1 : ∀ X, (∃ n, X = ((w.alloc (.cells #[.pointer (some ⟨b, 0, none⟩)] 30)).alloc (.cells #[.pointer (some ⟨c, 0, none⟩)] 30)).drewN n) → (Instr.loadAt 56 (.pointer (some ⟨b, 0, none⟩))).run Tryd.prog X = .ok (.agg (wcells V)) X := fun X hX => by
        obtain ⟨n, rfl⟩ := hX
        exact row_load (RowAt.below (w' := ((w.alloc (.cells #[.pointer (some ⟨b, 0, none⟩)] 30)).alloc (.cells #[.pointer (some ⟨c, 0, none⟩)] 30))) hrow hb0) hV.len
      have hl2 : ∀ X, (∃ n, X = ((w.alloc (.cells #[.pointer (some ⟨b, 0, none⟩)] 30)).alloc (.cells #[.pointer (some ⟨c, 0, none⟩)] 30)).drewN n) → (Instr.loadAt 56 (.pointer (some ⟨c, 0, none⟩))).run Tryd.prog X = .ok (.agg (wcells U)) X := fun X hX => by
        obtain ⟨n, rfl⟩ := hX
        exact row_load (RowAt.below (w' := ((w.alloc (.cells #[.pointer (some ⟨b, 0, none⟩)] 30)).alloc (.cells #[.pointer (some ⟨c, 0, none⟩)] 30))) hrow' hb0) hU.len
      have HL1 := Lib.hid hl1
      have HL2 := Lib.hid hl2
      clear hl1 hl2
      have heq := fun X : World => eql_words X V U hV.len hU.len
      have HB0 := Lib.hid hb0
      clear hb0 hV hU hne hne' hrow hrow'
      obtain ⟨A, hA⟩ : ∃ A, A = wcells V := ⟨_, rfl⟩
      obtain ⟨B, hB⟩ : ∃ B, B = wcells U := ⟨_, rfl⟩
      rw [← hA] at HL1 heq
      rw [← hB] at HL2 heq
      clear hA hB
      go_enter Tryd.func19, Tryd.ntmps19
      go_wp2_with fail
      refine wp_region_quiet_lit (by kernel_rfl) (by kernel_rfl) ?_
      repeat (go_big_quiet_step (fail))
      refine wpQuiet_load (by rfl) _ _ rfl (.pointer (some ⟨b, 0, none⟩)) rfl _ HL1.out ?_
      go_simp
      repeat (go_big_quiet_step (fail))
      refine wpQuiet_load (by rfl) _ _ rfl (.pointer (some ⟨c, 0, none⟩)) rfl _ HL2.out ?_
      go_simp
      repeat (go_big_quiet_step (fail))
      refine wpQuiet_nil ?_
      intro nq
      apply_assumption
      go_wp2_with fail
      go_ret
      exact ⟨rfl, ⟨HB0.out.os, HB0.out.tape, HB0.out.output, HB0.out.size, HB0.out.block⟩⟩
end Go.Proofs.YtalfjcamjdmdjaaDoor
