/-
  More words for memory: append of a whole slice (nil, empty or not) onto a row of the call's own; cuts of a slice.
  No condition: plain lemmas over whatever program.
-/
import Derived.Test.YtakdkiggaalimaaGreatDoorMem
import Derived.Deep.AppendLies
import Derived.RegionTactic
namespace Go.Proofs.YtakdkiggaalimaaGreatDoor
open Go.RowKit Go.Maps

theorem add_none (b o j : Nat) : (⟨b, o, none⟩ : Addr).add j = ⟨b, o + j, none⟩ := by
  unfold Addr.add
  split
  · rename_i h
    subst h
    rfl
  · rfl

section
variable {w : World} {B : Nat} {A : Option Addr} {xs : List Value}
/-- 's[k:]' as the walk writes it. -/
theorem Sl.cut (h : Sl w B A xs) {k c : Nat} (hc : k < xs.length → k < c) : Sl w B (if c = k then A else A.map (fun a => a.add k)) (xs.drop k) := by
  intro j u hj
  rw [List.getElem?_drop] at hj
  obtain ⟨b, o, e, hb, hcell⟩ := h _ u hj
  have hk : k < xs.length := by have := (List.getElem?_eq_some_iff.1 hj).1; omega
  have := hc hk
  rw [if_neg (by omega), e]
  exact ⟨b, o + k, by simp [add_none], hb, by rw [Nat.add_assoc]; exact hcell⟩
theorem Sl.nil_of_none (h : Sl w B none xs) : xs = [] := by
  cases xs with
  | nil => rfl
  | cons x t =>
    obtain ⟨_, _, e, _⟩ := h 0 x rfl
    cases e
end

section
variable {α : Type} {f : α → Value} {P : Program} (w : World)
theorem run_append_sl (t ty e : TypeId) (ht : P.underlying t = some (.slice e)) {z0 : Value} {by0 : Nat} (hinfo : (P.info? e).map (fun i => (i.zero, i.size, i.bytes)) = some (some z0, 1, by0)) (hz0 : z0.cells.size = 1) (hby : by0 ≤ 32)
    (base : Nat) (v : Value) (zs : List α) (hown : OwnV f w base e v zs) (B : Nat) (A : Option Addr) (m c : Nat) (ys : List α) (hm : m = ys.length) (hnc : A = none → c = 0) (hs : Sl w B A (ys.map f)) (hone : ∀ y ∈ ys, (f y).oneCell' = true)
    (hlen : zs.length + ys.length ≤ 4398046511104) (hbase : base ≤ w.heap.size) :
    ∃ v' w', (Builtin.append_ #[t, t] ty #[v, .slice A m c]).run P w = .ok v' w' ∧ OwnV f w' base e v' (zs ++ ys) ∧ w.grownBy w' v.ownBlock := by
  obtain ⟨i0, hi, hz1, hz2, hz3⟩ := info_parts hinfo
  subst hm
  cases A with
  | none =>
    have hn := hs.nil_of_none
    have hy : ys = [] := by simpa using hn
    subst hy
    obtain rfl := hnc rfl
    exact ⟨v, w, run_append_owned_none (P := P) (w := w) base t ty e i0 1 ht hi v zs.length _ hown, by simpa using hown, World.grownBy.refl w _⟩
  | some ad =>
    have hcells : ∀ j u, (ys.map f)[j]? = some u → w.cell? (ad.add j) = some u := by
      intro j u hj
      obtain ⟨b, o, e, _, hc⟩ := hs j u hj
      injection e with e
      subst e
      rw [add_none]
      exact hc
    obtain ⟨v', w', hr, h2, h3, _⟩ := run_append_own (P := P) w base t ty e i0 z0 1 by0 ht hi hz1 hz2 hz3 hz0 (by decide) v zs.length _ hown ad ys.length c (ys.map f) (by simp) hcells
      (by intro u hu; simp at hu; obtain ⟨y, hy, rfl⟩ := hu; exact hone y hy) (by unfold maxLen; omega) (by have := Nat.mul_le_mul hlen hby; omega) hbase
    refine ⟨v', w', hr, ?_, h3⟩
    unfold OwnV
    simpa using h2

theorem wp_append_sl {o : Oper} {a : Act} {K : Act → World → Prop} {Q : Exit → Act → World → Prop} (s x : Operand) (t : TypeId)
    (ho : o.op = .call { callee := .builtin .append, args := #[s, x], argTypes := #[t, t] }) (e : TypeId) (ht : P.underlying t = some (.slice e)) {z0 : Value} {by0 : Nat} (hinfo : (P.info? e).map (fun i => (i.zero, i.size, i.bytes)) = some (some z0, 1, by0)) (hz0 : z0.cells.size = 1) (hby : by0 ≤ 32)
    (base : Nat) (v : Value) (zs : List α) (hv : a.eval s = v) (hown : OwnV f w base e v zs) (B : Nat) (A : Option Addr) (m c : Nat) (ys : List α) (hx : a.eval x = .slice A m c) (hm : m = ys.length) (hnc : A = none → c = 0) (hs : Sl w B A (ys.map f)) (hone : ∀ y ∈ ys, (f y).oneCell' = true)
    (hlen : zs.length + ys.length ≤ 4398046511104) (hbase : base ≤ w.heap.size)
    (h : ∀ v' w', OwnV f w' base e v' (zs ++ ys) → w.grownBy w' v.ownBlock → K (a.put o.dst v') w') : o.wp P a w K Q := by
  obtain ⟨v', w', hrun, h2, h3⟩ := run_append_sl w t o.type e ht hinfo hz0 hby base v zs hown B A m c ys hm hnc hs hone hlen hbase
  unfold Oper.wp execOp
  simp only [ho, resolve, invoke, builtin, Sem.run_bind, Sem.run_pure, Result.andThen_ok, List.map_toArray, List.map_cons, List.map_nil, hv, hx, hrun]
  exact h v' w' h2 h3

theorem wpList_append_sl {ops : Array Oper} {rest : List Oper} {o : Oper} {a : Act} {Q : Exit → Act → World → Prop} (hw : Region.wanted o (yielded ops a.tmps) = true) (s x : Operand) (t : TypeId)
    (ho : o.op = .call { callee := .builtin .append, args := #[s, x], argTypes := #[t, t] }) (e : TypeId) (ht : P.underlying t = some (.slice e)) {z0 : Value} {by0 : Nat} (hinfo : (P.info? e).map (fun i => (i.zero, i.size, i.bytes)) = some (some z0, 1, by0)) (hz0 : z0.cells.size = 1) (hby : by0 ≤ 32)
    (base : Nat) (v : Value) (zs : List α) (hv : a.eval s = v) (hown : OwnV f w base e v zs) (B : Nat) (A : Option Addr) (m c : Nat) (ys : List α) (hx : a.eval x = .slice A m c) (hm : m = ys.length) (hnc : A = none → c = 0) (hs : Sl w B A (ys.map f)) (hone : ∀ y ∈ ys, (f y).oneCell' = true)
    (hlen : zs.length + ys.length ≤ 4398046511104) (hbase : base ≤ w.heap.size)
    (h : ∀ v' w', OwnV f w' base e v' (zs ++ ys) → w.grownBy w' v.ownBlock → wpList P ops Q rest (a.put o.dst v') w') : wpList P ops Q (o :: rest) a w :=
  BigFrame.wpList_want hw fun _ hK => wp_append_sl w s x t ho e ht hinfo hz0 hby base v zs hv hown B A m c ys hx hm hnc hs hone hlen hbase fun v' w' h2 h3 => hK _ _ (h v' w' h2 h3)

theorem step_append_sl {ops : Array Oper} {o : Oper} {a : Act} {K : Act → World → Prop} {Q : Exit → Act → World → Prop} {E : Prop} (hw : Region.wanted o (yielded ops a.tmps) = true) (s x : Operand) (t : TypeId)
    (ho : o.op = .call { callee := .builtin .append, args := #[s, x], argTypes := #[t, t] }) (e : TypeId) (ht : P.underlying t = some (.slice e)) {z0 : Value} {by0 : Nat} (hinfo : (P.info? e).map (fun i => (i.zero, i.size, i.bytes)) = some (some z0, 1, by0)) (hz0 : z0.cells.size = 1) (hby : by0 ≤ 32)
    (base : Nat) (v : Value) (zs : List α) (hv : a.eval s = v) (hown : OwnV f w base e v zs) (B : Nat) (A : Option Addr) (m c : Nat) (ys : List α) (hx : a.eval x = .slice A m c) (hm : m = ys.length) (hnc : A = none → c = 0) (hs : Sl w B A (ys.map f)) (hone : ∀ y ∈ ys, (f y).oneCell' = true)
    (hlen : zs.length + ys.length ≤ 4398046511104) (hbase : base ≤ w.heap.size)
    (h : ∀ v' w', OwnV f w' base e v' (zs ++ ys) → w.grownBy w' v.ownBlock → K (a.put o.dst v') w') : if Region.wanted o (yielded ops a.tmps) = true then Oper.wp P o a w K Q else E := by
  rw [if_pos hw]
  exact wp_append_sl w s x t ho e ht hinfo hz0 hby base v zs hv hown B A m c ys hx hm hnc hs hone hlen hbase h
end

/-- 's[k:]' at the operation: the new slice under names of its own. -/
theorem wpList_cut {P : Program} (w : World) {ops : Array Oper} {rest : List Oper} {o : Oper} {a : Act} {Q : Exit → Act → World → Prop} (hw : Region.wanted o (yielded ops a.tmps) = true) (x lo : Operand) (t : TypeId)
    (ho : o.op = .slice t x (some lo) none none) (e : TypeId) (ht : P.underlying t = some (.slice e)) (hel : P.elem t = e) (hsz : (sizeOf e).run P w = .ok 1 w) (A : Option Addr) (n c : Nat) (k : Nat) (hx : a.eval x = .slice A n c) (hlo : a.eval lo = .int .i64 k) (hk : k ≤ n) (B : Nat) (xs : List Value) (hs : Sl w B A xs) (hkc : k < xs.length → k < c)
    (h : ∀ A' c', Sl w B A' (xs.drop k) → c' ≤ c → c ≤ c' + k → (A = none → A' = none) → (A' = none → A = none) → wpList P ops Q rest (a.put o.dst (.slice A' (n - k) c')) w) : wpList P ops Q (o :: rest) a w := by
  refine BigFrame.wpList_want hw fun K hK => ?_
  have hrun := run_slice_l (P := P) w t A n c (by rw [hel]; exact ht) .i64 (k : Int) (by omega) (by omega)
  rw [hel, hsz] at hrun
  simp only [Result.andThen, sliced, Int.toNat_natCast, Nat.mul_one] at hrun
  unfold Oper.wp execOp
  simp [ho, hx, hlo, run_sliceAt_slice, hel, ht, hrun, Result.andThen]
  refine hK _ _ (h _ _ (hs.cut hkc) (by omega) (by omega) ?_ ?_)
  · rintro rfl
    split <;> rfl
  · intro q
    split at q
    · exact q
    · cases A with
      | none => rfl
      | some a => cases q

/-- a row that the call laid whole. -/
theorem OwnV.lit {α : Type} {f : α → Value} (w : World) (base : Nat) (e : TypeId) (zs : List α) {n : Nat} (hn : n = w.heap.size) (hb : base ≤ n) (hm : zs.length ≤ 4398046511104) (cs : Array Value) (hcs : cs = (zs.map f).toArray) :
    OwnV f (w.alloc (.cells cs e)) base e (.slice (some ⟨n, 0, none⟩) zs.length zs.length) zs := by
  subst hn hcs
  have := World.ownsRow_lit (base := base) (e := e) (size := 1) w (zs.map f).toArray zs.length hb (by unfold maxLen; omega) (by simp)
  unfold OwnV
  simpa using this

end Go.Proofs.YtakdkiggaalimaaGreatDoor
