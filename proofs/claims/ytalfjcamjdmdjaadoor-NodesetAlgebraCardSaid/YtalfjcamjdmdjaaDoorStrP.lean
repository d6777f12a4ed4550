/-
  nodeset.String: the runs, plain; the state of its loop.
-/
import Derived.Test.YtalfjcamjdmdjaaDoorRunF
import Derived.Test.YtalfjcamjdmdjaaDoorList
import Derived.Test.YtalfjcamjdmdjaaDoorMemB
namespace Go.Proofs.YtalfjcamjdmdjaaDoor
open Go.RowKit

/-- the runs so far, the open run. -/
abbrev RSt := List (List UInt8) × Option (Nat × Nat)
def rStep (st : RSt) (n : Nat) : RSt := match st.2 with
  | none => (st.1, some (n, n))
  | some (f, l) => if l + 1 < n then (st.1 ++ [runT f l], some (n, n)) else (st.1, some (f, n))
def rSt (L : List Nat) : RSt := L.foldl rStep ([], none)
def rEnd (st : RSt) : List (List UInt8) := match st.2 with
  | none => st.1
  | some (f, l) => st.1 ++ [runT f l]
/-- the runs of a list. -/
def runsL (L : List Nat) : List (List UInt8) := rEnd (rSt L)
def textL (L : List Nat) : List UInt8 := Lib.join (runsL L) [44]
theorem rSt_snoc (L : List Nat) (n : Nat) : rSt (L ++ [n]) = rStep (rSt L) n := by unfold rSt; rw [List.foldl_append]; rfl
def fstI (st : RSt) : Int := match st.2 with
  | none => -1
  | some (f, _) => f
def lstI (st : RSt) : Int := match st.2 with
  | none => -1
  | some (_, l) => l
/-- all nodes below 4096, all runs short. -/
structure ROk (st : RSt) : Prop where
  op : ∀ f l, st.2 = some (f, l) → f < 4096 ∧ l < 4096
  short : ∀ x ∈ st.1, x.length ≤ 9
theorem ROk.step {st : RSt} (h : ROk st) {n : Nat} (hn : n < 4096) : ROk (rStep st n) := by
  obtain ⟨acc, o⟩ := st
  cases o with
  | none => exact ⟨fun f l e => by cases e; exact ⟨hn, hn⟩, h.short⟩
  | some fl =>
    obtain ⟨f, l⟩ := fl
    have hfl := h.op f l rfl
    unfold rStep
    dsimp only
    split
    · refine ⟨fun f l e => by cases e; exact ⟨hn, hn⟩, fun x hx => ?_⟩
      rcases List.mem_append.1 hx with hx | hx
      · exact h.short x hx
      · rw [List.mem_singleton.1 hx]; exact runT_len hfl.1 hfl.2
    · exact ⟨fun f' l' e => by cases e; exact ⟨hfl.1, hn⟩, h.short⟩
theorem rOk_of : ∀ (L : List Nat) {st : RSt}, ROk st → (∀ n ∈ L, n < 4096) → ROk (L.foldl rStep st)
  | [], _, h, _ => h
  | n :: L, st, h, hl => rOk_of L (h.step (hl n (by simp))) (fun m hm => hl m (by simp [hm]))
theorem rSt_ok {L : List Nat} (h : ∀ n ∈ L, n < 4096) : ROk (rSt L) := rOk_of L (st := ([], none)) ⟨fun f l e => (by cases e), fun x hx => (by cases hx)⟩ h
theorem step_len (st : RSt) (n : Nat) : (rStep st n).1.length ≤ st.1.length + 1 := by
  obtain ⟨acc, o⟩ := st
  cases o with
  | none => exact Nat.le_succ _
  | some fl =>
    obtain ⟨f, l⟩ := fl
    unfold rStep
    dsimp only
    split
    · simp
    · exact Nat.le_succ _
theorem fold_len : ∀ (L : List Nat) (st : RSt), (L.foldl rStep st).1.length ≤ st.1.length + L.length
  | [], st => by simp
  | n :: L, st => by
    have h1 := fold_len L (rStep st n)
    have h2 := step_len st n
    rw [List.foldl_cons, List.length_cons]
    omega
theorem rSt_len (L : List Nat) : (rSt L).1.length ≤ L.length := by
  have := fold_len L ([], none)
  simpa [rSt] using this
abbrev strV (l : List UInt8) : Value := .string (bs l)
/-- the state of String's loop. -/
structure SSt (w : World) (rb fb lb : Nat) (v : Value) (acc : List (List UInt8)) (f l : Int) (W : World) : Prop where
  cr : W.heap[rb]? = some (.cells #[v] 60 (0, 0))
  cf : W.heap[fb]? = some (.cells #[.int .i64 f] 3 (0, 0))
  cl : W.heap[lb]? = some (.cells #[.int .i64 l] 3 (0, 0))
  own : OwnV strV W w.heap.size 9 v acc
  below : Below w.heap.size w W
  low : w.heap.size ≤ rb ∧ rb < fb ∧ fb < lb
theorem one_cell {W : World} {b : Nat} {v : Value} {t : TypeId} (h : W.heap[b]? = some (.cells #[v] t (0, 0))) : W.cell? ⟨b, 0, none⟩ = some v ∧ W.frozen? ⟨b, 0, none⟩ = false :=
  ⟨(cell_of_row W b 0 _ _ _ h).trans rfl, frozen_of_row W b 0 _ _ h⟩
theorem one_set {W : World} {b : Nat} {v u : Value} {t : TypeId} (h : W.heap[b]? = some (.cells #[v] t (0, 0))) : (W.setCell ⟨b, 0, none⟩ u).heap[b]? = some (.cells #[u] t (0, 0)) := by
  rw [heap_setCell_same W b 0 _ _ _ h]
  rfl
section
variable {w W W' : World} {rb fb lb : Nat} {v u : Value} {acc : List (List UInt8)} {f l : Int}
theorem SSt.lt (h : SSt w rb fb lb v acc f l W) : rb < W.heap.size ∧ fb < W.heap.size ∧ lb < W.heap.size := ⟨(Array.getElem?_eq_some_iff.1 h.cr).1, (Array.getElem?_eq_some_iff.1 h.cf).1, (Array.getElem?_eq_some_iff.1 h.cl).1⟩
theorem SSt.row (h : SSt w rb fb lb v acc f l W) {g : Nat} (hg : v.ownBlock = some g) : w.heap.size ≤ g ∧ g < W.heap.size ∧ g ≠ rb ∧ g ≠ fb ∧ g ≠ lb ∧ ∃ o, W.heap[g]? = some o ∧ o.isCells = true := by
  obtain ⟨cr, cf, cl, hown, _, _⟩ := h
  obtain ⟨_, h2⟩ := hown
  rcases h2 with ⟨rfl, _⟩ | ⟨g', cap, cur, rfl, hb, hh, _⟩
  · cases hg
  · cases hg
    refine ⟨hb, (Array.getElem?_eq_some_iff.1 hh).1, ?_, ?_, ?_, _, hh, rfl⟩ <;> rintro rfl
    · rw [cr] at hh; simp at hh
    · rw [cf] at hh; simp at hh
    · rw [cl] at hh; simp at hh
/-- the blocks of the state. -/
def strB (rb fb lb : Nat) (v : Value) (b : Nat) : Prop := b = rb ∨ b = fb ∨ b = lb ∨ v.ownBlock = some b
theorem SSt.cells (h : SSt w rb fb lb v acc f l W) {b : Nat} (hb : strB rb fb lb v b) : w.heap.size ≤ b ∧ ∃ o, W.heap[b]? = some o ∧ o.isCells = true := by
  obtain ⟨l1, l2, l3⟩ := h.low
  rcases hb with rfl | rfl | rfl | hb
  · exact ⟨l1, _, h.cr, rfl⟩
  · exact ⟨by omega, _, h.cf, rfl⟩
  · exact ⟨by omega, _, h.cl, rfl⟩
  · obtain ⟨q1, _, _, _, _, q⟩ := h.row hb
    exact ⟨q1, q⟩
theorem SSt.only (h : SSt w rb fb lb v acc f l W) {S : Nat → Prop} (ho : Only S W W') (hS : ∀ b, strB rb fb lb v b → ¬ S b) (hb : Below w.heap.size W W') : SSt w rb fb lb v acc f l W' := by
  obtain ⟨l1, l2, l3⟩ := h.lt
  exact ⟨(ho.block rb l1 (hS _ (.inl rfl))).trans h.cr, (ho.block fb l2 (hS _ (.inr (.inl rfl)))).trans h.cf, (ho.block lb l3 (hS _ (.inr (.inr (.inl rfl))))).trans h.cl, ho.row h.own (fun k e => hS k (.inr (.inr (.inr e)))), h.below.trans hb, h.low⟩
theorem SSt.next (h : SSt w rb fb lb v acc f l W) (hb : Below W.heap.size W W') : SSt w rb fb lb v acc f l W' :=
  h.only (S := fun _ => False) (Only.of_below hb) (fun _ _ q => q) (hb.mono h.below.size)
theorem SSt.grown (h : SSt w rb fb lb v acc f l W) {B : Nat} (hB : w.heap.size ≤ B) {row : Option Nat} (hg : W.grownBy W' row) (hr : ∀ k, row = some k → B ≤ k ∧ ∃ o : Obj, W.heap[k]? = some o ∧ o.isCells = false) : SSt w rb fb lb v acc f l W' := by
  refine h.only (S := fun j => row = some j) (Only.of_grown hg (fun j e => e)) (fun b hb e => ?_) ((Below.refl _ _).grown hg h.below.size (fun k e => Nat.le_trans hB (hr k e).1))
  obtain ⟨_, o, p, q⟩ := hr _ e
  obtain ⟨_, o', p', q'⟩ := h.cells hb
  rw [p] at p'
  cases p'
  rw [q] at q'
  cases q'
theorem SSt.setF (h : SSt w rb fb lb v acc f l W) (f' : Int) : SSt w rb fb lb v acc f' l (W.setCell ⟨fb, 0, none⟩ (.int .i64 f')) ∧ Only (fun b => b = fb) W (W.setCell ⟨fb, 0, none⟩ (.int .i64 f')) := by
  obtain ⟨l1, l2, l3⟩ := h.low
  have ho : Only (fun b => b = fb) W (W.setCell ⟨fb, 0, none⟩ (.int .i64 f')) := Only.setCell (S := fun b => b = fb) Only.refl (a := ⟨fb, 0, none⟩) (fun _ => rfl) _
  obtain ⟨m1, m2, m3⟩ := h.lt
  refine ⟨⟨(ho.block rb m1 (by omega)).trans h.cr, one_set h.cf, (ho.block lb m3 (by omega)).trans h.cl, ho.row h.own (fun k e => (h.row e).2.2.2.1), h.below.trans (ho.below h.below.size (fun j e => by have e : j = fb := e; omega)), h.low⟩, ho⟩
theorem SSt.setL (h : SSt w rb fb lb v acc f l W) (l' : Int) : SSt w rb fb lb v acc f l' (W.setCell ⟨lb, 0, none⟩ (.int .i64 l')) ∧ Only (fun b => b = lb) W (W.setCell ⟨lb, 0, none⟩ (.int .i64 l')) := by
  obtain ⟨l1, l2, l3⟩ := h.low
  have ho : Only (fun b => b = lb) W (W.setCell ⟨lb, 0, none⟩ (.int .i64 l')) := Only.setCell (S := fun b => b = lb) Only.refl (a := ⟨lb, 0, none⟩) (fun _ => rfl) _
  obtain ⟨m1, m2, m3⟩ := h.lt
  refine ⟨⟨(ho.block rb m1 (by omega)).trans h.cr, (ho.block fb m2 (by omega)).trans h.cf, one_set h.cl, ho.row h.own (fun k e => (h.row e).2.2.2.2.1), h.below.trans (ho.below h.below.size (fun j e => by have e : j = lb := e; omega)), h.low⟩, ho⟩
/-- the append of a text, behind it the store. -/
theorem SSt.push (h : SSt w rb fb lb v acc f l W) {t : List UInt8} (hown : OwnV strV W' w.heap.size 9 u (acc ++ [t])) (hg : W.grownBy W' v.ownBlock) :
    W'.cell? ⟨rb, 0, none⟩ = some v ∧ W'.frozen? ⟨rb, 0, none⟩ = false ∧ SSt w rb fb lb u (acc ++ [t]) f l (W'.setCell ⟨rb, 0, none⟩ u) ∧ Only (strB rb fb lb v) W (W'.setCell ⟨rb, 0, none⟩ u) := by
  obtain ⟨l1, l2, l3⟩ := h.low
  obtain ⟨m1, m2, m3⟩ := h.lt
  have ho : Only (fun b => v.ownBlock = some b) W W' := Only.of_grown hg (fun j e => e)
  have cr := (ho.block rb m1 (fun e => (h.row e).2.2.1 rfl)).trans h.cr
  have cf := (ho.block fb m2 (fun e => (h.row e).2.2.2.1 rfl)).trans h.cf
  have cl := (ho.block lb m3 (fun e => (h.row e).2.2.2.2.1 rfl)).trans h.cl
  obtain ⟨c1, c2⟩ := one_cell cr
  have ho2 : Only (strB rb fb lb v) W (W'.setCell ⟨rb, 0, none⟩ u) := (ho.mono fun j _ e => .inr (.inr (.inr e))).setCell (a := ⟨rb, 0, none⟩) (fun _ => .inl rfl) _
  have hq : ∀ k, u.ownBlock = some k → k ≠ rb := fun k e => by
    obtain ⟨_, h2⟩ := hown
    rcases h2 with ⟨rfl, _⟩ | ⟨g', cap, cur, rfl, _, hh, _⟩
    · cases e
    · cases e
      rintro rfl
      rw [cr] at hh
      simp at hh
  have hs : Only (fun b => b = rb) W' (W'.setCell ⟨rb, 0, none⟩ u) := Only.setCell (S := fun b => b = rb) Only.refl (a := ⟨rb, 0, none⟩) (fun _ => rfl) _
  have z := hg.size
  refine ⟨c1, c2, ⟨one_set cr, (hs.block fb (by omega) (by omega)).trans cf, (hs.block lb (by omega) (by omega)).trans cl, hs.row hown (fun k e => hq k e), h.below.trans (ho2.below h.below.size (fun j e => (h.cells e).1)), h.low⟩, ho2⟩
end
end Go.Proofs.YtalfjcamjdmdjaaDoor
