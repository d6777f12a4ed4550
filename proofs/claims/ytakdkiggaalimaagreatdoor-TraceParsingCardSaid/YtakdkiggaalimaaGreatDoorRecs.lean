/-
  Slices of structs as they lie in memory: each element a fixed number of cells; append of one element.
  No condition: plain lemmas over whatever program.
-/
import Derived.Test.YtakdkiggaalimaaGreatDoorMemB
import Derived.WalkLawsBesides
import Derived.WalkSpells
import Derived.BigGuardPart
import Derived.Deep.Light
namespace Go.Proofs.YtakdkiggaalimaaGreatDoor
open Go.RowKit Go.Maps

section
variable {α : Type} {cs : α → List Value} {s : Nat}
theorem flat_len (hs : ∀ a, (cs a).length = s) (xs : List α) : (xs.flatMap cs).length = xs.length * s := by
  induction xs with
  | nil => simp
  | cons x xs ih =>
    rw [List.flatMap_cons, List.length_append, ih, hs, List.length_cons, Nat.add_mul]
    omega
theorem flat_at (hs : ∀ a, (cs a).length = s) : ∀ {xs : List α} {i : Nat} {a : α}, xs[i]? = some a → ∀ {j : Nat} {u : Value}, (cs a)[j]? = some u → (xs.flatMap cs)[i * s + j]? = some u
  | [], i, a, h, _, _, _ => by simp at h
  | x :: xs, 0, a, h, j, u, hj => by
    simp only [List.getElem?_cons_zero, Option.some.injEq] at h
    subst h
    rw [List.flatMap_cons, Nat.zero_mul, Nat.zero_add, List.getElem?_append_left (List.getElem?_eq_some_iff.1 hj).1]
    exact hj
  | x :: xs, i + 1, a, h, j, u, hj => by
    have ih := flat_at hs (xs := xs) (i := i) (a := a) (by simpa using h) hj
    rw [List.flatMap_cons, List.getElem?_append_right (by rw [hs, Nat.add_mul]; omega), hs]
    have e : (i + 1) * s + j - s = i * s + j := by rw [Nat.add_mul]; omega
    rw [e]
    exact ih

/-- the records xs lie at A, below B. -/
def RecsAt (cs : α → List Value) (w : World) (B : Nat) (A : Option Addr) (xs : List α) : Prop := Sl w B A (xs.flatMap cs)
/-- v owns the records xs. -/
def OwnR (cs : α → List Value) (s : Nat) (w : World) (base : Nat) (e : TypeId) (v : Value) (xs : List α) : Prop := w.ownsRow base e s v xs.length (xs.flatMap cs)

variable {w w' : World} {B B' base : Nat} {A : Option Addr} {xs : List α} {e : TypeId} {v : Value}
theorem RecsAt.at (hs : ∀ a, (cs a).length = s) (h : RecsAt cs w B A xs) {i : Nat} {a : α} (hi : xs[i]? = some a) (h0 : 0 < s) : ∃ b o, A = some ⟨b, o, none⟩ ∧ b < B ∧ ∀ (j : Nat) (u : Value), (cs a)[j]? = some u → w.cell? ⟨b, o + i * s + j, none⟩ = some u := by
  obtain ⟨u0, hu0⟩ : ∃ u, (cs a)[0]? = some u := ⟨(cs a)[0]'(by rw [hs]; exact h0), by simp⟩
  obtain ⟨b, o, e, hb, _⟩ := h _ _ (flat_at hs hi hu0)
  refine ⟨b, o, e, hb, fun j u hj => ?_⟩
  obtain ⟨b', o', e', _, hc⟩ := h _ _ (flat_at hs hi hj)
  rw [e] at e'
  injection e' with e'
  injection e' with e1 e2
  subst e1 e2
  rw [Nat.add_assoc]
  exact hc
theorem RecsAt.below (h : RecsAt cs w B A xs) (hb : Below B w w') : RecsAt cs w' B A xs := Sl.below h hb
theorem RecsAt.more (h : RecsAt cs w B A xs) (hB : B ≤ B') : RecsAt cs w B' A xs := Sl.more h hB
theorem RecsAt.alloc (h : RecsAt cs w B A xs) (hB : B ≤ w.heap.size) (o : Obj) : RecsAt cs (w.alloc o) B A xs := Sl.alloc h hB o
theorem RecsAt.drewN (h : RecsAt cs w B A xs) (k : Nat) : RecsAt cs (w.drewN k) B A xs := h
theorem RecsAt.lit (w : World) (xs : List α) (t : TypeId) {n : Nat} (hn : n = w.heap.size) (vs : Array Value) (hv : vs = (xs.flatMap cs).toArray) : RecsAt cs (w.alloc (.cells vs t)) (w.alloc (.cells vs t)).heap.size (some ⟨n, 0, none⟩) xs := by
  subst hv
  exact Sl.lit w _ t hn
theorem RecsAt.empty : RecsAt cs w B A [] := Sl.empty

theorem OwnR.nil (w : World) (base : Nat) (e : TypeId) : OwnR cs s w base e (.slice none 0 0) [] := World.ownsRow_nil w base e s
theorem OwnR.sl (h : OwnR cs s w base e v xs) : ∃ A c, v = .slice A xs.length c ∧ RecsAt cs w w.heap.size A xs := by
  have h' := h
  obtain ⟨hl, h2⟩ := h
  rcases h2 with ⟨rfl, hn⟩ | ⟨g, cap, cur, rfl, hb, hh, hn, hm, hs, ht⟩
  · have : xs = [] := List.eq_nil_of_length_eq_zero hn
    subst this
    exact ⟨_, _, rfl, RecsAt.empty⟩
  · refine ⟨_, _, rfl, fun j u hj => ⟨g, 0, rfl, (Array.getElem?_eq_some_iff.1 hh).1, ?_⟩⟩
    have hj2 : j < xs.length * s := by rw [← hl]; exact (List.getElem?_eq_some_iff.1 hj).1
    have := World.ownsRow.cellAt h' j hj2
    simpa [hj] using this
theorem OwnR.caps {m c : Nat} (h : OwnR cs s w base e (.slice A m c) xs) : m = xs.length ∧ xs.length ≤ c ∧ c ≤ 9223372036854775807 ∧ (A = none → c = 0) := by
  rcases h.2 with ⟨e1, e2⟩ | ⟨g4, c4, cur4, e1, _, _, e2, e3, _⟩
  · injection e1 with e3 e4 e5
    subst e3 e4 e5
    exact ⟨by omega, by omega, by omega, fun _ => rfl⟩
  · injection e1 with e5 e6 e7
    subst e5 e6 e7
    exact ⟨rfl, e2, by unfold maxLen at e3; omega, fun h => by cases h⟩
theorem OwnR.alloc (h : OwnR cs s w base e v xs) (o : Obj) : OwnR cs s (w.alloc o) base e v xs := World.ownsRow.alloc h o
theorem OwnR.drewN (h : OwnR cs s w base e v xs) (k : Nat) : OwnR cs s (w.drewN k) base e v xs := h
theorem OwnR.ge_base (h : OwnR cs s w base e v xs) : ∀ k, v.ownBlock = some k → base ≤ k := fun k hk => (World.ownsRow.lt h k hk).1
theorem OwnR.lt_size (h : OwnR cs s w base e v xs) : ∀ k, v.ownBlock = some k → k < w.heap.size := fun k hk => (World.ownsRow.lt h k hk).2
theorem OwnR.kept_map (h : OwnR cs s w base e v xs) {b : Nat} (hg : w.grownBy w' (some b)) (hb : b < base) : OwnR cs s w' base e v xs := own_kept_map h hg hb
theorem OwnR.kept_new (h : OwnR cs s w base e v xs) (hg : Below w.heap.size w w') : OwnR cs s w' base e v xs := World.ownsRow.kept h (row := none) ⟨hg.os, hg.tape, hg.output, hg.size, fun k hk _ => hg.block k hk⟩ (by
  cases v.ownBlock with
  | none => exact .inl rfl
  | some k => exact .inr (by simp))
theorem OwnR.kept_far (h : OwnR cs s w base e v xs) {B : Nat} (hv : ∀ k, v.ownBlock = some k → k < B) {row : Option Nat} (hg : w.grownBy w' row) (hr : ∀ k, row = some k → B ≤ k) : OwnR cs s w' base e v xs := by
  refine World.ownsRow.kept h hg ?_
  cases hk : v.ownBlock with
  | none => exact .inl rfl
  | some k =>
    refine .inr fun e => ?_
    have h1 := hv k hk
    have h2 := hr k e.symm
    omega
theorem OwnR.base_le {base' : Nat} (h : OwnR cs s w base e v xs) (hb : base' ≤ base) : OwnR cs s w base' e v xs := by
  obtain ⟨hl, h2⟩ := h
  refine ⟨hl, ?_⟩
  rcases h2 with h2 | ⟨g, cap, cur, hv, hg, r⟩
  · exact .inl h2
  · exact .inr ⟨g, cap, cur, hv, Nat.le_trans hb hg, r⟩
theorem OwnR.setCell_other (h : OwnR cs s w base e v xs) {a : Addr} (ha : v.ownBlock ≠ some a.block) (u : Value) : OwnR cs s (w.setCell a u) base e v xs := ownsRow_setCell_other h ha u

/-- 'v = append(v, x)' at the operation, x a struct. -/
theorem wpList_append_rec {P : Program} (w : World) {ops : Array Oper} {rest : List Oper} {o : Oper} {a : Act} {Q : Exit → Act → World → Prop} (hgd : o.guard = none) (sl x : Operand) (t : TypeId)
    (ho : o.op = .call { callee := .builtin .append, args := #[sl, x], argTypes := #[t, t] })
    (base : Nat) (e : TypeId) (ht : P.underlying t = some (.slice e)) {z0 : Value} {by0 : Nat} (hinfo : (P.info? e).map (fun i => (i.zero, i.size, i.bytes)) = some (some z0, s, by0)) (hz0 : z0.cells.size = s) (h0 : 0 < s) (hby : by0 ≤ 256)
    (hs : ∀ a, (cs a).length = s) (v : Value) (xs : List α) (w0 : World) (z : α) (hone : ∀ u ∈ cs z, u.oneCell' = true) (vs : Array Value) (hvs : vs = (cs z).toArray) (hw : w = w0.alloc (.cells vs e)) (hv : a.eval sl = v) (hown : OwnR cs s w0 base e v xs)
    (nb : Nat) (hx : a.eval x = .slice (some ⟨nb, 0, none⟩) 1 1) (hnb : nb = w0.heap.size) (hlen : xs.length + 1 ≤ 549755813888) (hbase : base ≤ w0.heap.size)
    (h : ∀ v' w', OwnR cs s w' base e v' (xs ++ [z]) → w0.grownBy w' v.ownBlock → wpList P ops Q rest (a.put o.dst v') w') :
    wpList P ops Q (o :: rest) a w := by
  obtain ⟨i0, hi, hz1, hz2, hz3⟩ := info_parts hinfo
  subst hw hvs hnb
  have hcell : ∀ j u, (cs z)[j]? = some u → (w0.alloc (.cells (cs z).toArray e)).cell? ((⟨w0.heap.size, 0, none⟩ : Addr).add j) = some u := by
    intro j u hj
    rw [add_none, Nat.zero_add, World.cell?_alloc_at (hn := rfl)]
    simpa using hj
  refine wpList_append_own _ hgd sl x t ho base e i0 z0 s by0 ht hi hz1 hz2 hz3 hz0 h0 v xs.length _ hv (World.ownsRow.alloc hown _) ⟨w0.heap.size, 0, none⟩ 1 1 (cs z) hx (by rw [hs, Nat.one_mul]) hcell
    hone (by unfold maxLen; omega) ?_ (by simp; omega) ?_
  · have := Nat.mul_le_mul hlen hby
    omega
  intro v' w' h1 h2 _
  refine h v' w' ?_ ?_
  · unfold OwnR
    rw [List.length_append, List.length_singleton, List.flatMap_append]
    simpa using h1
  · exact (World.grownBy_alloc w0 _ _).trans h2
end
end Go.Proofs.YtakdkiggaalimaaGreatDoor
