/-
  More words for memory: append of a whole slice (nil, empty or not) onto a row of the call's own; cuts of a slice.
  No condition: plain lemmas over whatever program.
  Slices of structs as they lie in memory: each element a fixed number of cells; append of one element.
  No condition: plain lemmas over whatever program.
  From a walk to a law's row: whatever the arguments are, they read behind the call as before it, because nothing that was there has changed; and how an integer, a string and a slice of integers come in.
  Units as they lie in memory and come in.
-/
import Derived.Test.YtimijjhdgihobaaGreatDoorMqa
import Derived.Deep.AppendLies
import Derived.RegionTactic
import Derived.WalkLawsBesides
import Derived.WalkSpells
import Derived.BigGuardPart
import Derived.Deep.Light
import Derived.ProofKit
import Derived.OpenShut
import Derived.ShutString
import Derived.ChangeOld
import Derived.Carry
import Derived.SizedLaws
import Derived.Deep.Slices
import Derived.Deep.Fields
import Derived.Test.YtimijjhdgihobaaGreatDoorProg
namespace Go.Proofs.YtimijjhdgihobaaGreatDoor
section
open Go.RowKit Go.Maps

theorem add_none (b o j : Nat) : (⟨b, o, none⟩ : Addr).add j = ⟨b, o + j, none⟩ := by
  unfold Addr.add
  split
  · rename_i h
    subst h
    rfl
  · rfl

section
variable {w : World} {B : Nat} {A : Option Addr} {xs : List Value}
/-- 's[k:]' as the walk writes it. -/
theorem Sl.cut (h : Sl w B A xs) {k c : Nat} (hc : k < xs.length → k < c) : Sl w B (if c = k then A else A.map (fun a => a.add k)) (xs.drop k) := by
  intro j u hj
  rw [List.getElem?_drop] at hj
  obtain ⟨b, o, e, hb, hcell⟩ := h _ u hj
  have hk : k < xs.length := by have := (List.getElem?_eq_some_iff.1 hj).1; omega
  have := hc hk
  rw [if_neg (by omega), e]
  exact ⟨b, o + k, by simp [add_none], hb, by rw [Nat.add_assoc]; exact hcell⟩
theorem Sl.nil_of_none (h : Sl w B none xs) : xs = [] := by
  cases xs with
  | nil => rfl
  | cons x t =>
    obtain ⟨_, _, e, _⟩ := h 0 x rfl
    cases e
end

section
variable {α : Type} {f : α → Value} {P : Program} (w : World)
theorem run_append_sl (t ty e : TypeId) (ht : P.underlying t = some (.slice e)) {z0 : Value} {by0 : Nat} (hinfo : (P.info? e).map (fun i => (i.zero, i.size, i.bytes)) = some (some z0, 1, by0)) (hz0 : z0.cells.size = 1) (hby : by0 ≤ 32)
    (base : Nat) (v : Value) (zs : List α) (hown : OwnV f w base e v zs) (B : Nat) (A : Option Addr) (m c : Nat) (ys : List α) (hm : m = ys.length) (hnc : A = none → c = 0) (hs : Sl w B A (ys.map f)) (hone : ∀ y ∈ ys, (f y).oneCell' = true)
    (hlen : zs.length + ys.length ≤ 4398046511104) (hbase : base ≤ w.heap.size) :
    ∃ v' w', (Builtin.append_ #[t, t] ty #[v, .slice A m c]).run P w = .ok v' w' ∧ OwnV f w' base e v' (zs ++ ys) ∧ w.grownBy w' v.ownBlock := by
  obtain ⟨i0, hi, hz1, hz2, hz3⟩ := info_parts hinfo
  subst hm
  cases A with
  | none =>
    have hn := hs.nil_of_none
    have hy : ys = [] := by simpa using hn
    subst hy
    obtain rfl := hnc rfl
    exact ⟨v, w, run_append_owned_none (P := P) (w := w) base t ty e i0 1 ht hi v zs.length _ hown, by simpa using hown, World.grownBy.refl w _⟩
  | some ad =>
    have hcells : ∀ j u, (ys.map f)[j]? = some u → w.cell? (ad.add j) = some u := by
      intro j u hj
      obtain ⟨b, o, e, _, hc⟩ := hs j u hj
      injection e with e
      subst e
      rw [add_none]
      exact hc
    obtain ⟨v', w', hr, h2, h3, _⟩ := run_append_own (P := P) w base t ty e i0 z0 1 by0 ht hi hz1 hz2 hz3 hz0 (by decide) v zs.length _ hown ad ys.length c (ys.map f) (by simp) hcells
      (by intro u hu; simp at hu; obtain ⟨y, hy, rfl⟩ := hu; exact hone y hy) (by unfold maxLen; omega) (by have := Nat.mul_le_mul hlen hby; omega) hbase
    refine ⟨v', w', hr, ?_, h3⟩
    unfold OwnV
    simpa using h2

theorem wp_append_sl {o : Oper} {a : Act} {K : Act → World → Prop} {Q : Exit → Act → World → Prop} (s x : Operand) (t : TypeId)
    (ho : o.op = .call { callee := .builtin .append, args := #[s, x], argTypes := #[t, t] }) (e : TypeId) (ht : P.underlying t = some (.slice e)) {z0 : Value} {by0 : Nat} (hinfo : (P.info? e).map (fun i => (i.zero, i.size, i.bytes)) = some (some z0, 1, by0)) (hz0 : z0.cells.size = 1) (hby : by0 ≤ 32)
    (base : Nat) (v : Value) (zs : List α) (hv : a.eval s = v) (hown : OwnV f w base e v zs) (B : Nat) (A : Option Addr) (m c : Nat) (ys : List α) (hx : a.eval x = .slice A m c) (hm : m = ys.length) (hnc : A = none → c = 0) (hs : Sl w B A (ys.map f)) (hone : ∀ y ∈ ys, (f y).oneCell' = true)
    (hlen : zs.length + ys.length ≤ 4398046511104) (hbase : base ≤ w.heap.size)
    (h : ∀ v' w', OwnV f w' base e v' (zs ++ ys) → w.grownBy w' v.ownBlock → K (a.put o.dst v') w') : o.wp P a w K Q := by
  obtain ⟨v', w', hrun, h2, h3⟩ := run_append_sl w t o.type e ht hinfo hz0 hby base v zs hown B A m c ys hm hnc hs hone hlen hbase
  unfold Oper.wp execOp
  simp only [ho, resolve, invoke, builtin, Sem.run_bind, Sem.run_pure, Result.andThen_ok, List.map_toArray, List.map_cons, List.map_nil, hv, hx, hrun]
  exact h v' w' h2 h3

theorem wpList_append_sl {ops : Array Oper} {rest : List Oper} {o : Oper} {a : Act} {Q : Exit → Act → World → Prop} (hw : Region.wanted o (yielded ops a.tmps) = true) (s x : Operand) (t : TypeId)
    (ho : o.op = .call { callee := .builtin .append, args := #[s, x], argTypes := #[t, t] }) (e : TypeId) (ht : P.underlying t = some (.slice e)) {z0 : Value} {by0 : Nat} (hinfo : (P.info? e).map (fun i => (i.zero, i.size, i.bytes)) = some (some z0, 1, by0)) (hz0 : z0.cells.size = 1) (hby : by0 ≤ 32)
    (base : Nat) (v : Value) (zs : List α) (hv : a.eval s = v) (hown : OwnV f w base e v zs) (B : Nat) (A : Option Addr) (m c : Nat) (ys : List α) (hx : a.eval x = .slice A m c) (hm : m = ys.length) (hnc : A = none → c = 0) (hs : Sl w B A (ys.map f)) (hone : ∀ y ∈ ys, (f y).oneCell' = true)
    (hlen : zs.length + ys.length ≤ 4398046511104) (hbase : base ≤ w.heap.size)
    (h : ∀ v' w', OwnV f w' base e v' (zs ++ ys) → w.grownBy w' v.ownBlock → wpList P ops Q rest (a.put o.dst v') w') : wpList P ops Q (o :: rest) a w :=
  BigFrame.wpList_want hw fun _ hK => wp_append_sl w s x t ho e ht hinfo hz0 hby base v zs hv hown B A m c ys hx hm hnc hs hone hlen hbase fun v' w' h2 h3 => hK _ _ (h v' w' h2 h3)

theorem step_append_sl {ops : Array Oper} {o : Oper} {a : Act} {K : Act → World → Prop} {Q : Exit → Act → World → Prop} {E : Prop} (hw : Region.wanted o (yielded ops a.tmps) = true) (s x : Operand) (t : TypeId)
    (ho : o.op = .call { callee := .builtin .append, args := #[s, x], argTypes := #[t, t] }) (e : TypeId) (ht : P.underlying t = some (.slice e)) {z0 : Value} {by0 : Nat} (hinfo : (P.info? e).map (fun i => (i.zero, i.size, i.bytes)) = some (some z0, 1, by0)) (hz0 : z0.cells.size = 1) (hby : by0 ≤ 32)
    (base : Nat) (v : Value) (zs : List α) (hv : a.eval s = v) (hown : OwnV f w base e v zs) (B : Nat) (A : Option Addr) (m c : Nat) (ys : List α) (hx : a.eval x = .slice A m c) (hm : m = ys.length) (hnc : A = none → c = 0) (hs : Sl w B A (ys.map f)) (hone : ∀ y ∈ ys, (f y).oneCell' = true)
    (hlen : zs.length + ys.length ≤ 4398046511104) (hbase : base ≤ w.heap.size)
    (h : ∀ v' w', OwnV f w' base e v' (zs ++ ys) → w.grownBy w' v.ownBlock → K (a.put o.dst v') w') : if Region.wanted o (yielded ops a.tmps) = true then Oper.wp P o a w K Q else E := by
  rw [if_pos hw]
  exact wp_append_sl w s x t ho e ht hinfo hz0 hby base v zs hv hown B A m c ys hx hm hnc hs hone hlen hbase h
end

/-- 's[k:]' at the operation: the new slice under names of its own. -/
theorem wpList_cut {P : Program} (w : World) {ops : Array Oper} {rest : List Oper} {o : Oper} {a : Act} {Q : Exit → Act → World → Prop} (hw : Region.wanted o (yielded ops a.tmps) = true) (x lo : Operand) (t : TypeId)
    (ho : o.op = .slice t x (some lo) none none) (e : TypeId) (ht : P.underlying t = some (.slice e)) (hel : P.elem t = e) (hsz : (sizeOf e).run P w = .ok 1 w) (A : Option Addr) (n c : Nat) (k : Nat) (hx : a.eval x = .slice A n c) (hlo : a.eval lo = .int .i64 k) (hk : k ≤ n) (B : Nat) (xs : List Value) (hs : Sl w B A xs) (hkc : k < xs.length → k < c)
    (h : ∀ A' c', Sl w B A' (xs.drop k) → c' ≤ c → c ≤ c' + k → (A = none → A' = none) → (A' = none → A = none) → wpList P ops Q rest (a.put o.dst (.slice A' (n - k) c')) w) : wpList P ops Q (o :: rest) a w := by
  refine BigFrame.wpList_want hw fun K hK => ?_
  have hrun := run_slice_l (P := P) w t A n c (by rw [hel]; exact ht) .i64 (k : Int) (by omega) (by omega)
  rw [hel, hsz] at hrun
  simp only [Result.andThen, sliced, Int.toNat_natCast, Nat.mul_one] at hrun
  unfold Oper.wp execOp
  simp [ho, hx, hlo, run_sliceAt_slice, hel, ht, hrun, Result.andThen]
  refine hK _ _ (h _ _ (hs.cut hkc) (by omega) (by omega) ?_ ?_)
  · rintro rfl
    split <;> rfl
  · intro q
    split at q
    · exact q
    · cases A with
      | none => rfl
      | some a => cases q

/-- a row that the call laid whole. -/
theorem OwnV.lit {α : Type} {f : α → Value} (w : World) (base : Nat) (e : TypeId) (zs : List α) {n : Nat} (hn : n = w.heap.size) (hb : base ≤ n) (hm : zs.length ≤ 4398046511104) (cs : Array Value) (hcs : cs = (zs.map f).toArray) :
    OwnV f (w.alloc (.cells cs e)) base e (.slice (some ⟨n, 0, none⟩) zs.length zs.length) zs := by
  subst hn hcs
  have := World.ownsRow_lit (base := base) (e := e) (size := 1) w (zs.map f).toArray zs.length hb (by unfold maxLen; omega) (by simp)
  unfold OwnV
  simpa using this
end
section
open Go.RowKit Go.Maps

section
variable {α : Type} {cs : α → List Value} {s : Nat}
theorem flat_len (hs : ∀ a, (cs a).length = s) (xs : List α) : (xs.flatMap cs).length = xs.length * s := by
  induction xs with
  | nil => simp
  | cons x xs ih =>
    rw [List.flatMap_cons, List.length_append, ih, hs, List.length_cons, Nat.add_mul]
    omega
theorem flat_at (hs : ∀ a, (cs a).length = s) : ∀ {xs : List α} {i : Nat} {a : α}, xs[i]? = some a → ∀ {j : Nat} {u : Value}, (cs a)[j]? = some u → (xs.flatMap cs)[i * s + j]? = some u
  | [], i, a, h, _, _, _ => by simp at h
  | x :: xs, 0, a, h, j, u, hj => by
    simp only [List.getElem?_cons_zero, Option.some.injEq] at h
    subst h
    rw [List.flatMap_cons, Nat.zero_mul, Nat.zero_add, List.getElem?_append_left (List.getElem?_eq_some_iff.1 hj).1]
    exact hj
  | x :: xs, i + 1, a, h, j, u, hj => by
    have ih := flat_at hs (xs := xs) (i := i) (a := a) (by simpa using h) hj
    rw [List.flatMap_cons, List.getElem?_append_right (by rw [hs, Nat.add_mul]; omega), hs]
    have e : (i + 1) * s + j - s = i * s + j := by rw [Nat.add_mul]; omega
    rw [e]
    exact ih

/-- the records xs lie at A, below B. -/
def RecsAt (cs : α → List Value) (w : World) (B : Nat) (A : Option Addr) (xs : List α) : Prop := Sl w B A (xs.flatMap cs)
/-- v owns the records xs. -/
def OwnR (cs : α → List Value) (s : Nat) (w : World) (base : Nat) (e : TypeId) (v : Value) (xs : List α) : Prop := w.ownsRow base e s v xs.length (xs.flatMap cs)

variable {w w' : World} {B B' base : Nat} {A : Option Addr} {xs : List α} {e : TypeId} {v : Value}
theorem RecsAt.at (hs : ∀ a, (cs a).length = s) (h : RecsAt cs w B A xs) {i : Nat} {a : α} (hi : xs[i]? = some a) (h0 : 0 < s) : ∃ b o, A = some ⟨b, o, none⟩ ∧ b < B ∧ ∀ (j : Nat) (u : Value), (cs a)[j]? = some u → w.cell? ⟨b, o + i * s + j, none⟩ = some u := by
  obtain ⟨u0, hu0⟩ : ∃ u, (cs a)[0]? = some u := ⟨(cs a)[0]'(by rw [hs]; exact h0), by simp⟩
  obtain ⟨b, o, e, hb, _⟩ := h _ _ (flat_at hs hi hu0)
  refine ⟨b, o, e, hb, fun j u hj => ?_⟩
  obtain ⟨b', o', e', _, hc⟩ := h _ _ (flat_at hs hi hj)
  rw [e] at e'
  injection e' with e'
  injection e' with e1 e2
  subst e1 e2
  rw [Nat.add_assoc]
  exact hc
theorem RecsAt.below (h : RecsAt cs w B A xs) (hb : Below B w w') : RecsAt cs w' B A xs := Sl.below h hb
theorem RecsAt.more (h : RecsAt cs w B A xs) (hB : B ≤ B') : RecsAt cs w B' A xs := Sl.more h hB
theorem RecsAt.alloc (h : RecsAt cs w B A xs) (hB : B ≤ w.heap.size) (o : Obj) : RecsAt cs (w.alloc o) B A xs := Sl.alloc h hB o
theorem RecsAt.drewN (h : RecsAt cs w B A xs) (k : Nat) : RecsAt cs (w.drewN k) B A xs := h
theorem RecsAt.lit (w : World) (xs : List α) (t : TypeId) {n : Nat} (hn : n = w.heap.size) (vs : Array Value) (hv : vs = (xs.flatMap cs).toArray) : RecsAt cs (w.alloc (.cells vs t)) (w.alloc (.cells vs t)).heap.size (some ⟨n, 0, none⟩) xs := by
  subst hv
  exact Sl.lit w _ t hn
theorem RecsAt.empty : RecsAt cs w B A [] := Sl.empty

theorem OwnR.nil (w : World) (base : Nat) (e : TypeId) : OwnR cs s w base e (.slice none 0 0) [] := World.ownsRow_nil w base e s
theorem OwnR.sl (h : OwnR cs s w base e v xs) : ∃ A c, v = .slice A xs.length c ∧ RecsAt cs w w.heap.size A xs := by
  have h' := h
  obtain ⟨hl, h2⟩ := h
  rcases h2 with ⟨rfl, hn⟩ | ⟨g, cap, cur, rfl, hb, hh, hn, hm, hs, ht⟩
  · have : xs = [] := List.eq_nil_of_length_eq_zero hn
    subst this
    exact ⟨_, _, rfl, RecsAt.empty⟩
  · refine ⟨_, _, rfl, fun j u hj => ⟨g, 0, rfl, (Array.getElem?_eq_some_iff.1 hh).1, ?_⟩⟩
    have hj2 : j < xs.length * s := by rw [← hl]; exact (List.getElem?_eq_some_iff.1 hj).1
    have := World.ownsRow.cellAt h' j hj2
    simpa [hj] using this
theorem OwnR.caps {m c : Nat} (h : OwnR cs s w base e (.slice A m c) xs) : m = xs.length ∧ xs.length ≤ c ∧ c ≤ 9223372036854775807 ∧ (A = none → c = 0) := by
  rcases h.2 with ⟨e1, e2⟩ | ⟨g4, c4, cur4, e1, _, _, e2, e3, _⟩
  · injection e1 with e3 e4 e5
    subst e3 e4 e5
    exact ⟨by omega, by omega, by omega, fun _ => rfl⟩
  · injection e1 with e5 e6 e7
    subst e5 e6 e7
    exact ⟨rfl, e2, by unfold maxLen at e3; omega, fun h => by cases h⟩
theorem OwnR.alloc (h : OwnR cs s w base e v xs) (o : Obj) : OwnR cs s (w.alloc o) base e v xs := World.ownsRow.alloc h o
theorem OwnR.drewN (h : OwnR cs s w base e v xs) (k : Nat) : OwnR cs s (w.drewN k) base e v xs := h
theorem OwnR.ge_base (h : OwnR cs s w base e v xs) : ∀ k, v.ownBlock = some k → base ≤ k := fun k hk => (World.ownsRow.lt h k hk).1
theorem OwnR.lt_size (h : OwnR cs s w base e v xs) : ∀ k, v.ownBlock = some k → k < w.heap.size := fun k hk => (World.ownsRow.lt h k hk).2
theorem OwnR.kept_map (h : OwnR cs s w base e v xs) {b : Nat} (hg : w.grownBy w' (some b)) (hb : b < base) : OwnR cs s w' base e v xs := own_kept_map h hg hb
theorem OwnR.kept_new (h : OwnR cs s w base e v xs) (hg : Below w.heap.size w w') : OwnR cs s w' base e v xs := World.ownsRow.kept h (row := none) ⟨hg.os, hg.tape, hg.output, hg.size, fun k hk _ => hg.block k hk⟩ (by
  cases v.ownBlock with
  | none => exact .inl rfl
  | some k => exact .inr (by simp))
theorem OwnR.kept_far (h : OwnR cs s w base e v xs) {B : Nat} (hv : ∀ k, v.ownBlock = some k → k < B) {row : Option Nat} (hg : w.grownBy w' row) (hr : ∀ k, row = some k → B ≤ k) : OwnR cs s w' base e v xs := by
  refine World.ownsRow.kept h hg ?_
  cases hk : v.ownBlock with
  | none => exact .inl rfl
  | some k =>
    refine .inr fun e => ?_
    have h1 := hv k hk
    have h2 := hr k e.symm
    omega
theorem OwnR.base_le {base' : Nat} (h : OwnR cs s w base e v xs) (hb : base' ≤ base) : OwnR cs s w base' e v xs := by
  obtain ⟨hl, h2⟩ := h
  refine ⟨hl, ?_⟩
  rcases h2 with h2 | ⟨g, cap, cur, hv, hg, r⟩
  · exact .inl h2
  · exact .inr ⟨g, cap, cur, hv, Nat.le_trans hb hg, r⟩
theorem OwnR.setCell_other (h : OwnR cs s w base e v xs) {a : Addr} (ha : v.ownBlock ≠ some a.block) (u : Value) : OwnR cs s (w.setCell a u) base e v xs := ownsRow_setCell_other h ha u

/-- 'v = append(v, x)' at the operation, x a struct. -/
theorem wpList_append_rec {P : Program} (w : World) {ops : Array Oper} {rest : List Oper} {o : Oper} {a : Act} {Q : Exit → Act → World → Prop} (hgd : o.guard = none) (sl x : Operand) (t : TypeId)
    (ho : o.op = .call { callee := .builtin .append, args := #[sl, x], argTypes := #[t, t] })
    (base : Nat) (e : TypeId) (ht : P.underlying t = some (.slice e)) {z0 : Value} {by0 : Nat} (hinfo : (P.info? e).map (fun i => (i.zero, i.size, i.bytes)) = some (some z0, s, by0)) (hz0 : z0.cells.size = s) (h0 : 0 < s) (hby : by0 ≤ 256)
    (hs : ∀ a, (cs a).length = s) (v : Value) (xs : List α) (w0 : World) (z : α) (hone : ∀ u ∈ cs z, u.oneCell' = true) (vs : Array Value) (hvs : vs = (cs z).toArray) (hw : w = w0.alloc (.cells vs e)) (hv : a.eval sl = v) (hown : OwnR cs s w0 base e v xs)
    (nb : Nat) (hx : a.eval x = .slice (some ⟨nb, 0, none⟩) 1 1) (hnb : nb = w0.heap.size) (hlen : xs.length + 1 ≤ 549755813888) (hbase : base ≤ w0.heap.size)
    (h : ∀ v' w', OwnR cs s w' base e v' (xs ++ [z]) → w0.grownBy w' v.ownBlock → wpList P ops Q rest (a.put o.dst v') w') :
    wpList P ops Q (o :: rest) a w := by
  obtain ⟨i0, hi, hz1, hz2, hz3⟩ := info_parts hinfo
  subst hw hvs hnb
  have hcell : ∀ j u, (cs z)[j]? = some u → (w0.alloc (.cells (cs z).toArray e)).cell? ((⟨w0.heap.size, 0, none⟩ : Addr).add j) = some u := by
    intro j u hj
    rw [add_none, Nat.zero_add, World.cell?_alloc_at (hn := rfl)]
    simpa using hj
  refine wpList_append_own _ hgd sl x t ho base e i0 z0 s by0 ht hi hz1 hz2 hz3 hz0 h0 v xs.length _ hv (World.ownsRow.alloc hown _) ⟨w0.heap.size, 0, none⟩ 1 1 (cs z) hx (by rw [hs, Nat.one_mul]) hcell
    hone (by unfold maxLen; omega) ?_ (by simp; omega) ?_
  · have := Nat.mul_le_mul hlen hby
    omega
  intro v' w' h1 h2 _
  refine h v' w' ?_ ?_
  · unfold OwnR
    rw [List.length_append, List.length_singleton, List.flatMap_append]
    simpa using h1
  · exact (World.grownBy_alloc w0 _ _).trans h2
end
end
section
open Go.ChangeShapes Go.WideShapes Go.ChangeAt Go.RowKit
open Go.ChangeMaps (open_string shut_string)

section
variable {H : Type} {enc : TypeId × Value → H} {P : Program}

theorem trodAll_below (hl : laidOutB P = true) {W W' : World} (hb : Below W.heap.size W W') : ∀ (ts : List TypeId) (vs : List Value) (ds : List (DataW H)) (ps : List MemPlace),
    (ts.all fun t => P.readableRec t && decide (t < P.types.size)) = true → DataW.TrodAll enc P W 0 (fun _ => true) true ts vs ds ps → DataW.TrodAll enc P W' 0 (fun b => decide (b < W.heap.size)) true ts vs ds ps
  | [], vs, ds, ps, _, h => by cases vs <;> cases ds <;> simp [DataW.TrodAll] at h ⊢ <;> exact h
  | t :: ts, vs, ds, ps, ha, h => by
    obtain ⟨v, vs', d, ds', p, q, rfl, rfl, rfl, h1, h2⟩ := trodAll_cons h
    simp only [List.all_cons, Bool.and_eq_true, decide_eq_true_eq] at ha
    refine trodAll_cons_mk (Below.trod hl ha.1.1 ha.1.2 h1 hb ?_) (trodAll_below hl hb ts vs' ds' q ha.2 h2)
    obtain ⟨m, hm⟩ := h1
    exact DataW.trod_lt m _ _ _ hm

/-- THE LAST STEP OF A LAW: it has returned true, and what was there is as it was. -/
theorem law_post {f : Func} {s : ChangeSpec} {W W' : World} {args : Array Value} {ds gs : List (DataW H)} {before : List MemPlace} {tb : TypeId}
    (hl : laidOutB P = true) (hr : (f.params.toList.all fun t => P.readableRec t && decide (t < P.types.size)) = true) (hres : f.resultTypes = #[tb]) (hbool : P.underlying tb = some .bool) (hv : s.vars = [])
    (hW : DataW.Whole enc P f.params.toList s.vars false W args.toList ds gs before)
    (h1 : (s.fn H (ds ++ gs)).results = [.lit (.bool true)]) (h2 : (s.fn H (ds ++ gs)).args = ds) (h3 : (s.fn H (ds ++ gs)).vars = []) (hb : Below W.heap.size W W') :
    s.post enc P f false true false false W args (.bool true) W' := by
  have hW' := hW
  obtain ⟨p, q, hA, hV, hp, _, _⟩ := hW
  refine ⟨ds, gs, before, [], p, [], hW', ?_, ?_, ?_, hb.frame _, fun h => by cases h⟩
  · rw [hres, h1]
    exact trodAll_mk1 (shut_bool hbool _)
  · rw [h2]
    exact trodAll_below hl hb _ _ _ _ hr hA
  · rw [hv, h3]
    exact rfl

theorem add_at {w : World} {a : Addr} {n : Nat} {u : Value} (h : w.cell? (a.add n) = some u) (h0 : a.spot = none) : w.cell? ⟨a.block, a.off + n, none⟩ = some u := by
  have : a.add n = ⟨a.block, a.off + n, none⟩ := by
    unfold Addr.add
    split
    · rename_i hn
      subst hn
      cases a
      simp at h0
      simp [h0]
    · rfl
  rw [this] at h
  exact h

/-- A slice of integers, its one cell read. -/
theorem ints_field {W : World} {t e : TypeId} {k : IntKind} {v : Value} {x : DataW H × List MemPlace} {base fuel : Nat} {spare : Nat → Bool} {held : Bool}
    (ht : P.underlying t = some (.slice e)) (he : P.underlying e = some (.int k)) (hc : P.cellsOf e = 1) (hf : DataW.trod enc P W base spare held fuel t [v] = some x) :
    ∃ (A : Option Addr) (zs : List Int) (cap : Nat), v = .slice A zs.length cap ∧ Sl W W.heap.size A (zs.map (Value.int k)) ∧ (∀ z ∈ zs, (Lit.int k z).wf = true) ∧ zs.length ≤ cap ∧ cap ≤ 9223372036854775807 ∧ (A = none → cap = 0) := by
  rcases open_ints ht he hc hf with ⟨hcs, _⟩ | ⟨x, len, cap, zs, hcs, _, hlc, hm, hz, _, hcell, hwz⟩
  · simp at hcs
    subst hcs
    exact ⟨none, [], 0, rfl, Sl.empty, by simp, by simp, by omega, fun _ => rfl⟩
  · simp at hcs
    subst hcs
    have hll : len ≤ zs.length := by
      rw [hz]
      split <;> omega
    have hlt : (zs.take len).length = len := by simp; omega
    refine ⟨some x, zs.take len, cap, by rw [hlt], ?_, fun z h => hwz z (List.mem_of_mem_take h), by omega, by unfold maxLen at hm; omega, fun h => by cases h⟩
    intro j u hj
    have hj1 : j < len := by
      have := (List.getElem?_eq_some_iff.1 hj).1
      simp at this
      omega
    have h0 := hcell 0 (by omega)
    have hs0 : x.spot = none := by simpa [Addr.add] using World.cell?_spot h0
    have h1 := hcell j (by omega)
    refine ⟨x.block, x.off, by cases x; simp at hs0; simp [hs0], ?_, ?_⟩
    · have h2 := World.block_lt_of_cell? W _ h0
      simpa [Addr.add] using h2
    · have h3 := add_at h1 hs0
      rw [h3]
      rw [List.getElem?_map, List.getElem?_take, if_pos hj1] at hj
      have hjz : j < zs.length := by omega
      rw [List.getElem?_eq_getElem hjz] at hj
      simp at hj
      rw [← hj]
      simp [hjz]

/-- A slice of integers that came in. -/
theorem open_sl {W : World} {r : Reach} {b0 : Nat} {t e : TypeId} {k : IntKind} {v : Value} {d : DataW H} {p : List MemPlace} {base : Nat} {spare : Nat → Bool} {held : Bool}
    (ht : P.underlying t = some (.slice e)) (he : P.underlying e = some (.int k)) (hc : P.cellsOf e = 1) (hv : Value.okWide P W r b0 t v) (h : DataW.Trod enc P W base spare held t v d p) :
    ∃ (A : Option Addr) (zs : List Int) (cap : Nat), v = .slice A zs.length cap ∧ Sl W W.heap.size A (zs.map (Value.int k)) ∧ (∀ z ∈ zs, (Lit.int k z).wf = true) ∧ zs.length ≤ cap ∧ cap ≤ 9223372036854775807 ∧ (A = none → cap = 0) := by
  obtain ⟨A, len, cap, rfl⟩ := okWide_slice ht hv
  obtain ⟨fuel, hf⟩ := h
  exact ints_field ht he hc (by simpa [Value.cells] using hf)

/-- A slice of structs (one cell a field), its one cell read: for each element and each field the cell and its own reading. -/
theorem recs_field {W : World} {t e : TypeId} {fs : Array Field} {v : Value} {x : DataW H × List MemPlace} {base fuel : Nat} {spare : Nat → Bool} {held : Bool}
    (ht : P.underlying t = some (.slice e)) (he : P.underlying e = some (.struct fs)) (hone : Go.Deep.oneCellFields P fs = true) (hC : P.cellsOf e = fs.size) (hpos : 0 < fs.size) (hf : DataW.trod enc P W base spare held fuel t [v] = some x) :
    ∃ (A : Option Addr) (n cap : Nat), v = .slice A n cap ∧ n ≤ cap ∧ cap ≤ 9223372036854775807 ∧ (A = none → cap = 0) ∧
      ∀ i, i < n → ∃ b o, A = some ⟨b, o, none⟩ ∧ b < W.heap.size ∧ ∀ (j : Nat) (f : Field), fs[j]? = some f → ∃ (u : Value) (y : DataW H × List MemPlace) (m : Nat), W.cell? ⟨b, o + i * fs.size + j, none⟩ = some u ∧ DataW.trod enc P W base spare held m f.type [u] = some y := by
  rcases Go.Deep.open_slice ht hf with ⟨hcs, _⟩ | ⟨a, len, cap, m, n, D, Pl, hcs, hb, hl, hm, hmm, hx, hi⟩
  · simp at hcs
    subst hcs
    exact ⟨none, 0, 0, rfl, by omega, by omega, fun _ => rfl, fun i h => absurd h (by omega)⟩
  · simp at hcs
    subst hcs
    refine ⟨some a, len, cap, rfl, hl, by unfold maxLen at hm; omega, (fun h => by cases h), fun i hil => ?_⟩
    have hml : len ≤ m := by
      rw [hmm]
      split <;> omega
    have key : ∀ i, i < len → ∀ (j : Nat) (f : Field), fs[j]? = some f → ∃ (u : Value) (y : DataW H × List MemPlace) (q : Nat), W.cell? (a.add (i * fs.size + j)) = some u ∧ DataW.trod enc P W base spare held q f.type [u] = some y := by
      intro i hi2 j f hj
      obtain ⟨cs', hc, ht'⟩ := hi i (by omega)
      rw [hC] at hc
      obtain ⟨ys, n', _, _, hlen, hyl, hg⟩ := DataW.trod_struct he ht'
      obtain ⟨_, hcl, hat⟩ := World.cells?_some hc
      obtain ⟨ho, hk⟩ := Go.Deep.hone_of hone j f hj
      have hjl : j < fs.size := (Array.getElem?_eq_some_iff.1 hj).1
      have hcell := hat j hjl
      have h1 := hg j f hj
      rw [ho, hk] at h1
      have hone' : (cs'.drop j).take 1 = [cs'[j]'(by omega)] := by
        rw [List.drop_eq_getElem_cons (by omega)]
        rfl
      rw [hone'] at h1
      refine ⟨cs'[j]'(by omega), ys[j]'(by omega), n', ?_, h1.trans (List.getElem?_eq_getElem (by omega))⟩
      rw [← Go.Deep.add_add, hcell]
      exact List.getElem?_eq_getElem (by omega)
    obtain ⟨u0, _, _, hu0, _⟩ := key 0 (by omega) 0 fs[0] (by simp)
    have hs0 : a.spot = none := by simpa [Addr.add] using World.cell?_spot hu0
    refine ⟨a.block, a.off, by cases a; simp at hs0; simp [hs0], ?_, fun j f hj => ?_⟩
    · have h2 := World.block_lt_of_cell? W _ hu0
      simpa [Addr.add] using h2
    · obtain ⟨u, y, q, hu, hy⟩ := key i hil j f hj
      refine ⟨u, y, q, ?_, hy⟩
      have := add_at hu hs0
      rw [Nat.add_assoc]
      exact this
end
end
section
open Go.ChangeShapes Go.WideShapes Go.ChangeAt Go.RowKit

structure UnitT where
  id : Int
  kind : Int
  home : Int
  state : Int
  node : Int
  seq : Int
  heard : Int
  inc : Int
  epoch : Int
  acked : Int
def cellsU (u : UnitT) : List Value := [.int .i64 u.id, .int .i64 u.kind, .int .i64 u.home, .int .i64 u.state, .int .i64 u.node, .int .i64 u.seq, .int .i64 u.heard, .int .i64 u.inc, .int .i64 u.epoch, .int .i64 u.acked]
theorem cellsU_len (u : UnitT) : (cellsU u).length = 10 := rfl
theorem cellsU_one (u : UnitT) : ∀ v ∈ cellsU u, v.oneCell' = true := by
  intro v hv
  simp only [cellsU, List.mem_cons, List.not_mem_nil, or_false] at hv
  rcases hv with rfl | rfl | rfl | rfl | rfl | rfl | rfl | rfl | rfl | rfl <;> rfl
abbrev UnitsAt := RecsAt cellsU
abbrev OwnU := OwnR cellsU 10
theorem unit_info : (Tryz.prog.info? 43).map (fun i => (i.zero, i.size, i.bytes)) = some (some (.agg #[.int .i64 0, .int .i64 0, .int .i64 0, .int .i64 0, .int .i64 0, .int .i64 0, .int .i64 0, .int .i64 0, .int .i64 0, .int .i64 0]), 10, 80) := by kernel_rfl

theorem unit_cells {w : World} {b o : Nat} {u : UnitT} (h : ∀ (j : Nat) (v : Value), (cellsU u)[j]? = some v → w.cell? ⟨b, o + j, none⟩ = some v) :
    w.cell? ⟨b, o, none⟩ = some (.int .i64 u.id) ∧ w.cell? ⟨b, o + 1, none⟩ = some (.int .i64 u.kind) ∧ w.cell? ⟨b, o + 2, none⟩ = some (.int .i64 u.home) ∧ w.cell? ⟨b, o + 3, none⟩ = some (.int .i64 u.state) ∧ w.cell? ⟨b, o + 4, none⟩ = some (.int .i64 u.node) ∧
    w.cell? ⟨b, o + 5, none⟩ = some (.int .i64 u.seq) ∧ w.cell? ⟨b, o + 6, none⟩ = some (.int .i64 u.heard) ∧ w.cell? ⟨b, o + 7, none⟩ = some (.int .i64 u.inc) ∧ w.cell? ⟨b, o + 8, none⟩ = some (.int .i64 u.epoch) ∧ w.cell? ⟨b, o + 9, none⟩ = some (.int .i64 u.acked) :=
  ⟨h 0 _ rfl, h 1 _ rfl, h 2 _ rfl, h 3 _ rfl, h 4 _ rfl, h 5 _ rfl, h 6 _ rfl, h 7 _ rfl, h 8 _ rfl, h 9 _ rfl⟩
theorem unit_at {w : World} {B : Nat} {A : Option Addr} {us : List UnitT} (h : UnitsAt w B A us) {i : Nat} {u : UnitT} (hi : us[i]? = some u) : ∃ b o, A = some ⟨b, o, none⟩ ∧ b < B ∧ w.cell? ⟨b, o + i * 10, none⟩ = some (.int .i64 u.id) ∧ w.cell? ⟨b, o + i * 10 + 1, none⟩ = some (.int .i64 u.kind) ∧ w.cell? ⟨b, o + i * 10 + 2, none⟩ = some (.int .i64 u.home) ∧ w.cell? ⟨b, o + i * 10 + 3, none⟩ = some (.int .i64 u.state) ∧ w.cell? ⟨b, o + i * 10 + 4, none⟩ = some (.int .i64 u.node) ∧
    w.cell? ⟨b, o + i * 10 + 5, none⟩ = some (.int .i64 u.seq) ∧ w.cell? ⟨b, o + i * 10 + 6, none⟩ = some (.int .i64 u.heard) ∧ w.cell? ⟨b, o + i * 10 + 7, none⟩ = some (.int .i64 u.inc) ∧ w.cell? ⟨b, o + i * 10 + 8, none⟩ = some (.int .i64 u.epoch) ∧ w.cell? ⟨b, o + i * 10 + 9, none⟩ = some (.int .i64 u.acked) := by
  obtain ⟨b, o, e, hb, hc⟩ := RecsAt.at cellsU_len h hi (by omega)
  exact ⟨b, o, e, hb, unit_cells hc⟩

structure UnitWf (u : UnitT) : Prop where
  kind : (Lit.int .i64 u.kind).wf = true
  home : (Lit.int .i64 u.home).wf = true
  node : (Lit.int .i64 u.node).wf = true
  inc : (Lit.int .i64 u.inc).wf = true

theorem list_of' {α : Type} (R : Nat → α → Prop) : ∀ n, (∀ i, i < n → ∃ x, R i x) → ∃ l : List α, l.length = n ∧ ∀ i x, l[i]? = some x → R i x := by
  intro n
  induction n with
  | zero => intro _; exact ⟨[], rfl, fun i x h => by simp at h⟩
  | succ n ih =>
    intro h
    obtain ⟨l, hl, hR⟩ := ih (fun i hi => h i (by omega))
    obtain ⟨x, hx⟩ := h n (by omega)
    refine ⟨l ++ [x], by simp [hl], fun i y hy => ?_⟩
    by_cases hi : i < l.length
    · rw [List.getElem?_append_left hi] at hy
      exact hR i y hy
    · have hlt : i < (l ++ [x]).length := (List.getElem?_eq_some_iff.1 hy).1
      simp at hlt
      have : i = l.length := by omega
      subst this
      simp at hy
      subst hy
      rw [hl]
      exact hx

/-- from cells read one by one to the whole row. -/
theorem recsAt_of {α : Type} {cs : α → List Value} {s : Nat} (hs : ∀ a, (cs a).length = s) (h0 : 0 < s) {w : World} {B : Nat} {A : Option Addr} {xs : List α}
    (h : ∀ (i : Nat) (a : α), xs[i]? = some a → ∃ b o, A = some ⟨b, o, none⟩ ∧ b < B ∧ ∀ (j : Nat) (u : Value), (cs a)[j]? = some u → w.cell? ⟨b, o + i * s + j, none⟩ = some u) : RecsAt cs w B A xs := by
  intro j u hj
  have hl := (List.getElem?_eq_some_iff.1 hj).1
  rw [flat_len hs] at hl
  have hi : j / s < xs.length := Nat.div_lt_of_lt_mul (by rw [Nat.mul_comm]; exact hl)
  obtain ⟨a, ha⟩ : ∃ a, xs[j / s]? = some a := ⟨xs[j / s], by simp⟩
  obtain ⟨b, o, e, hb, hc⟩ := h _ a ha
  have hm : j % s < s := Nat.mod_lt _ h0
  obtain ⟨v, hv⟩ : ∃ v, (cs a)[j % s]? = some v := ⟨(cs a)[j % s]'(by rw [hs]; exact hm), by simp⟩
  have h1 := flat_at hs ha hv
  have e2 : j / s * s + j % s = j := by rw [Nat.mul_comm]; exact Nat.div_add_mod j s
  rw [e2, hj] at h1
  cases h1
  have := hc _ _ hv
  rw [Nat.add_assoc, e2] at this
  exact ⟨b, o, e, hb, this⟩

section
variable {H : Type} {enc : TypeId × Value → H}
set_option maxRecDepth 100000 in
/-- A slice of units, its one cell read. -/
theorem units_field {W : World} {v : Value} {x : DataW H × List MemPlace} {base fuel : Nat} {spare : Nat → Bool} {held : Bool}
    (hf : DataW.trod enc Tryz.prog W base spare held fuel 27 [v] = some x) :
    ∃ (A : Option Addr) (us : List UnitT) (cap : Nat), v = .slice A us.length cap ∧ UnitsAt W W.heap.size A us ∧ (∀ u ∈ us, UnitWf u) ∧ us.length ≤ cap ∧ cap ≤ 9223372036854775807 ∧ (A = none → cap = 0) := by
  obtain ⟨A, n, cap, rfl, h1, h2, h3, h4⟩ := recs_field Tryz.underlying27 Tryz.underlying43 (by kernel_rfl) (by kernel_rfl) (by decide) hf
  obtain ⟨us, hl, hR⟩ := list_of' (fun i u => (∃ b o, A = some ⟨b, o, none⟩ ∧ b < W.heap.size ∧ ∀ (j : Nat) (v : Value), (cellsU u)[j]? = some v → W.cell? ⟨b, o + i * 10 + j, none⟩ = some v) ∧ UnitWf u) n (fun i hi => by
    obtain ⟨b, o, e, hb, hg⟩ := h4 i hi
    obtain ⟨u0, _, _, c0, t0⟩ := hg 0 _ rfl
    obtain ⟨u1, _, _, c1, t1⟩ := hg 1 _ rfl
    obtain ⟨u2, _, _, c2, t2⟩ := hg 2 _ rfl
    obtain ⟨u3, _, _, c3, t3⟩ := hg 3 _ rfl
    obtain ⟨u4, _, _, c4, t4⟩ := hg 4 _ rfl
    obtain ⟨u5, _, _, c5, t5⟩ := hg 5 _ rfl
    obtain ⟨u6, _, _, c6, t6⟩ := hg 6 _ rfl
    obtain ⟨u7, _, _, c7, t7⟩ := hg 7 _ rfl
    obtain ⟨u8, _, _, c8, t8⟩ := hg 8 _ rfl
    obtain ⟨u9, _, _, c9, t9⟩ := hg 9 _ rfl
    obtain ⟨z0, e0, _, _⟩ := DataW.trod_int Tryz.underlying3 t0
    obtain ⟨z1, e1, _, k1⟩ := DataW.trod_int Tryz.underlying3 t1
    obtain ⟨z2, e2, _, k2⟩ := DataW.trod_int Tryz.underlying3 t2
    obtain ⟨z3, e3, _, _⟩ := DataW.trod_int Tryz.underlying3 t3
    obtain ⟨z4, e4, _, k4⟩ := DataW.trod_int Tryz.underlying3 t4
    obtain ⟨z5, e5, _, _⟩ := DataW.trod_int Tryz.underlying2 t5
    obtain ⟨z6, e6, _, _⟩ := DataW.trod_int Tryz.underlying2 t6
    obtain ⟨z7, e7, _, k7⟩ := DataW.trod_int Tryz.underlying2 t7
    obtain ⟨z8, e8, _, _⟩ := DataW.trod_int Tryz.underlying2 t8
    obtain ⟨z9, e9, _, _⟩ := DataW.trod_int Tryz.underlying2 t9
    simp at e0 e1 e2 e3 e4 e5 e6 e7 e8 e9
    subst e0 e1 e2 e3 e4 e5 e6 e7 e8 e9
    refine ⟨⟨z0, z1, z2, z3, z4, z5, z6, z7, z8, z9⟩, ⟨b, o, e, hb, fun j v hj => ?_⟩, ⟨k1, k2, k4, k7⟩⟩
    match j, hj with
    | 0, hj => cases hj; exact c0
    | 1, hj => cases hj; exact c1
    | 2, hj => cases hj; exact c2
    | 3, hj => cases hj; exact c3
    | 4, hj => cases hj; exact c4
    | 5, hj => cases hj; exact c5
    | 6, hj => cases hj; exact c6
    | 7, hj => cases hj; exact c7
    | 8, hj => cases hj; exact c8
    | 9, hj => cases hj; exact c9
    | j + 10, hj => exact absurd (List.getElem?_eq_some_iff.1 hj).1 (by simp [cellsU]))
  refine ⟨A, us, cap, by rw [hl], recsAt_of cellsU_len (by omega) (fun i a hi => (hR i a hi).1), fun u hu => ?_, by omega, by omega, h3⟩
  obtain ⟨i, hi⟩ := List.mem_iff_getElem?.1 hu
  exact (hR i u hi).2
set_option maxRecDepth 100000 in
theorem open_units {W : World} {r : Reach} {b0 : Nat} {v : Value} {d : DataW H} {p : List MemPlace} {base : Nat} {spare : Nat → Bool} {held : Bool}
    (hv : Value.okWide Tryz.prog W r b0 27 v) (h : DataW.Trod enc Tryz.prog W base spare held 27 v d p) :
    ∃ (A : Option Addr) (us : List UnitT) (cap : Nat), v = .slice A us.length cap ∧ UnitsAt W W.heap.size A us ∧ (∀ u ∈ us, UnitWf u) ∧ us.length ≤ cap ∧ cap ≤ 9223372036854775807 ∧ (A = none → cap = 0) := by
  obtain ⟨A, len, cap, rfl⟩ := okWide_slice Tryz.underlying27 hv
  obtain ⟨fuel, hf⟩ := h
  exact units_field (by simpa [Value.cells] using hf)
end
end
end Go.Proofs.YtimijjhdgihobaaGreatDoor
