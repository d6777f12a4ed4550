/-
  Words for memory that the walks of this seat share: a slice that reads as a list of cells; a map from int to int that the call made, read key by key; one append of one element.
  No condition: plain lemmas over whatever program.
-/
import Derived.WalkKit
import Derived.Lib.Hide
import Derived.Maps.OwnSet
import Derived.Maps.OwnOps
import Derived.Maps.AppendAt
import Derived.Deep.Draws
namespace Go.Proofs.YtakdkiggaalimaaGreatDoor
open Go.RowKit Go.Maps

theorem ret_bool {a b : Bool} (h : a = b) : Ending.returned (.bool a) = .returned (.bool b) := by rw [h]
theorem ret_int {k : IntKind} {a b : Int} (h : a = b) : Ending.returned (.int k a) = .returned (.int k b) := by rw [h]

/-- The cells xs lie at the slice's address A, in a block below B. -/
def Sl (w : World) (B : Nat) (A : Option Addr) (xs : List Value) : Prop :=
  ∀ (j : Nat) (u : Value), xs[j]? = some u → ∃ b o, A = some ⟨b, o, none⟩ ∧ b < B ∧ w.cell? ⟨b, o + j, none⟩ = some u

section
variable {w w' : World} {B B' : Nat} {A : Option Addr} {xs : List Value}
theorem Sl.empty : Sl w B A [] := fun j u h => by simp at h
theorem Sl.keep (h : Sl w B A xs) (hk : ∀ p : Addr, p.block < B → w'.cell? p = w.cell? p) : Sl w' B A xs := fun j u hj => by
  obtain ⟨b, o, e, hb, hc⟩ := h j u hj
  exact ⟨b, o, e, hb, (hk ⟨b, o + j, none⟩ hb).trans hc⟩
theorem Sl.below (h : Sl w B A xs) (hb : Below B w w') : Sl w' B A xs := h.keep fun _ hp => hb.cell hp
theorem Sl.more (h : Sl w B A xs) (hB : B ≤ B') : Sl w B' A xs := fun j u hj => by
  obtain ⟨b, o, e, hb, hc⟩ := h j u hj
  exact ⟨b, o, e, Nat.lt_of_lt_of_le hb hB, hc⟩
theorem Sl.drew (h : Sl w B A xs) : Sl w.drew B A xs := h
theorem Sl.drewN (h : Sl w B A xs) (k : Nat) : Sl (w.drewN k) B A xs := h
theorem Sl.alloc (h : Sl w B A xs) (hB : B ≤ w.heap.size) (o : Obj) : Sl (w.alloc o) B A xs := h.keep fun p hp => World.cell?_alloc_lt w o p (by omega)
theorem Sl.take (h : Sl w B A xs) (n : Nat) : Sl w B A (xs.take n) := fun j u hj => h j u (by
  rw [List.getElem?_take] at hj
  split at hj
  · exact hj
  · cases hj)
theorem Sl.int {k : IntKind} {zs : List Int} (h : Sl w B A (zs.map (Value.int k))) {j : Nat} {z : Int} (hj : zs[j]? = some z) : ∃ b o, A = some ⟨b, o, none⟩ ∧ b < B ∧ w.cell? ⟨b, o + j, none⟩ = some (.int k z) :=
  h j _ (by simp [hj])
theorem Sl.lit (w : World) (cs : List Value) (t : TypeId) {n : Nat} (hn : n = w.heap.size) : Sl (w.alloc (.cells cs.toArray t)) (w.alloc (.cells cs.toArray t)).heap.size (some ⟨n, 0, none⟩) cs := fun j u hj =>
  ⟨n, 0, rfl, by simp [hn], by rw [Nat.zero_add, World.cell?_alloc_at (hn := hn)]; simpa using hj⟩
theorem Sl.own {base : Nat} {e : TypeId} {size n : Nat} {v : Value} (h : w.ownsRow base e size v n xs) : ∃ A c, v = .slice A n c ∧ Sl w w.heap.size A xs := by
  obtain ⟨hl, h2⟩ := h
  rcases h2 with ⟨rfl, rfl⟩ | ⟨g, cap, cur, rfl, hb, hh, hn, hm, hs, ht⟩
  · have : xs = [] := List.eq_nil_of_length_eq_zero (by simpa using hl)
    subst this
    exact ⟨_, _, rfl, Sl.empty⟩
  · refine ⟨_, _, rfl, fun j u hj => ⟨g, 0, rfl, (Array.getElem?_eq_some_iff.1 hh).1, ?_⟩⟩
    have h1 : w.ownsRow base e size (.slice (some ⟨g, 0, none⟩) n cap) n xs := ⟨hl, .inr ⟨g, cap, cur, rfl, hb, hh, hn, hm, hs, ht⟩⟩
    have hj2 : j < n * size := by rw [← hl]; exact (List.getElem?_eq_some_iff.1 hj).1
    have := h1.cellAt j hj2
    simpa [hj] using this
end

/-- a world of which 'Below' is known, a size fact beside it. -/
theorem own_kept_map {w w' : World} {base : Nat} {e : TypeId} {size n : Nat} {v : Value} {xs : List Value} (h : w.ownsRow base e size v n xs) {b : Nat} (hg : w.grownBy w' (some b)) (hb : b < base) : w'.ownsRow base e size v n xs := by
  refine h.kept hg ?_
  cases hv : v.ownBlock with
  | none => exact .inl rfl
  | some k =>
    refine .inr fun e => ?_
    have := (h.lt k hv).1
    injection e with e
    omega

/-- v owns the elements f z, z from zs, one cell each. -/
def OwnV {α : Type} (f : α → Value) (w : World) (base : Nat) (e : TypeId) (v : Value) (zs : List α) : Prop := w.ownsRow base e 1 v zs.length (zs.map f)
/-- .. integers; bools. -/
abbrev OwnI := OwnV (Value.int .i64)
abbrev OwnB := OwnV Value.bool

section
variable {α : Type} {f : α → Value} {w w' : World} {base : Nat} {e : TypeId} {v : Value} {zs : List α}
theorem OwnV.nil (w : World) (base : Nat) (e : TypeId) : OwnV f w base e (.slice none 0 0) [] := World.ownsRow_nil w base e 1
theorem OwnV.sl (h : OwnV f w base e v zs) : ∃ A c, v = .slice A zs.length c ∧ Sl w w.heap.size A (zs.map f) := Sl.own h
theorem OwnV.kept_map (h : OwnV f w base e v zs) {b : Nat} (hg : w.grownBy w' (some b)) (hb : b < base) : OwnV f w' base e v zs := own_kept_map h hg hb
theorem OwnV.base_le {base' : Nat} (h : OwnV f w base e v zs) (hb : base' ≤ base) : OwnV f w base' e v zs := by
  obtain ⟨hl, h2⟩ := h
  refine ⟨hl, ?_⟩
  rcases h2 with h2 | ⟨g, cap, cur, hv, hg, r⟩
  · exact .inl h2
  · exact .inr ⟨g, cap, cur, hv, Nat.le_trans hb hg, r⟩
theorem OwnV.form (h : OwnV f w base e v zs) {k : Nat} {z : α} (hz : zs[k]? = some z) : ∃ g c, v = .slice (some ⟨g, 0, none⟩) zs.length c ∧ base ≤ g ∧ g < w.heap.size ∧ w.cell? ⟨g, k, none⟩ = some (f z) ∧ w.frozen? ⟨g, k, none⟩ = false := by
  have hk := (List.getElem?_eq_some_iff.1 hz).1
  rcases h.2 with ⟨_, hn⟩ | ⟨g, cap, cur, hv, hb, hh, r⟩
  · simp [hn] at hk
  · subst hv
    refine ⟨g, cap, rfl, hb, (Array.getElem?_eq_some_iff.1 hh).1, ?_, World.ownsRow.frozenAt h k⟩
    rw [World.ownsRow.cellAt h k (by omega)]
    simp [hz]
theorem OwnV.cell {A : Option Addr} {n c : Nat} (h : OwnV f w base e (.slice A n c) zs) {k : Nat} {z : α} (hz : zs[k]? = some z) :
    ∃ b o, A = some ⟨b, o, none⟩ ∧ w.cell? ⟨b, o + k, none⟩ = some (f z) := by
  obtain ⟨g, c', hv, _, _, hc, _⟩ := h.form hz
  injection hv with h1 h2 h3
  exact ⟨g, 0, h1, by rw [Nat.zero_add]; exact hc⟩
theorem OwnV.stored {g c n : Nat} (h : OwnV f w base e (.slice (some ⟨g, 0, none⟩) n c) zs) (k : Nat) (z : α) : OwnV f (w.setCell ⟨g, k, none⟩ (f z)) base e (.slice (some ⟨g, 0, none⟩) n c) (zs.set k z) := by
  have hn : n = zs.length := by
    rcases h.2 with ⟨hv, _⟩ | ⟨g', cap, cur, hv, _⟩
    · cases hv
    · injection hv
  subst hn
  have := (World.ownsRow.stored h k (f z)).1
  unfold OwnV
  simpa [List.map_set] using this
/-- kept while a row from B on is written, its own row lying below B. -/
theorem OwnV.kept_far (h : OwnV f w base e v zs) {B : Nat} (hv : ∀ k, v.ownBlock = some k → k < B) {row : Option Nat} (hg : w.grownBy w' row) (hr : ∀ k, row = some k → B ≤ k) : OwnV f w' base e v zs := by
  refine World.ownsRow.kept h hg ?_
  cases hk : v.ownBlock with
  | none => exact .inl rfl
  | some k =>
    refine .inr fun e => ?_
    have h1 := hv k hk
    have h2 := hr k e.symm
    omega
theorem OwnV.kept_new (h : OwnV f w base e v zs) (hg : Below w.heap.size w w') : OwnV f w' base e v zs := World.ownsRow.kept h (row := none) ⟨hg.os, hg.tape, hg.output, hg.size, fun k hk _ => hg.block k hk⟩ (by
  cases v.ownBlock with
  | none => exact .inl rfl
  | some k => exact .inr (by simp))
theorem OwnV.setCell_other (h : OwnV f w base e v zs) {a : Addr} (ha : v.ownBlock ≠ some a.block) (u : Value) : OwnV f (w.setCell a u) base e v zs := ownsRow_setCell_other h ha u
theorem OwnV.setCell_below (h : OwnV f w base e v zs) {a : Addr} (ha : a.block < base) (u : Value) : OwnV f (w.setCell a u) base e v zs := ownsRow_setCell_below h ha u
theorem OwnV.alloc (h : OwnV f w base e v zs) (o : Obj) : OwnV f (w.alloc o) base e v zs := World.ownsRow.alloc h o
theorem OwnV.drewN (h : OwnV f w base e v zs) (n : Nat) : OwnV f (w.drewN n) base e v zs := h
theorem OwnV.drew (h : OwnV f w base e v zs) : OwnV f w.drew base e v zs := h
theorem OwnV.lt_size (h : OwnV f w base e v zs) : ∀ k, v.ownBlock = some k → k < w.heap.size := fun k hk => (World.ownsRow.lt h k hk).2
theorem OwnV.ge_base (h : OwnV f w base e v zs) : ∀ k, v.ownBlock = some k → base ≤ k := fun k hk => (World.ownsRow.lt h k hk).1
end

/-- 'v = append(v, x)' at the operation. -/
theorem wpList_append_one {α : Type} {f : α → Value} {P : Program} (w : World) {ops : Array Oper} {rest : List Oper} {o : Oper} {a : Act} {Q : Exit → Act → World → Prop} (hgd : o.guard = none) (s x : Operand) (t : TypeId)
    (ho : o.op = .call { callee := .builtin .append, args := #[s, x], argTypes := #[t, t] })
    (base : Nat) (e : TypeId) (ht : P.underlying t = some (.slice e)) {z0 : Value} {by0 : Nat} (hinfo : (P.info? e).map (fun i => (i.zero, i.size, i.bytes)) = some (some z0, 1, by0)) (hz0 : z0.cells.size = 1) (hby : by0 ≤ 32)
    (v : Value) (zs : List α) (w0 : World) (z : α) (hone : (f z).oneCell' = true) (hw : w = w0.alloc (.cells #[f z] e)) (hs : a.eval s = v) (hown : OwnV f w0 base e v zs)
    (hx : a.eval x = .slice (some ⟨w0.heap.size, 0, none⟩) 1 1) (hlen : zs.length + 1 ≤ 4398046511104) (hbase : base ≤ w0.heap.size)
    (h : ∀ v' w', OwnV f w' base e v' (zs ++ [z]) → w0.grownBy w' v.ownBlock → wpList P ops Q rest (a.put o.dst v') w') :
    wpList P ops Q (o :: rest) a w := by
  obtain ⟨i0, hi, hz1, hz2, hz3⟩ := info_parts hinfo
  subst hw
  refine wpList_append_own _ hgd s x t ho base e i0 z0 1 by0 ht hi hz1 hz2 hz3 hz0 (by decide) v zs.length _ hs (World.ownsRow.alloc hown _) ⟨w0.heap.size, 0, none⟩ 1 1 [f z] hx rfl (cell_one_new _ _ _)
    (by simpa using hone) (by unfold maxLen; omega) ?_ (by simp; omega) ?_
  · have := Nat.mul_le_mul hlen hby
    omega
  intro v' w' h1 h2 _
  refine h v' w' ?_ ?_
  · unfold OwnV
    simpa using h1
  · exact (World.grownBy_alloc w0 _ _).trans h2

/-- .. of an integer. -/
theorem wpList_append_int {P : Program} (w : World) {ops : Array Oper} {rest : List Oper} {o : Oper} {a : Act} {Q : Exit → Act → World → Prop} (hgd : o.guard = none) (s x : Operand) (t : TypeId)
    (ho : o.op = .call { callee := .builtin .append, args := #[s, x], argTypes := #[t, t] })
    (base : Nat) (e : TypeId) (ht : P.underlying t = some (.slice e)) (hinfo : (P.info? e).map (fun i => (i.zero, i.size, i.bytes)) = some (some (.int .i64 0), 1, 8))
    (v : Value) (zs : List Int) (w0 : World) (z : Int) (hw : w = w0.alloc (.cells #[.int .i64 z] e)) (hs : a.eval s = v) (hown : OwnI w0 base e v zs)
    (hx : a.eval x = .slice (some ⟨w0.heap.size, 0, none⟩) 1 1) (hlen : zs.length + 1 ≤ 4398046511104) (hbase : base ≤ w0.heap.size)
    (h : ∀ v' w', OwnI w' base e v' (zs ++ [z]) → w0.grownBy w' v.ownBlock → wpList P ops Q rest (a.put o.dst v') w') :
    wpList P ops Q (o :: rest) a w :=
  wpList_append_one w hgd s x t ho base e ht hinfo rfl (by omega) v zs w0 z rfl hw hs hown hx hlen hbase h

/-- Block b is a map from int (type k) to int (type e), at most n entries; at the key x stands g x. -/
def MapI (P : Program) (k e : TypeId) (w : World) (b n : Nat) (g : Int → Int) : Prop :=
  ∃ D : DataW Unit, w.ownsMap P k (plainElem P e) b n D ∧ ∀ x, (Lit.int .i64 x).wf = true → D.atKey (.int .i64 x) (.lit (.int .i64 0)) = .lit (.int .i64 (g x))

/-- g with v at x. -/
def upd (g : Int → Int) (x v : Int) : Int → Int := fun y => if y = x then v else g y

section
variable {P : Program} {k e : TypeId} {w w' : World} {b n : Nat} {g : Int → Int}
theorem MapI.made : MapI P k e (w.alloc (.map #[] 0)) w.heap.size 0 (fun _ => 0) := ⟨_, World.ownsMap_made _ _ _ _, fun _ _ => rfl⟩
theorem MapI.kept (h : MapI P k e w b n g) {row : Option Nat} (hg : w.grownBy w' row) (hne : some b ≠ row) : MapI P k e w' b n g := by
  obtain ⟨D, h1, h2⟩ := h
  exact ⟨D, h1.kept hg hne, h2⟩
theorem MapI.alloc (h : MapI P k e w b n g) (o : Obj) : MapI P k e (w.alloc o) b n g := h.kept (World.grownBy_alloc w o none) (by simp)
theorem MapI.mono (h : MapI P k e w b n g) {n' : Nat} (hn : n ≤ n') : MapI P k e w b n' g := by
  obtain ⟨D, h1, h2⟩ := h
  exact ⟨D, h1.mono hn, h2⟩
theorem MapI.lt (h : MapI P k e w b n g) : b < w.heap.size := by
  obtain ⟨D, h1, _⟩ := h
  exact h1.lt
end

theorem wpList_look_int {P : Program} (w : World) {ops : Array Oper} {rest : List Oper} {o : Oper} {a : Act} {Q : Exit → Act → World → Prop}
    (hg : Region.wanted o (yielded ops a.tmps) = true) (m x : Operand) (t : TypeId) (hop : o.op = Op.lookup t m x false)
    (k e : TypeId) (hk : P.underlying k = some (.int .i64)) (ht : P.underlying t = some (.map k e)) (he : P.underlying e = some (.int .i64)) (hz : (zeroValue e).run P w = .ok (.int .i64 0) w) (b n : Nat) (g : Int → Int)
    (hm : a.eval m = .map (some b)) (hown : MapI P k e w b n g) (z : Int) (hx : a.eval x = .int .i64 z) (hwf : (Lit.int .i64 z).wf = true)
    (hK : ∀ c : Int, c = g z → wpList P ops Q rest (a.put o.dst (.int .i64 c)) w) :
    wpList P ops Q (o :: rest) a w := by
  obtain ⟨D, h1, h2⟩ := hown
  refine BigFrame.wpList_want hg fun K' hK' => ?_
  obtain ⟨c, hrun, hat, hwc⟩ := h1.lookup_int (int_keyed hk) ht he hz (keyOf_int_mk hk hwf)
  rw [h2 z hwf] at hat
  injection hat with hat
  injection hat with _ hat
  unfold Oper.wp
  simp [execOp, hop, hm, hx, hrun, Result.andThen]
  exact hK' _ _ (hK c hat.symm)

theorem wpList_put_int {P : Program} (w : World) {ops : Array Oper} {rest : List Oper} {o : Oper} {a : Act} {Q : Exit → Act → World → Prop}
    (hg : o.guard = none) (m x v : Operand) (t : TypeId) (hop : o.op = Op.mapUpdate t m x v)
    (k e : TypeId) (hk : P.underlying k = some (.int .i64)) (ht : P.underlying t = some (.map k e)) (he : P.underlying e = some (.int .i64)) (b n : Nat) (g : Int → Int)
    (hm : a.eval m = .map (some b)) (hown : MapI P k e w b n g) (hn : n < 9223372036854775807) (z c : Int) (hx : a.eval x = .int .i64 z) (hv : a.eval v = .int .i64 c) (hwf : (Lit.int .i64 z).wf = true) (hwc : (Lit.int .i64 c).wf = true)
    (hK : ∀ w', MapI P k e w' b (n + 1) (upd g z c) → w.grownBy w' (some b) → wpList P ops Q rest (a.put o.dst undef) w') :
    wpList P ops Q (o :: rest) a w := by
  obtain ⟨D, h1, h2⟩ := hown
  refine wpList_mapUpdate_own w hg m x v t hop k e (int_keyed hk) ht _ b n D hm h1 (by unfold maxLen; omega) _ _ _ hx hv (keyOf_int_mk hk hwf) _ [] (plainElem_int he hwc) ?_
  intro w' h3 h4
  refine hK w' ⟨_, h3, fun y hy => ?_⟩ h4
  unfold upd
  by_cases hyz : y = z
  · subst hyz
    rw [if_pos rfl]
    exact atKey_put_same (k := .int .i64 y) h1.isMap trivial _ _
  · rw [if_neg hyz, atKey_put_other (by intro e; injection e with _ e; exact hyz e)]
    exact h2 y hy

end Go.Proofs.YtakdkiggaalimaaGreatDoor
