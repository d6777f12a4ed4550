/-
  Words for memory that the walks of this seat share: a slice that reads as a list of cells; a map from int to int that the call made, read key by key; one append of one element.
  No condition: plain lemmas over whatever program.
  The plain function that responseplan.Unmet computes, with its steps, and what is needed of it.
  No condition: plain lemmas on lists of integers.
  responseplan.Unmet returns a new slice with the plain function's list, for every two lists of integers shorter than 2^40; nothing that was there changes.
  responseplan.isKind, responseplan.Satisfies, samaritanref31.Does: what each returns.
  What the library's contracts and dispatch.Format ask of a world (the table of powers of ten, the names of the kinds), and that it stays; texts.
-/
import Derived.WalkKit
import Derived.Lib.Hide
import Derived.Maps.OwnSet
import Derived.Maps.OwnOps
import Derived.Maps.AppendAt
import Derived.Deep.Draws
import Derived.Test.YtimijjhdgihobaaGreatDoorProg
import Derived.WalkLawsBesides
import Derived.BigGuardPart
import Derived.Deep.Light
import Derived.Test.YtimijjhdgihobaaGreatDoorShelf
import Derived.Lib.LaidTab
import Derived.Lib.AppendIntMem
namespace Go.Proofs.YtimijjhdgihobaaGreatDoor
section
open Go.RowKit Go.Maps

theorem ret_bool {a b : Bool} (h : a = b) : Ending.returned (.bool a) = .returned (.bool b) := by rw [h]
theorem ret_int {k : IntKind} {a b : Int} (h : a = b) : Ending.returned (.int k a) = .returned (.int k b) := by rw [h]

/-- The cells xs lie at the slice's address A, in a block below B. -/
def Sl (w : World) (B : Nat) (A : Option Addr) (xs : List Value) : Prop :=
  ∀ (j : Nat) (u : Value), xs[j]? = some u → ∃ b o, A = some ⟨b, o, none⟩ ∧ b < B ∧ w.cell? ⟨b, o + j, none⟩ = some u

section
variable {w w' : World} {B B' : Nat} {A : Option Addr} {xs : List Value}
theorem Sl.empty : Sl w B A [] := fun j u h => by simp at h
theorem Sl.keep (h : Sl w B A xs) (hk : ∀ p : Addr, p.block < B → w'.cell? p = w.cell? p) : Sl w' B A xs := fun j u hj => by
  obtain ⟨b, o, e, hb, hc⟩ := h j u hj
  exact ⟨b, o, e, hb, (hk ⟨b, o + j, none⟩ hb).trans hc⟩
theorem Sl.below (h : Sl w B A xs) (hb : Below B w w') : Sl w' B A xs := h.keep fun _ hp => hb.cell hp
theorem Sl.more (h : Sl w B A xs) (hB : B ≤ B') : Sl w B' A xs := fun j u hj => by
  obtain ⟨b, o, e, hb, hc⟩ := h j u hj
  exact ⟨b, o, e, Nat.lt_of_lt_of_le hb hB, hc⟩
theorem Sl.drew (h : Sl w B A xs) : Sl w.drew B A xs := h
theorem Sl.drewN (h : Sl w B A xs) (k : Nat) : Sl (w.drewN k) B A xs := h
theorem Sl.alloc (h : Sl w B A xs) (hB : B ≤ w.heap.size) (o : Obj) : Sl (w.alloc o) B A xs := h.keep fun p hp => World.cell?_alloc_lt w o p (by omega)
theorem Sl.take (h : Sl w B A xs) (n : Nat) : Sl w B A (xs.take n) := fun j u hj => h j u (by
  rw [List.getElem?_take] at hj
  split at hj
  · exact hj
  · cases hj)
theorem Sl.int {k : IntKind} {zs : List Int} (h : Sl w B A (zs.map (Value.int k))) {j : Nat} {z : Int} (hj : zs[j]? = some z) : ∃ b o, A = some ⟨b, o, none⟩ ∧ b < B ∧ w.cell? ⟨b, o + j, none⟩ = some (.int k z) :=
  h j _ (by simp [hj])
theorem Sl.lit (w : World) (cs : List Value) (t : TypeId) {n : Nat} (hn : n = w.heap.size) : Sl (w.alloc (.cells cs.toArray t)) (w.alloc (.cells cs.toArray t)).heap.size (some ⟨n, 0, none⟩) cs := fun j u hj =>
  ⟨n, 0, rfl, by simp [hn], by rw [Nat.zero_add, World.cell?_alloc_at (hn := hn)]; simpa using hj⟩
theorem Sl.own {base : Nat} {e : TypeId} {size n : Nat} {v : Value} (h : w.ownsRow base e size v n xs) : ∃ A c, v = .slice A n c ∧ Sl w w.heap.size A xs := by
  obtain ⟨hl, h2⟩ := h
  rcases h2 with ⟨rfl, rfl⟩ | ⟨g, cap, cur, rfl, hb, hh, hn, hm, hs, ht⟩
  · have : xs = [] := List.eq_nil_of_length_eq_zero (by simpa using hl)
    subst this
    exact ⟨_, _, rfl, Sl.empty⟩
  · refine ⟨_, _, rfl, fun j u hj => ⟨g, 0, rfl, (Array.getElem?_eq_some_iff.1 hh).1, ?_⟩⟩
    have h1 : w.ownsRow base e size (.slice (some ⟨g, 0, none⟩) n cap) n xs := ⟨hl, .inr ⟨g, cap, cur, rfl, hb, hh, hn, hm, hs, ht⟩⟩
    have hj2 : j < n * size := by rw [← hl]; exact (List.getElem?_eq_some_iff.1 hj).1
    have := h1.cellAt j hj2
    simpa [hj] using this
end

/-- a world of which 'Below' is known, a size fact beside it. -/
theorem own_kept_map {w w' : World} {base : Nat} {e : TypeId} {size n : Nat} {v : Value} {xs : List Value} (h : w.ownsRow base e size v n xs) {b : Nat} (hg : w.grownBy w' (some b)) (hb : b < base) : w'.ownsRow base e size v n xs := by
  refine h.kept hg ?_
  cases hv : v.ownBlock with
  | none => exact .inl rfl
  | some k =>
    refine .inr fun e => ?_
    have := (h.lt k hv).1
    injection e with e
    omega

/-- v owns the elements f z, z from zs, one cell each. -/
def OwnV {α : Type} (f : α → Value) (w : World) (base : Nat) (e : TypeId) (v : Value) (zs : List α) : Prop := w.ownsRow base e 1 v zs.length (zs.map f)
/-- .. integers; bools. -/
abbrev OwnI := OwnV (Value.int .i64)
abbrev OwnB := OwnV Value.bool

section
variable {α : Type} {f : α → Value} {w w' : World} {base : Nat} {e : TypeId} {v : Value} {zs : List α}
theorem OwnV.nil (w : World) (base : Nat) (e : TypeId) : OwnV f w base e (.slice none 0 0) [] := World.ownsRow_nil w base e 1
theorem OwnV.sl (h : OwnV f w base e v zs) : ∃ A c, v = .slice A zs.length c ∧ Sl w w.heap.size A (zs.map f) := Sl.own h
theorem OwnV.kept_map (h : OwnV f w base e v zs) {b : Nat} (hg : w.grownBy w' (some b)) (hb : b < base) : OwnV f w' base e v zs := own_kept_map h hg hb
theorem OwnV.base_le {base' : Nat} (h : OwnV f w base e v zs) (hb : base' ≤ base) : OwnV f w base' e v zs := by
  obtain ⟨hl, h2⟩ := h
  refine ⟨hl, ?_⟩
  rcases h2 with h2 | ⟨g, cap, cur, hv, hg, r⟩
  · exact .inl h2
  · exact .inr ⟨g, cap, cur, hv, Nat.le_trans hb hg, r⟩
theorem OwnV.form (h : OwnV f w base e v zs) {k : Nat} {z : α} (hz : zs[k]? = some z) : ∃ g c, v = .slice (some ⟨g, 0, none⟩) zs.length c ∧ base ≤ g ∧ g < w.heap.size ∧ w.cell? ⟨g, k, none⟩ = some (f z) ∧ w.frozen? ⟨g, k, none⟩ = false := by
  have hk := (List.getElem?_eq_some_iff.1 hz).1
  rcases h.2 with ⟨_, hn⟩ | ⟨g, cap, cur, hv, hb, hh, r⟩
  · simp [hn] at hk
  · subst hv
    refine ⟨g, cap, rfl, hb, (Array.getElem?_eq_some_iff.1 hh).1, ?_, World.ownsRow.frozenAt h k⟩
    rw [World.ownsRow.cellAt h k (by omega)]
    simp [hz]
theorem OwnV.cell {A : Option Addr} {n c : Nat} (h : OwnV f w base e (.slice A n c) zs) {k : Nat} {z : α} (hz : zs[k]? = some z) :
    ∃ b o, A = some ⟨b, o, none⟩ ∧ w.cell? ⟨b, o + k, none⟩ = some (f z) := by
  obtain ⟨g, c', hv, _, _, hc, _⟩ := h.form hz
  injection hv with h1 h2 h3
  exact ⟨g, 0, h1, by rw [Nat.zero_add]; exact hc⟩
theorem OwnV.stored {g c n : Nat} (h : OwnV f w base e (.slice (some ⟨g, 0, none⟩) n c) zs) (k : Nat) (z : α) : OwnV f (w.setCell ⟨g, k, none⟩ (f z)) base e (.slice (some ⟨g, 0, none⟩) n c) (zs.set k z) := by
  have hn : n = zs.length := by
    rcases h.2 with ⟨hv, _⟩ | ⟨g', cap, cur, hv, _⟩
    · cases hv
    · injection hv
  subst hn
  have := (World.ownsRow.stored h k (f z)).1
  unfold OwnV
  simpa [List.map_set] using this
/-- kept while a row from B on is written, its own row lying below B. -/
theorem OwnV.kept_far (h : OwnV f w base e v zs) {B : Nat} (hv : ∀ k, v.ownBlock = some k → k < B) {row : Option Nat} (hg : w.grownBy w' row) (hr : ∀ k, row = some k → B ≤ k) : OwnV f w' base e v zs := by
  refine World.ownsRow.kept h hg ?_
  cases hk : v.ownBlock with
  | none => exact .inl rfl
  | some k =>
    refine .inr fun e => ?_
    have h1 := hv k hk
    have h2 := hr k e.symm
    omega
theorem OwnV.kept_new (h : OwnV f w base e v zs) (hg : Below w.heap.size w w') : OwnV f w' base e v zs := World.ownsRow.kept h (row := none) ⟨hg.os, hg.tape, hg.output, hg.size, fun k hk _ => hg.block k hk⟩ (by
  cases v.ownBlock with
  | none => exact .inl rfl
  | some k => exact .inr (by simp))
theorem OwnV.setCell_other (h : OwnV f w base e v zs) {a : Addr} (ha : v.ownBlock ≠ some a.block) (u : Value) : OwnV f (w.setCell a u) base e v zs := ownsRow_setCell_other h ha u
theorem OwnV.setCell_below (h : OwnV f w base e v zs) {a : Addr} (ha : a.block < base) (u : Value) : OwnV f (w.setCell a u) base e v zs := ownsRow_setCell_below h ha u
theorem OwnV.alloc (h : OwnV f w base e v zs) (o : Obj) : OwnV f (w.alloc o) base e v zs := World.ownsRow.alloc h o
theorem OwnV.drewN (h : OwnV f w base e v zs) (n : Nat) : OwnV f (w.drewN n) base e v zs := h
theorem OwnV.drew (h : OwnV f w base e v zs) : OwnV f w.drew base e v zs := h
theorem OwnV.lt_size (h : OwnV f w base e v zs) : ∀ k, v.ownBlock = some k → k < w.heap.size := fun k hk => (World.ownsRow.lt h k hk).2
theorem OwnV.ge_base (h : OwnV f w base e v zs) : ∀ k, v.ownBlock = some k → base ≤ k := fun k hk => (World.ownsRow.lt h k hk).1
end

/-- 'v = append(v, x)' at the operation. -/
theorem wpList_append_one {α : Type} {f : α → Value} {P : Program} (w : World) {ops : Array Oper} {rest : List Oper} {o : Oper} {a : Act} {Q : Exit → Act → World → Prop} (hgd : o.guard = none) (s x : Operand) (t : TypeId)
    (ho : o.op = .call { callee := .builtin .append, args := #[s, x], argTypes := #[t, t] })
    (base : Nat) (e : TypeId) (ht : P.underlying t = some (.slice e)) {z0 : Value} {by0 : Nat} (hinfo : (P.info? e).map (fun i => (i.zero, i.size, i.bytes)) = some (some z0, 1, by0)) (hz0 : z0.cells.size = 1) (hby : by0 ≤ 32)
    (v : Value) (zs : List α) (w0 : World) (z : α) (hone : (f z).oneCell' = true) (hw : w = w0.alloc (.cells #[f z] e)) (hs : a.eval s = v) (hown : OwnV f w0 base e v zs)
    (hx : a.eval x = .slice (some ⟨w0.heap.size, 0, none⟩) 1 1) (hlen : zs.length + 1 ≤ 4398046511104) (hbase : base ≤ w0.heap.size)
    (h : ∀ v' w', OwnV f w' base e v' (zs ++ [z]) → w0.grownBy w' v.ownBlock → wpList P ops Q rest (a.put o.dst v') w') :
    wpList P ops Q (o :: rest) a w := by
  obtain ⟨i0, hi, hz1, hz2, hz3⟩ := info_parts hinfo
  subst hw
  refine wpList_append_own _ hgd s x t ho base e i0 z0 1 by0 ht hi hz1 hz2 hz3 hz0 (by decide) v zs.length _ hs (World.ownsRow.alloc hown _) ⟨w0.heap.size, 0, none⟩ 1 1 [f z] hx rfl (cell_one_new _ _ _)
    (by simpa using hone) (by unfold maxLen; omega) ?_ (by simp; omega) ?_
  · have := Nat.mul_le_mul hlen hby
    omega
  intro v' w' h1 h2 _
  refine h v' w' ?_ ?_
  · unfold OwnV
    simpa using h1
  · exact (World.grownBy_alloc w0 _ _).trans h2

/-- .. of an integer. -/
theorem wpList_append_int {P : Program} (w : World) {ops : Array Oper} {rest : List Oper} {o : Oper} {a : Act} {Q : Exit → Act → World → Prop} (hgd : o.guard = none) (s x : Operand) (t : TypeId)
    (ho : o.op = .call { callee := .builtin .append, args := #[s, x], argTypes := #[t, t] })
    (base : Nat) (e : TypeId) (ht : P.underlying t = some (.slice e)) (hinfo : (P.info? e).map (fun i => (i.zero, i.size, i.bytes)) = some (some (.int .i64 0), 1, 8))
    (v : Value) (zs : List Int) (w0 : World) (z : Int) (hw : w = w0.alloc (.cells #[.int .i64 z] e)) (hs : a.eval s = v) (hown : OwnI w0 base e v zs)
    (hx : a.eval x = .slice (some ⟨w0.heap.size, 0, none⟩) 1 1) (hlen : zs.length + 1 ≤ 4398046511104) (hbase : base ≤ w0.heap.size)
    (h : ∀ v' w', OwnI w' base e v' (zs ++ [z]) → w0.grownBy w' v.ownBlock → wpList P ops Q rest (a.put o.dst v') w') :
    wpList P ops Q (o :: rest) a w :=
  wpList_append_one w hgd s x t ho base e ht hinfo rfl (by omega) v zs w0 z rfl hw hs hown hx hlen hbase h

/-- Block b is a map from int (type k) to int (type e), at most n entries; at the key x stands g x. -/
def MapI (P : Program) (k e : TypeId) (w : World) (b n : Nat) (g : Int → Int) : Prop :=
  ∃ D : DataW Unit, w.ownsMap P k (plainElem P e) b n D ∧ ∀ x, (Lit.int .i64 x).wf = true → D.atKey (.int .i64 x) (.lit (.int .i64 0)) = .lit (.int .i64 (g x))

/-- g with v at x. -/
def upd (g : Int → Int) (x v : Int) : Int → Int := fun y => if y = x then v else g y

section
variable {P : Program} {k e : TypeId} {w w' : World} {b n : Nat} {g : Int → Int}
theorem MapI.made : MapI P k e (w.alloc (.map #[] 0)) w.heap.size 0 (fun _ => 0) := ⟨_, World.ownsMap_made _ _ _ _, fun _ _ => rfl⟩
theorem MapI.kept (h : MapI P k e w b n g) {row : Option Nat} (hg : w.grownBy w' row) (hne : some b ≠ row) : MapI P k e w' b n g := by
  obtain ⟨D, h1, h2⟩ := h
  exact ⟨D, h1.kept hg hne, h2⟩
theorem MapI.alloc (h : MapI P k e w b n g) (o : Obj) : MapI P k e (w.alloc o) b n g := h.kept (World.grownBy_alloc w o none) (by simp)
theorem MapI.mono (h : MapI P k e w b n g) {n' : Nat} (hn : n ≤ n') : MapI P k e w b n' g := by
  obtain ⟨D, h1, h2⟩ := h
  exact ⟨D, h1.mono hn, h2⟩
theorem MapI.lt (h : MapI P k e w b n g) : b < w.heap.size := by
  obtain ⟨D, h1, _⟩ := h
  exact h1.lt
end

theorem wpList_look_int {P : Program} (w : World) {ops : Array Oper} {rest : List Oper} {o : Oper} {a : Act} {Q : Exit → Act → World → Prop}
    (hg : Region.wanted o (yielded ops a.tmps) = true) (m x : Operand) (t : TypeId) (hop : o.op = Op.lookup t m x false)
    (k e : TypeId) (hk : P.underlying k = some (.int .i64)) (ht : P.underlying t = some (.map k e)) (he : P.underlying e = some (.int .i64)) (hz : (zeroValue e).run P w = .ok (.int .i64 0) w) (b n : Nat) (g : Int → Int)
    (hm : a.eval m = .map (some b)) (hown : MapI P k e w b n g) (z : Int) (hx : a.eval x = .int .i64 z) (hwf : (Lit.int .i64 z).wf = true)
    (hK : ∀ c : Int, c = g z → wpList P ops Q rest (a.put o.dst (.int .i64 c)) w) :
    wpList P ops Q (o :: rest) a w := by
  obtain ⟨D, h1, h2⟩ := hown
  refine BigFrame.wpList_want hg fun K' hK' => ?_
  obtain ⟨c, hrun, hat, hwc⟩ := h1.lookup_int (int_keyed hk) ht he hz (keyOf_int_mk hk hwf)
  rw [h2 z hwf] at hat
  injection hat with hat
  injection hat with _ hat
  unfold Oper.wp
  simp [execOp, hop, hm, hx, hrun, Result.andThen]
  exact hK' _ _ (hK c hat.symm)

theorem wpList_put_int {P : Program} (w : World) {ops : Array Oper} {rest : List Oper} {o : Oper} {a : Act} {Q : Exit → Act → World → Prop}
    (hg : o.guard = none) (m x v : Operand) (t : TypeId) (hop : o.op = Op.mapUpdate t m x v)
    (k e : TypeId) (hk : P.underlying k = some (.int .i64)) (ht : P.underlying t = some (.map k e)) (he : P.underlying e = some (.int .i64)) (b n : Nat) (g : Int → Int)
    (hm : a.eval m = .map (some b)) (hown : MapI P k e w b n g) (hn : n < 9223372036854775807) (z c : Int) (hx : a.eval x = .int .i64 z) (hv : a.eval v = .int .i64 c) (hwf : (Lit.int .i64 z).wf = true) (hwc : (Lit.int .i64 c).wf = true)
    (hK : ∀ w', MapI P k e w' b (n + 1) (upd g z c) → w.grownBy w' (some b) → wpList P ops Q rest (a.put o.dst undef) w') :
    wpList P ops Q (o :: rest) a w := by
  obtain ⟨D, h1, h2⟩ := hown
  refine wpList_mapUpdate_own w hg m x v t hop k e (int_keyed hk) ht _ b n D hm h1 (by unfold maxLen; omega) _ _ _ hx hv (keyOf_int_mk hk hwf) _ [] (plainElem_int he hwc) ?_
  intro w' h3 h4
  refine hK w' ⟨_, h3, fun y hy => ?_⟩ h4
  unfold upd
  by_cases hyz : y = z
  · subst hyz
    rw [if_pos rfl]
    exact atKey_put_same (k := .int .i64 y) h1.isMap trivial _ _
  · rw [if_neg hyz, atKey_put_other (by intro e; injection e with _ e; exact hyz e)]
    exact h2 y hy
end
section
/-- how often x stands in l. -/
def cnt (l : List Int) (x : Int) : Int := (l.count x : Nat)

/-- the second loop of Unmet: the counts and what is left over. -/
def step2 (s : (Int → Int) × List Int) (x : Int) : (Int → Int) × List Int :=
  if 0 < s.1 x then (upd s.1 x (s.1 x - 1), s.2) else (s.1, s.2 ++ [x])
/-- the third loop of Unmet. -/
def step3 (s : (Int → Int) × List Int) (x : Int) : (Int → Int) × List Int :=
  if x = 1 ∧ 0 < s.1 2 then (upd s.1 2 (s.1 2 - 1), s.2) else (s.1, s.2 ++ [x])
def pass2 (hs ws : List Int) : (Int → Int) × List Int := ws.foldl step2 (cnt hs, [])
def pass3 (g : Int → Int) (l : List Int) : (Int → Int) × List Int := l.foldl step3 (g, [])
def unmet (ws hs : List Int) : List Int := (pass3 (pass2 hs ws).1 (pass2 hs ws).2).2

theorem step2_yes {s : (Int → Int) × List Int} {x : Int} (h : 0 < s.1 x) : step2 s x = (upd s.1 x (s.1 x - 1), s.2) := if_pos h
theorem step2_no {s : (Int → Int) × List Int} {x : Int} (h : ¬ 0 < s.1 x) : step2 s x = (s.1, s.2 ++ [x]) := if_neg h
theorem step3_yes {s : (Int → Int) × List Int} {x : Int} (h : x = 1 ∧ 0 < s.1 2) : step3 s x = (upd s.1 2 (s.1 2 - 1), s.2) := if_pos h
theorem step3_no {s : (Int → Int) × List Int} {x : Int} (h : ¬ (x = 1 ∧ 0 < s.1 2)) : step3 s x = (s.1, s.2 ++ [x]) := if_neg h
theorem cnt_nil (x : Int) : cnt [] x = 0 := rfl
theorem cnt_snoc (l : List Int) (x : Int) : cnt (l ++ [x]) = upd (cnt l) x (cnt l x + 1) := by
  funext y
  unfold cnt upd
  by_cases h : y = x
  · subst h
    simp [List.count_append]
  · rw [if_neg h]
    have : [x].count y = 0 := by simp [Ne.symm h]
    simp [List.count_append, this]
theorem cnt_bd (l : List Int) (x : Int) : 0 ≤ cnt l x ∧ cnt l x ≤ l.length := by
  unfold cnt
  have := List.count_le_length (a := x) (l := l)
  omega

theorem take_snoc {α : Type} {l : List α} {k : Nat} {z : α} (h : l[k]? = some z) : l.take (k + 1) = l.take k ++ [z] := by
  rw [List.take_add_one, h]
  rfl

theorem pass2_snoc (hs ws : List Int) (z : Int) : pass2 hs (ws ++ [z]) = step2 (pass2 hs ws) z := by simp [pass2, List.foldl_append]
theorem pass3_snoc (g : Int → Int) (l : List Int) (z : Int) : pass3 g (l ++ [z]) = step3 (pass3 g l) z := by simp [pass3, List.foldl_append]

theorem pass2_bd (hs : List Int) : ∀ ws : List Int, (∀ x, 0 ≤ (pass2 hs ws).1 x ∧ (pass2 hs ws).1 x ≤ hs.length) ∧ (pass2 hs ws).2.length ≤ ws.length := by
  intro ws
  unfold pass2
  suffices H : ∀ (s : (Int → Int) × List Int) (n : Nat), (∀ x, 0 ≤ s.1 x ∧ s.1 x ≤ hs.length) → s.2.length ≤ n →
      (∀ x, 0 ≤ (ws.foldl step2 s).1 x ∧ (ws.foldl step2 s).1 x ≤ hs.length) ∧ (ws.foldl step2 s).2.length ≤ n + ws.length by
    have := H (cnt hs, []) 0 (fun x => cnt_bd hs x) (by simp)
    simpa using this
  induction ws with
  | nil => intro s n h1 h2; exact ⟨h1, by simpa using h2⟩
  | cons y t ih =>
    intro s n h1 h2
    simp only [List.foldl_cons, List.length_cons]
    by_cases hy : 0 < s.1 y
    · rw [step2_yes hy]
      have := ih (upd s.1 y (s.1 y - 1), s.2) n (fun x => by
        have := h1 x
        have := h1 y
        simp only [upd]
        split <;> omega) h2
      exact ⟨this.1, by omega⟩
    · rw [step2_no hy]
      have := ih (s.1, s.2 ++ [y]) (n + 1) h1 (by simp; omega)
      exact ⟨this.1, by omega⟩

theorem pass3_bd (g : Int → Int) (m : Nat) (hg : ∀ x, 0 ≤ g x ∧ g x ≤ m) (l : List Int) : (∀ x, 0 ≤ (pass3 g l).1 x ∧ (pass3 g l).1 x ≤ m) ∧ (pass3 g l).2.length ≤ l.length := by
  unfold pass3
  suffices H : ∀ (s : (Int → Int) × List Int) (n : Nat), (∀ x, 0 ≤ s.1 x ∧ s.1 x ≤ m) → s.2.length ≤ n →
      (∀ x, 0 ≤ (l.foldl step3 s).1 x ∧ (l.foldl step3 s).1 x ≤ m) ∧ (l.foldl step3 s).2.length ≤ n + l.length by
    have := H (g, []) 0 hg (by simp)
    simpa using this
  induction l with
  | nil => intro s n h1 h2; exact ⟨h1, by simpa using h2⟩
  | cons y t ih =>
    intro s n h1 h2
    simp only [List.foldl_cons, List.length_cons]
    by_cases hy : y = 1 ∧ 0 < s.1 2
    · rw [step3_yes hy]
      have := ih (upd s.1 2 (s.1 2 - 1), s.2) n (fun x => by
        have := h1 x
        have := h1 2
        simp only [upd]
        split <;> omega) h2
      exact ⟨this.1, by omega⟩
    · rw [step3_no hy]
      have := ih (s.1, s.2 ++ [y]) (n + 1) h1 (by simp; omega)
      exact ⟨this.1, by omega⟩

theorem unmet_len (ws hs : List Int) : (unmet ws hs).length ≤ ws.length := by
  have h2 := pass2_bd hs ws
  have h3 := pass3_bd (pass2 hs ws).1 hs.length h2.1 (pass2 hs ws).2
  unfold unmet
  omega

/-- what is left over is wanted. -/
theorem pass2_mem : ∀ (ws : List Int) (s : (Int → Int) × List Int) (P : Int → Prop), (∀ x ∈ ws, P x) → (∀ x ∈ s.2, P x) → ∀ x ∈ (ws.foldl step2 s).2, P x := by
  intro ws
  induction ws with
  | nil => intro s P _ h x hx; exact h x hx
  | cons y t ih =>
    intro s P hw h
    simp only [List.foldl_cons]
    refine ih _ P (fun x hx => hw x (by simp [hx])) ?_
    unfold step2
    split
    · exact h
    · intro x hx
      simp at hx
      rcases hx with hx | rfl
      · exact h x hx
      · exact hw x (by simp)
theorem pass3_mem : ∀ (ws : List Int) (s : (Int → Int) × List Int) (P : Int → Prop), (∀ x ∈ ws, P x) → (∀ x ∈ s.2, P x) → ∀ x ∈ (ws.foldl step3 s).2, P x := by
  intro ws
  induction ws with
  | nil => intro s P _ h x hx; exact h x hx
  | cons y t ih =>
    intro s P hw h
    simp only [List.foldl_cons]
    refine ih _ P (fun x hx => hw x (by simp [hx])) ?_
    unfold step3
    split
    · exact h
    · intro x hx
      simp at hx
      rcases hx with hx | rfl
      · exact h x hx
      · exact hw x (by simp)
end
section
open Go.RowKit Go.Maps

theorem int_info : (Tryz.prog.info? 3).map (fun i => (i.zero, i.size, i.bytes)) = some (some (.int .i64 0), 1, 8) := by kernel_rfl
theorem int_zero (w : World) : (zeroValue 3).run Tryz.prog w = .ok (.int .i64 0) w := by kernel_rfl

/-- the call returned a slice of its own that holds zs; what was there is as it was. -/
def RetI (ty : TypeId) (w : World) (zs : List Int) (e : Ending) (w' : World) : Prop := ∃ v, e = .returned v ∧ OwnI w' w.heap.size ty v zs ∧ Below w.heap.size w w'

theorem wf_of_get {zs : List Int} (h : ∀ z ∈ zs, (Lit.int .i64 z).wf = true) {k : Nat} {z : Int} (hz : zs[k]? = some z) : (Lit.int .i64 z).wf = true := h z (List.mem_of_getElem? hz)

set_option maxRecDepth 100000 in
set_option maxHeartbeats 1000000 in
theorem unmet_any (A C : Option Addr) (c d : Nat) (ws hs : List Int) (w : World) (ha : Sl w w.heap.size A (ws.map (Value.int .i64))) (hb : Sl w w.heap.size C (hs.map (Value.int .i64)))
    (wa : ∀ z ∈ ws, (Lit.int .i64 z).wf = true) (wb : ∀ z ∈ hs, (Lit.int .i64 z).wf = true) (na : ws.length ≤ 1099511627776) (nb : hs.length ≤ 1099511627776) :
    Calls Tryz.prog 65 #[.slice A ws.length c, .slice C hs.length d] w (RetI 3 w (unmet ws hs)) := by
  have hmm := @run_makeMap Tryz.prog
  go_enter Tryz.func65, Tryz.ntmps65
  go_wp2_with fail
  go_loopw [17] (fun i wr => ∃ k : Nat, k ≤ hs.length ∧ i = .int .i64 k ∧ MapI Tryz.prog 3 3 wr w.heap.size k (cnt (hs.take k)) ∧ Below w.heap.size w wr) (fun i _ => hs.length - (intOf i).toNat)
  case atStart => exact ⟨0, Nat.zero_le _, rfl, MapI.made, (Below.refl _ _).alloc (Nat.le_refl _) _⟩
  case round =>
    obtain ⟨k, hk, rfl, hown, hnx⟩ := hrel
    by_cases hlt : k < hs.length
    · obtain ⟨z, hz⟩ : ∃ z, hs[k]? = some z := ⟨hs[k], by simp⟩
      obtain ⟨b, o, rfl, hbb, hcell⟩ := hb.int hz
      have hc2 : wr.cell? ⟨b, o + k, none⟩ = some (.int .i64 z) := (hnx.cell (p := ⟨b, o + k, none⟩) hbb).trans hcell
      have hwz := wf_of_get wb hz
      have HZ := Lib.hid hz
      clear hz hcell
      have hcb := cnt_bd (hs.take k) z
      have hcl : (hs.take k).length ≤ k := List.length_take_le _ _
      go_wp2_with (first
        | (at_lookup; refine wpList_look_int _ rfl _ _ 111 rfl 3 3 Tryz.underlying3 Tryz.underlying111 Tryz.underlying3 (int_zero _) w.heap.size k _ rfl hown z rfl hwz ?_; intro u hu; have hub : 0 ≤ u ∧ u ≤ k := (by omega); have HU := Lib.hid hu; clear hu)
        | (at_mapUpdate; refine wpList_put_int _ rfl _ _ _ 111 rfl 3 3 Tryz.underlying3 Tryz.underlying111 Tryz.underlying3 w.heap.size k _ rfl hown (by omega) z (u + 1) rfl rfl hwz (WalkArith.wf_i64 (by omega)) ?_; intro w1 hown1 hg1))
      go_roundw
      case rel =>
        refine ⟨k + 1, by omega, by go_num, ?_, hnx.grown hg1 hnx.size (fun j hj => by cases hj; exact Nat.le_refl _)⟩
        rw [take_snoc HZ.out, cnt_snoc, ← HU.out]
        exact hown1
      case measure => simp [intOf]; omega
    · have hkk : k = hs.length := by omega
      subst hkk
      rw [List.take_length] at hown
      have hbm := pass2_bd hs
      have HBM := Lib.hid hbm
      clear hbm
      have hsz0 := hown.lt
      go_wp2_with fail
      obtain ⟨w1, rfl⟩ : ∃ w1 : World, w1 = wr := ⟨_, rfl⟩
      go_loopw [8, 28] (fun v i wr => ∃ k : Nat, k ≤ ws.length ∧ i = .int .i64 k ∧ MapI Tryz.prog 3 3 wr w.heap.size (hs.length + k) (pass2 hs (ws.take k)).1 ∧ OwnI wr (w.heap.size + 1) 3 v (pass2 hs (ws.take k)).2 ∧ Below w.heap.size w wr ∧ w.heap.size + 1 ≤ wr.heap.size) (fun _ i _ => ws.length - (intOf i).toNat)
      case atStart => exact ⟨0, Nat.zero_le _, rfl, hown, OwnV.nil _ _ _, hnx, hsz0⟩
      case round =>
        clear hown hnx hsz0 hlt hk
        obtain ⟨k, hk, rfl, hown, hrow, hnx, hsz⟩ := hrel
        by_cases hlt : k < ws.length
        · obtain ⟨z, hz⟩ : ∃ z, ws[k]? = some z := ⟨ws[k], by simp⟩
          obtain ⟨b, o, rfl, hbb, hcell⟩ := ha.int hz
          have hc2 : wr.cell? ⟨b, o + k, none⟩ = some (.int .i64 z) := (hnx.cell (p := ⟨b, o + k, none⟩) hbb).trans hcell
          have hwz := wf_of_get wa hz
          have hcl : (ws.take k).length ≤ k := List.length_take_le _ _
          have hcb := (HBM.out (ws.take k)).1 z
          have hrl := (HBM.out (ws.take k)).2
          have HST : Hid (pass2 hs (ws.take (k + 1)) = step2 (pass2 hs (ws.take k)) z) := by
            rw [take_snoc hz]
            exact pass2_snoc _ _ _
          clear hz hcell
          by_cases hpos : 0 < (pass2 hs (ws.take k)).1 z
          · go_wp2_with (first
              | (at_lookup; refine wpList_look_int _ rfl _ _ 111 rfl 3 3 Tryz.underlying3 Tryz.underlying111 Tryz.underlying3 (int_zero _) w.heap.size _ _ rfl hown z rfl hwz ?_; intro u hu; have hub : 0 < u ∧ u ≤ hs.length := (by omega); have HU := Lib.hid hu; clear hu)
              | (at_mapUpdate; refine wpList_put_int _ rfl _ _ _ 111 rfl 3 3 Tryz.underlying3 Tryz.underlying111 Tryz.underlying3 w.heap.size _ _ rfl hown (by omega) z (u - 1) rfl rfl hwz (WalkArith.wf_i64 (by omega)) ?_; intro w2 hown2 hg2))
            go_roundw
            case rel =>
              refine ⟨k + 1, by omega, by go_num, ?_, ?_, hnx.grown hg2 hnx.size (fun j hj => by cases hj; exact Nat.le_refl _), Nat.le_trans hsz hg2.size⟩
              · rw [HST.out, step2_yes hpos, ← HU.out]
                exact hown2
              · rw [HST.out, step2_yes hpos]
                exact hrow.kept_map hg2 (by omega)
            case measure => simp [intOf]; omega
          · go_wp2_with (first
              | (at_lookup; refine wpList_look_int _ rfl _ _ 111 rfl 3 3 Tryz.underlying3 Tryz.underlying111 Tryz.underlying3 (int_zero _) w.heap.size _ _ rfl hown z rfl hwz ?_; intro u hu; have hub : 0 ≤ u ∧ u ≤ 0 := (by omega); have HU := Lib.hid hu; clear hu)
              | (at_builtin; refine wpList_append_int _ rfl _ _ 44 rfl (w.heap.size + 1) 3 Tryz.underlying44 int_info _ _ wr z rfl rfl hrow rfl (by omega) hsz ?_; intro v2 w2 hrow2 hg2))
            go_roundw
            case rel =>
              refine ⟨k + 1, by omega, by go_num, ?_, ?_, hnx.grown hg2 hnx.size (fun j hj => ?_), Nat.le_trans hsz hg2.size⟩
              · rw [HST.out, step2_no hpos]
                exact (hown.kept hg2 (fun e => by have := hrow.ge_base _ e.symm; omega)).mono (by omega)
              · rw [HST.out, step2_no hpos]
                exact hrow2
              · have := hrow.ge_base _ hj
                omega
            case measure => simp [intOf]; omega
        · have hkk : k = ws.length := by omega
          subst hkk
          rw [List.take_length] at hown hrow
          have hcb := (HBM.out ws).1
          have hrl := (HBM.out ws).2
          have HCB := Lib.hid hcb
          clear hcb
          obtain ⟨A2, c2, hv2, _⟩ := hrow.sl
          rw [hv2] at hrow ⊢
          generalize hp : pass2 hs ws = pp at *
          obtain ⟨g, rest⟩ := pp
          have HP : Hid (unmet ws hs = (pass3 g rest).2) := by show _ = _; unfold unmet; rw [hp]
          clear hp hv2
          simp only at hown hrow hrl ⊢
          have hsz3 : ∀ j, (Value.slice A2 rest.length c2).ownBlock = some j → j < wr.heap.size := hrow.lt_size
          go_wp2_with fail
          obtain ⟨w3, rfl⟩ : ∃ w3 : World, w3 = wr := ⟨_, rfl⟩
          go_loopw [11, 47] (fun v i wr => ∃ k : Nat, k ≤ rest.length ∧ i = .int .i64 k ∧ MapI Tryz.prog 3 3 wr w.heap.size (hs.length + ws.length + k) (pass3 g (rest.take k)).1 ∧ OwnI wr (w.heap.size + 1) 3 (.slice A2 rest.length c2) rest ∧ OwnI wr w3.heap.size 3 v (pass3 g (rest.take k)).2 ∧ Below w.heap.size w wr ∧ w3.heap.size ≤ wr.heap.size) (fun _ i _ => rest.length - (intOf i).toNat)
          case atStart => exact ⟨0, Nat.zero_le _, rfl, hown, hrow, OwnV.nil _ _ _, hnx, Nat.le_refl _⟩
          case round =>
            clear hown hrow hnx hlt hk
            have HSZ3 := Lib.hid hsz3
            clear hsz3
            obtain ⟨k, hk, rfl, hown, hrow, hout, hnx, hsz3⟩ := hrel
            by_cases hlt : k < rest.length
            · obtain ⟨z, hz⟩ : ∃ z, rest[k]? = some z := ⟨rest[k], by simp⟩
              obtain ⟨b, o, rfl, hcell⟩ := hrow.cell hz
              have hcl : (rest.take k).length ≤ k := List.length_take_le _ _
              have hp3 := pass3_bd g hs.length HCB.out (rest.take k)
              have hcb := hp3.1 2
              have hrl3 := hp3.2
              have HST : Hid (pass3 g (rest.take (k + 1)) = step3 (pass3 g (rest.take k)) z) := by
                rw [take_snoc hz]
                exact pass3_snoc _ _ _
              clear hz hp3
              by_cases h1 : z = 1
              · subst h1
                by_cases hpos : 0 < (pass3 g (rest.take k)).1 2
                · go_wp2_with (first
                    | (at_lookup; refine wpList_look_int _ rfl _ _ 111 rfl 3 3 Tryz.underlying3 Tryz.underlying111 Tryz.underlying3 (int_zero _) w.heap.size _ _ rfl hown 2 rfl rfl ?_; intro u hu; have hub : 0 < u ∧ u ≤ hs.length := (by omega); have HU := Lib.hid hu; clear hu)
                    | (at_mapUpdate; refine wpList_put_int _ rfl _ _ _ 111 rfl 3 3 Tryz.underlying3 Tryz.underlying111 Tryz.underlying3 w.heap.size _ _ rfl hown (by omega) 2 (u - 1) rfl rfl rfl (WalkArith.wf_i64 (by omega)) ?_; intro w4 hown4 hg4))
                  go_roundw
                  case rel =>
                    refine ⟨k + 1, by omega, by go_num, ?_, ?_, ?_, hnx.grown hg4 hnx.size (fun j hj => by cases hj; exact Nat.le_refl _), Nat.le_trans hsz3 hg4.size⟩
                    · rw [HST.out, step3_yes ⟨rfl, hpos⟩, ← HU.out]
                      exact hown4
                    · exact hrow.kept_map hg4 (by omega)
                    · rw [HST.out, step3_yes ⟨rfl, hpos⟩]
                      exact hout.kept_map hg4 (by omega)
                  case measure => simp [intOf]; omega
                · go_wp2_with (first
                    | (at_lookup; refine wpList_look_int _ rfl _ _ 111 rfl 3 3 Tryz.underlying3 Tryz.underlying111 Tryz.underlying3 (int_zero _) w.heap.size _ _ rfl hown 2 rfl rfl ?_; intro u hu; have hub : 0 ≤ u ∧ u ≤ 0 := (by omega); have HU := Lib.hid hu; clear hu)
                    | (at_builtin; refine wpList_append_int _ rfl _ _ 44 rfl w3.heap.size 3 Tryz.underlying44 int_info _ _ wr 1 rfl rfl hout rfl (by omega) hsz3 ?_; intro v4 w4 hout4 hg4))
                  go_roundw
                  case rel =>
                    refine ⟨k + 1, by omega, by go_num, ?_, ?_, ?_, hnx.grown hg4 hnx.size (fun j hj => ?_), Nat.le_trans hsz3 hg4.size⟩
                    · rw [HST.out, step3_no (fun h => hpos h.2)]
                      exact (hown.kept hg4 (fun e => by have := hout.ge_base _ e.symm; omega)).mono (by omega)
                    · exact hrow.kept_far HSZ3.out hg4 (fun j hj => hout.ge_base j hj)
                    · rw [HST.out, step3_no (fun h => hpos h.2)]
                      exact hout4
                    · have := hout.ge_base _ hj
                      omega
                  case measure => simp [intOf]; omega
              · have hz1 : (z == 1) = false := by simp [h1]
                go_wp2_with (at_builtin; refine wpList_append_int _ rfl _ _ 44 rfl w3.heap.size 3 Tryz.underlying44 int_info _ _ wr z rfl rfl hout rfl (by omega) hsz3 ?_; intro v4 w4 hout4 hg4)
                go_roundw
                case rel =>
                  refine ⟨k + 1, by omega, by go_num, ?_, ?_, ?_, hnx.grown hg4 hnx.size (fun j hj => ?_), Nat.le_trans hsz3 hg4.size⟩
                  · rw [HST.out, step3_no (fun h => h1 h.1)]
                    exact (hown.kept hg4 (fun e => by have := hout.ge_base _ e.symm; omega)).mono (by omega)
                  · exact hrow.kept_far HSZ3.out hg4 (fun j hj => hout.ge_base j hj)
                  · rw [HST.out, step3_no (fun h => h1 h.1)]
                    exact hout4
                  · have := hout.ge_base _ hj
                    omega
                case measure => simp [intOf]; omega
            · have hkk : k = rest.length := by omega
              subst hkk
              rw [List.take_length] at hout
              go_wp2_with fail
              go_ret
              refine ⟨_, rfl, ?_, hnx⟩
              rw [HP.out]
              exact hout.base_le (by omega)
end
section
open Go.RowKit Go.Maps

def kindB (n : Int) : Bool := decide (1 ≤ n ∧ n ≤ 4)
def satB (k x : Int) : Bool := kindB k && kindB x && (k == x || k == 2 && x == 1)

theorem isKind_any (n : Int) (w : World) :
    Calls Tryz.prog 88 #[.int .i64 n] w fun e w' => e = .returned (.bool (kindB n)) ∧ w = w' := by
  go_enter Tryz.func88, Tryz.ntmps88
  go_wp2_with fail
  all_goals go_ret
  all_goals refine ⟨ret_bool ?_, rfl⟩
  all_goals rw [Bool.eq_iff_iff]
  all_goals simp [kindB]
  all_goals omega

theorem sat_any (k x : Int) (w : World) :
    Calls Tryz.prog 68 #[.int .i64 k, .int .i64 x] w fun e w' => e = .returned (.bool (satB k x)) ∧ w = w' := by
  go_enter Tryz.func68, Tryz.ntmps68
  go_wp2_with (go_at_call 88; refine (isKind_any _ _).mono ?_; rintro e w' ⟨rfl, rfl⟩)
  all_goals go_ret
  all_goals refine ⟨ret_bool ?_, rfl⟩
  all_goals go_light
  all_goals rw [Bool.eq_iff_iff]
  all_goals simp_all [satB, kindB]
  all_goals omega

theorem does_any (k x : Int) (w : World) :
    Calls Tryz.prog 12 #[.int .i64 k, .int .i64 x] w fun e w' => e = .returned (.bool (satB k x)) ∧ w = w' := by
  go_enter Tryz.func12, Tryz.ntmps12
  go_wp2_with fail
  all_goals go_ret
  all_goals refine ⟨ret_bool ?_, rfl⟩
  all_goals rw [Bool.eq_iff_iff]
  all_goals simp [satB, kindB]
  all_goals omega
end
section
open Go.RowKit

/-- the variable kindNames. -/
def NamesAt (w : World) : Prop := w.cell? ⟨0, 0, none⟩ = some (.string ⟨#[98, 97, 115, 105, 99]⟩) ∧ w.cell? ⟨0, 1, none⟩ = some (.string ⟨#[100, 111, 99, 116, 111, 114]⟩) ∧
  w.cell? ⟨0, 2, none⟩ = some (.string ⟨#[99, 97, 114]⟩) ∧ w.cell? ⟨0, 3, none⟩ = some (.string ⟨#[97, 105, 114]⟩)
theorem lt_names : 0 < Tryz.prog.globals.size := of_decide_eq_true (by kernel_rfl)
theorem g_names : Tryz.prog.globalNamed "samaritan/dispatch.kindNames" = some 0 := by kernel_rfl
theorem NamesAt.keep {w w' : World} {B : Nat} (h : NamesAt w) (hb : Below B w w') (hB : Tryz.prog.globals.size ≤ B) : NamesAt w' := by
  have hl : 0 < B := Nat.lt_of_lt_of_le lt_names hB
  exact ⟨(hb.cell (p := ⟨0, 0, none⟩) hl).trans h.1, (hb.cell (p := ⟨0, 1, none⟩) hl).trans h.2.1,
    (hb.cell (p := ⟨0, 2, none⟩) hl).trans h.2.2.1, (hb.cell (p := ⟨0, 3, none⟩) hl).trans h.2.2.2⟩
structure Ready (w : World) : Prop where
  tab : Lib.TabIs Tryz.prog w "internal/strconv.uint64pow10" .u64 Lib.pow10Tab
  room : Tryz.prog.globals.size ≤ w.heap.size
  names : NamesAt w
theorem lt_tab : 1 < Tryz.prog.globals.size := of_decide_eq_true (by kernel_rfl)
theorem g_tab : Tryz.prog.globalNamed "internal/strconv.uint64pow10" = some 1 := by kernel_rfl
theorem var_kept {w w' : World} {n : String} {g B : Nat} (hg : Tryz.prog.globalNamed n = some g) (hb : Below B w w') (hl : g < B) : w'.var? Tryz.prog n = w.var? Tryz.prog n := by
  unfold World.var?
  rw [hg]
  simp only [Option.bind_some]
  rw [hb.block g hl]
theorem Ready.keep {w w' : World} {B : Nat} (h : Ready w) (hb : Below B w w') (hB : Tryz.prog.globals.size ≤ B) : Ready w' := by
  refine ⟨?_, Nat.le_trans h.room hb.size, h.names.keep hb hB⟩
  unfold Lib.TabIs
  rw [var_kept g_tab hb (Nat.lt_of_lt_of_le lt_tab hB)]
  exact h.tab
theorem Ready.below {w w' : World} (h : Ready w) (hb : Below w.heap.size w w') : Ready w' := h.keep hb h.room
theorem Ready.grown {w w' : World} {row : Option Nat} (h : Ready w) (hg : w.grownBy w' row) (hr : ∀ j, row = some j → Tryz.prog.globals.size ≤ j) : Ready w' := h.keep ((Below.refl _ _).grown hg h.room hr) (Nat.le_refl _)
theorem below_then {a b c : World} (h1 : Below a.heap.size a b) (h2 : Below b.heap.size b c) : Below a.heap.size a c :=
  ⟨h2.os.trans h1.os, h2.tape.trans h1.tape, h2.output.trans h1.output, Nat.le_trans h1.size h2.size, fun k hk => (h2.block k (Nat.lt_of_lt_of_le hk h1.size)).trans (h1.block k hk)⟩
theorem ret_str {a b : ByteArray} (h : a = b) : Ending.returned (.string a) = Ending.returned (.string b) := by rw [h]
/-- a text as the model has it. -/
def bs (l : List UInt8) : ByteArray := ⟨l.toArray⟩
theorem bs_append (a b : List UInt8) : bs a ++ bs b = bs (a ++ b) := by
  apply ByteArray.ext
  simp [bs]
theorem bs_data (l : List UInt8) : (bs l).data.toList = l := by simp [bs]
theorem bs_size (l : List UInt8) : (bs l).size = l.length := by simp [bs, ByteArray.size]
theorem bs_inj {a b : List UInt8} (h : bs a = bs b) : a = b := by
  have := congrArg (fun x => x.data.toList) h
  simpa [bs_data] using this
theorem bs_of (s : ByteArray) : s = bs s.data.toList := by
  apply ByteArray.ext
  simp [bs]
theorem formatInt_any (n : Int) (h0 : -9223372036854775808 ≤ n) (h1 : n ≤ 9223372036854775807) (w : World) (h : Ready w) :
    Calls Tryz.prog 44 #[.int .i64 n, .int .i64 10] w fun e w' => e = .returned (.string (bs (Lib.itoa n))) ∧ Below w.heap.size w w' := by
  refine (Tryz.strconv_FormatInt_10 n h0 h1 w h.tab).mono ?_
  rintro e w' ⟨rfl, k, os, rfl⟩
  exact ⟨rfl, Lib.below_grow _ _ (Nat.le_refl _) _ _⟩
theorem itoa_any (n : Int) (h0 : -9223372036854775808 ≤ n) (h1 : n ≤ 9223372036854775807) (w : World) (h : Ready w) :
    Calls Tryz.prog 45 #[.int .i64 n] w fun e w' => e = .returned (.string (bs (Lib.itoa n))) ∧ Below w.heap.size w w' := by
  refine (Tryz.strconv_Itoa n h0 h1 w h.tab).mono ?_
  rintro e w' ⟨rfl, k, os, rfl⟩
  exact ⟨rfl, Lib.below_grow _ _ (Nat.le_refl _) _ _⟩
theorem toL (a : ByteArray) : a.toList = a.data.toList := ByteArray.toList_eq a
theorem toL_bs (l : List UInt8) : (bs l).toList = l := by rw [toL, bs_data]
theorem toL_inj {a b : ByteArray} (h : a.toList = b.toList) : a = b := by
  rw [toL, toL] at h
  exact ByteArray.ext (Array.toList_inj.1 h)
def kindName (k : Int) : List UInt8 := if k = 1 then [98, 97, 115, 105, 99] else if k = 2 then [100, 111, 99, 116, 111, 114] else if k = 3 then [99, 97, 114] else [97, 105, 114]
theorem NamesAt.at {w : World} (h : NamesAt w) {k : Int} (hk : kindB k = true) : w.cell? ⟨0, (k - 1).toNat, none⟩ = some (.string (bs (kindName k))) := by
  unfold kindB at hk
  rw [decide_eq_true_eq] at hk
  have : k = 1 ∨ k = 2 ∨ k = 3 ∨ k = 4 := by omega
  rcases this with rfl | rfl | rfl | rfl
  · exact h.1
  · exact h.2.1
  · exact h.2.2.1
  · exact h.2.2.2
end
end Go.Proofs.YtimijjhdgihobaaGreatDoor
