/-
  The text of a configuration, in plain Lean; the state of Format's loops and what its closure add does.
-/
import Derived.Test.YtloacoalmfaceaaGreatDoorSame6
import Derived.Test.YtloacoalmfaceaaGreatDoorReady
import Derived.Test.YtloacoalmfaceaaGreatDoorOnly
import Derived.Test.YtloacoalmfaceaaGreatDoorTexts
namespace Go.Proofs.YtloacoalmfaceaaGreatDoor
open Go.RowKit Go.Maps Go.Shelf

def kindName (k : Int) : List UInt8 := if k = 1 then [98, 97, 115, 105, 99] else if k = 2 then [100, 111, 99, 116, 111, 114] else if k = 3 then [99, 97, 114] else [97, 105, 114]
theorem kindName_len (k : Int) : (kindName k).length ≤ 6 := by
  unfold kindName
  split
  · decide
  · split
    · decide
    · split <;> decide
def dec (z : Int) : List UInt8 := Lib.decDigits z.toNat
def lineT (ws : List (List UInt8)) : List UInt8 := Lib.join ws [32] ++ [10]
def wCentres : List UInt8 := [99, 101, 110, 116, 114, 101, 115]
def wNode : List UInt8 := [110, 111, 100, 101]
def wEdge : List UInt8 := [101, 100, 103, 101]
def wUnit : List UInt8 := [117, 110, 105, 116]
def wPlan : List UInt8 := [112, 108, 97, 110]
def wNever : List UInt8 := [110, 101, 118, 101, 114]
def timeT (z : Int) : List UInt8 := if z = 4611686018427387904 then wNever else dec z
def nodeW (d : Int) : List (List UInt8) := [wNode, dec d]
def edgeW (e : T3) : List (List UInt8) := [wEdge, dec e.a, dec e.b, timeT e.c]
def unitW (u : T3) : List (List UInt8) := [wUnit, kindName u.a, dec u.b, dec u.c]
def planW (p : Plan) : List (List UInt8) := wPlan :: p.code.data.toList :: dec p.urg :: p.kinds.map kindName
def parW (k : Nat) (z : Int) : List (List UInt8) := [(parNm k).data.toList, dec z]
/-- the lines of the parameters below k. -/
def parLs (ps : List Int) : Nat → List (List (List UInt8))
  | 0 => []
  | k + 1 => parLs ps k ++ (match ps[k]? with
    | some z => if defPs[k]? = some z then [] else [parW k z]
    | none => [])
def linesC (c : Cfg) : List (List (List UInt8)) := [wCentres, dec c.cen] :: (c.ds.map nodeW ++ (c.es.map edgeW ++ (c.us.map unitW ++ (c.pl.map planW ++ parLs c.ps 10))))
def textC (c : Cfg) : List UInt8 := ((linesC c).map lineT).flatten
theorem dec_len {z : Int} (h : z ≤ 9223372036854775807) : (dec z).length ≤ 20 := by
  have : ∀ (m n : Nat), n < 10 ^ m → 0 < m → (Lib.decDigits n).length ≤ m := by
    intro m
    induction m with
    | zero => intro n _ h; omega
    | succ m ih =>
      intro n hn _
      by_cases h : n < 10
      · rw [dec_small h]; simp
      · rw [dec_big h, List.length_append]
        have hp : (10:Nat) ^ (m + 1) = 10 ^ m * 10 := Nat.pow_succ ..
        have h1 : n / 10 < 10 ^ m := by omega
        have hm : 0 < m := by
          rcases Nat.eq_zero_or_pos m with e | e
          · subst e; simp at hn; omega
          · exact e
        have := ih (n / 10) h1 hm
        simp
        omega
  exact this 20 z.toNat (by omega) (by omega)
abbrev strV (l : List UInt8) : Value := .string (bs l)
def strC (l : List UInt8) : List Value := [strV l]
theorem strC_len (l : List UInt8) : (strC l).length = 1 := rfl
theorem flat_strs (L : List (List UInt8)) : L.flatMap strC = L.map strV := by
  induction L with
  | nil => rfl
  | cons x r ih => rw [List.flatMap_cons, ih]; rfl
theorem str_info : (Tryz.prog.info? 9).map (fun i => (i.zero, i.size, i.bytes)) = some (some (.string ⟨#[]⟩), 1, 16) := by kernel_rfl
theorem joinV_any (w : World) (v : Value) (base : Nat) (acc : List (List UInt8)) (h : OwnV strV w base 9 v acc) (sep : List UInt8) (hl : acc.length ≤ 140737488355328) (hj : (Lib.join acc sep).length ≤ 140737488355328) :
    Calls Tryz.prog 33 #[v, .string (bs sep)] w fun e w' => e = .returned (.string (bs (Lib.join acc sep))) ∧ Below w.heap.size w w' := by
  have hmap : (acc.map bs).map (·.data.toList) = acc := by
    rw [List.map_map]
    conv => rhs; rw [← List.map_id acc]
    exact List.map_congr_left (fun x _ => bs_data x)
  have hown := h
  obtain ⟨_, h2⟩ := h
  rcases h2 with ⟨rfl, hn⟩ | ⟨g, cap, cur, rfl, _, hh, hc, _⟩
  · have e : acc = [] := List.eq_nil_of_length_eq_zero hn
    subst e
    refine (Tryz.strings_Join_none none 0 (bs sep) w).mono ?_
    rintro e w' ⟨rfl, rfl⟩
    exact ⟨rfl, Below.refl _ _⟩
  · have := Tryz.strings_Join g 0 cap (acc.map bs) (bs sep) w (fun j x hx => by
      rw [List.getElem?_map] at hx
      obtain ⟨z, hz, rfl⟩ := Option.map_eq_some_iff.1 hx
      obtain ⟨b, o, e, hc⟩ := hown.cell hz
      cases e
      exact hc) (Array.getElem?_eq_some_iff.1 hh).1 (by rw [List.length_map]; omega) (by rw [List.length_map]; exact hc) (by rw [hmap, bs_data]; exact hj)
    rw [hmap, bs_data, List.length_map] at this
    exact this
theorem one_cell {W : World} {b : Nat} {v : Value} {t : TypeId} (h : W.heap[b]? = some (.cells #[v] t (0, 0))) : W.cell? ⟨b, 0, none⟩ = some v ∧ W.frozen? ⟨b, 0, none⟩ = false :=
  ⟨(cell_of_row W b 0 _ _ _ h).trans rfl, frozen_of_row W b 0 _ _ h⟩
theorem one_set {W : World} {b : Nat} {v u : Value} {t : TypeId} (h : W.heap[b]? = some (.cells #[v] t (0, 0))) : (W.setCell ⟨b, 0, none⟩ u).heap[b]? = some (.cells #[u] t (0, 0)) := by
  rw [heap_setCell_same W b 0 _ _ _ h]
  rfl
/-- the state of Format's loops: the variable lines lies in the block that was made right behind W0. -/
structure FSt (W0 : World) (v : Value) (L : List (List UInt8)) (W : World) : Prop where
  cl : W.heap[W0.heap.size]? = some (.cells #[v] 59 (0, 0))
  own : OwnR strC 1 W (W0.heap.size + 1) 9 v L
  below : Below W0.heap.size W0 W
/-- the blocks of the state. -/
def fmtB (W0 : World) (v : Value) (b : Nat) : Prop := b = W0.heap.size ∨ v.ownBlock = some b
section
variable {W0 W W' : World} {v u : Value} {L : List (List UInt8)}
theorem FSt.lt (h : FSt W0 v L W) : W0.heap.size < W.heap.size := (Array.getElem?_eq_some_iff.1 h.cl).1
theorem FSt.only (h : FSt W0 v L W) {S : Nat → Prop} (ho : Only S W W') (hS : ∀ b, fmtB W0 v b → ¬ S b) (hb : Below W0.heap.size W W') : FSt W0 v L W' :=
  ⟨(ho.block _ h.lt (hS _ (.inl rfl))).trans h.cl, ho.row h.own (fun k e => hS k (.inr e)), h.below.trans hb⟩
theorem FSt.next (h : FSt W0 v L W) (hb : Below W.heap.size W W') : FSt W0 v L W' :=
  h.only (S := fun _ => False) (Only.of_below hb) (fun _ _ q => q) (hb.mono (Nat.le_of_lt h.lt))
theorem FSt.not_own (h : FSt W0 v L W) {j : Nat} {x : List UInt8} (hj : L[j]? = some x) {b : Nat} {y : Value} (hc : W.cell? ⟨b, j, none⟩ = some y) (hne : y ≠ strV x) : v.ownBlock ≠ some b := by
  intro e
  have := (World.ownsRow.cells h.own e) j (strV x) (by rw [flat_strs, List.getElem?_map, hj]; rfl)
  rw [add_none, Nat.zero_add, hc] at this
  exact hne (Option.some.inj this)
theorem FSt.not_var (h : FSt W0 v L W) {b : Nat} {y : Value} (hc : W.cell? ⟨b, 0, none⟩ = some y) (hne : y ≠ v) : b ≠ W0.heap.size := by
  rintro rfl
  rw [(one_cell h.cl).1] at hc
  exact hne (Option.some.inj hc).symm
/-- the append of a line, behind it the store. -/
theorem FSt.push (h : FSt W0 v L W) {t : List UInt8} {g n cap : Nat} (hown : OwnR strC 1 W' (W0.heap.size + 1) 9 (.slice (some ⟨g, 0, none⟩) n cap) (L ++ [t])) (hg : W.grownBy W' v.ownBlock) :
    W'.cell? ⟨W0.heap.size, 0, none⟩ = some v ∧ W'.frozen? ⟨W0.heap.size, 0, none⟩ = false ∧ FSt W0 (.slice (some ⟨g, 0, none⟩) n cap) (L ++ [t]) (W'.setCell ⟨W0.heap.size, 0, none⟩ (.slice (some ⟨g, 0, none⟩) n cap)) ∧
      Only (fmtB W0 v) W (W'.setCell ⟨W0.heap.size, 0, none⟩ (.slice (some ⟨g, 0, none⟩) n cap)) := by
  have ho : Only (fun b => v.ownBlock = some b) W W' := Only.of_grown hg (fun j e => e)
  have hv : ∀ k, v.ownBlock = some k → W0.heap.size + 1 ≤ k := h.own.ge_base
  have cl := (ho.block _ h.lt (fun e => by have := hv _ e; omega)).trans h.cl
  obtain ⟨c1, c2⟩ := one_cell cl
  have ho2 : Only (fmtB W0 v) W (W'.setCell ⟨W0.heap.size, 0, none⟩ (.slice (some ⟨g, 0, none⟩) n cap)) := (ho.mono fun j _ e => .inr e).setCell (a := ⟨W0.heap.size, 0, none⟩) (fun _ => .inl rfl) _
  refine ⟨c1, c2, ⟨one_set cl, hown.setCell_other (fun e => Nat.not_succ_le_self _ (hown.ge_base _ e)) _, h.below.trans (ho2.below (Nat.le_of_lt h.lt) fun j e => ?_)⟩, ho2⟩
  rcases e with e | e
  · omega
  · have := hv _ e
    omega
end
end Go.Proofs.YtloacoalmfaceaaGreatDoor
