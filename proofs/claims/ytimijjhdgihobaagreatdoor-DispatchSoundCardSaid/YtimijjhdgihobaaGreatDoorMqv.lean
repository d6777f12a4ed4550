/-
  Memory of assignment: whole blocks (lines of XTrRo), cost matrices, the square.
-/
import Derived.Test.YtimijjhdgihobaaGreatDoorMqd
import Derived.Test.YtimijjhdgihobaaGreatDoorMqa
import Derived.Test.YtimijjhdgihobaaGreatDoorMqe
import Derived.Test.YtimijjhdgihobaaGreatDoorMqj
namespace Go.Proofs.YtimijjhdgihobaaGreatDoor
section
open Go.RowKit Go.Maps

/-- the block b holds the cells cs. -/
def Blk (X : World) (b : Nat) (T : TypeId) (cs : List Value) : Prop := X.heap[b]? = some (.cells cs.toArray T (0, 0))
section
variable {X Y : World} {b g : Nat} {T : TypeId} {cs : List Value}
theorem Blk.lt (h : Blk X b T cs) : b < X.heap.size := (Array.getElem?_eq_some_iff.1 h).1
theorem Blk.cell (h : Blk X b T cs) {j : Nat} {u : Value} (hj : cs[j]? = some u) : X.cell? ⟨b, j, none⟩ = some u := by
  rw [Lib.cell_of_heap h]
  simpa using hj
theorem Blk.free (h : Blk X b T cs) (j : Nat) : X.frozen? ⟨b, j, none⟩ = false := Lib.frozen_of_heap h j
theorem Blk.set (h : Blk X b T cs) (j : Nat) (u : Value) : Blk (X.setCell ⟨b, j, none⟩ u) b T (cs.set j u) := by
  unfold Blk
  rw [heap_setCell_same X b j _ _ _ h]
  simp
theorem Blk.other (h : Blk X b T cs) (hg : b ≠ g) (j : Nat) (u : Value) : Blk (X.setCell ⟨g, j, none⟩ u) b T cs := (heap_setCell_other X ⟨g, j, none⟩ b u hg).trans h
theorem Blk.below {B : Nat} (h : Blk X b T cs) (hb : Below B X Y) (hlt : b < B) : Blk Y b T cs := (hb.block b hlt).trans h
theorem Blk.next (h : Blk X b T cs) (hb : Below X.heap.size X Y) : Blk Y b T cs := (hb.block b h.lt).trans h
theorem blk_new (w : World) (cs : List Value) (T : TypeId) : Blk (w.alloc (.cells cs.toArray T)) w.heap.size T cs := by
  show (w.heap.push _)[w.heap.size]? = _
  simp
end
/-- a block of numbers. -/
def BlkI (X : World) (b : Nat) (T : TypeId) (L : List Int) : Prop := Blk X b T (L.map (Value.int .i64))
section
variable {X Y : World} {b g : Nat} {T : TypeId} {L : List Int}
theorem BlkI.lt (h : BlkI X b T L) : b < X.heap.size := Blk.lt h
theorem BlkI.cell (h : BlkI X b T L) {j : Nat} (hj : j < L.length) : X.cell? ⟨b, j, none⟩ = some (.int .i64 (mF L j)) := Blk.cell h (by rw [List.getElem?_map, mF_lt hj]; rfl)
theorem BlkI.free (h : BlkI X b T L) (j : Nat) : X.frozen? ⟨b, j, none⟩ = false := Blk.free h j
theorem BlkI.set (h : BlkI X b T L) (j : Nat) (x : Int) : BlkI (X.setCell ⟨b, j, none⟩ (.int .i64 x)) b T (L.set j x) := by
  have := Blk.set h j (.int .i64 x)
  unfold BlkI
  rwa [List.map_set]
theorem BlkI.other (h : BlkI X b T L) (hg : b ≠ g) (j : Nat) (u : Value) : BlkI (X.setCell ⟨g, j, none⟩ u) b T L := Blk.other h hg j u
theorem BlkI.below {B : Nat} (h : BlkI X b T L) (hb : Below B X Y) (hlt : b < B) : BlkI Y b T L := Blk.below h hb hlt
theorem BlkI.next (h : BlkI X b T L) (hb : Below X.heap.size X Y) : BlkI Y b T L := Blk.next h hb
end
/-- a block of truth values. -/
def BlkB (X : World) (b : Nat) (T : TypeId) (L : List Bool) : Prop := Blk X b T (L.map Value.bool)
section
variable {X Y : World} {b g : Nat} {T : TypeId} {L : List Bool}
theorem BlkB.cell (h : BlkB X b T L) {j : Nat} (hj : j < L.length) : X.cell? ⟨b, j, none⟩ = some (.bool (bF L j)) := Blk.cell h (by rw [List.getElem?_map, bF_get hj]; rfl)
theorem BlkB.set (h : BlkB X b T L) (j : Nat) (x : Bool) : BlkB (X.setCell ⟨b, j, none⟩ (.bool x)) b T (L.set j x) := by
  have := Blk.set h j (.bool x)
  unfold BlkB
  rwa [List.map_set]
theorem BlkB.other (h : BlkB X b T L) (hg : b ≠ g) (j : Nat) (u : Value) : BlkB (X.setCell ⟨g, j, none⟩ u) b T L := Blk.other h hg j u
end

/-- a slice of slices of numbers. -/
def MatAt (w : World) (B : Nat) (A : Option Addr) (M : List (List Int)) : Prop :=
  ∃ vs : List Value, vs.length = M.length ∧ Sl w B A vs ∧ ∀ (i : Nat) (row : List Int), M[i]? = some row → ∃ A' c', vs[i]? = some (.slice A' row.length c') ∧ Sl w B A' (row.map (Value.int .i64))
section
variable {w w' : World} {B B' : Nat} {A : Option Addr} {M : List (List Int)}
theorem MatAt.below (h : MatAt w B A M) (hb : Below B w w') : MatAt w' B A M := by
  obtain ⟨vs, h1, h2, h3⟩ := h
  refine ⟨vs, h1, h2.below hb, fun i row hr => ?_⟩
  obtain ⟨A', c', h4, h5⟩ := h3 i row hr
  exact ⟨A', c', h4, h5.below hb⟩
theorem MatAt.more (h : MatAt w B A M) (hB : B ≤ B') : MatAt w B' A M := by
  obtain ⟨vs, h1, h2, h3⟩ := h
  refine ⟨vs, h1, h2.more hB, fun i row hr => ?_⟩
  obtain ⟨A', c', h4, h5⟩ := h3 i row hr
  exact ⟨A', c', h4, h5.more hB⟩
theorem MatAt.row (h : MatAt w B A M) {i : Nat} {row : List Int} (hr : M[i]? = some row) : ∃ b o A' c', A = some ⟨b, o, none⟩ ∧ b < B ∧ w.cell? ⟨b, o + i, none⟩ = some (.slice A' row.length c') ∧ Sl w B A' (row.map (Value.int .i64)) := by
  obtain ⟨vs, h1, h2, h3⟩ := h
  obtain ⟨A', c', h4, h5⟩ := h3 i row hr
  obtain ⟨b, o, e, hb, hc⟩ := h2 i _ h4
  exact ⟨b, o, A', c', e, hb, hc, h5⟩
theorem Sl.num {zs : List Int} (h : Sl w B A (zs.map (Value.int .i64))) {j : Nat} (hj : j < zs.length) : ∃ b o, A = some ⟨b, o, none⟩ ∧ b < B ∧ w.cell? ⟨b, o + j, none⟩ = some (.int .i64 (mF zs j)) :=
  h j _ (by rw [List.getElem?_map, mF_lt hj]; rfl)
end

/-- one number of a matrix. -/
theorem MatAt.num {w : World} {B ab ao : Nat} {M : List (List Int)} {N : Nat} (h : MatAt w B (some ⟨ab, ao, none⟩) M) (hN : ∀ l ∈ M, l.length = N) {i j : Nat} (hi : i < M.length) (hj : j < N) :
    ab < B ∧ ∃ b2 o2 c', b2 < B ∧ w.cell? ⟨ab, ao + i, none⟩ = some (.slice (some ⟨b2, o2, none⟩) N c') ∧ w.cell? ⟨b2, o2 + j, none⟩ = some (.int .i64 (cF M i j)) := by
  have hm := List.getElem_mem (l := M) hi
  have hl := hN _ hm
  obtain ⟨b, o, A', c', e, hb, hc, hs⟩ := h.row (List.getElem?_eq_getElem hi)
  injection e with e
  injection e with e1 e2
  subst e1 e2
  obtain ⟨b2, o2, rfl, hb2, hc2⟩ := hs.num (j := j) (by omega)
  rw [hl] at hc
  refine ⟨hb, b2, o2, c', hb2, hc, ?_⟩
  rw [hc2]
  unfold cF mF
  rw [List.getElem?_eq_getElem hi]
  rfl
/-- the square of a problem: its costs lie below B and are not written; the prices and the matching lie at bu, bv, bp. -/
structure Sq (X : World) (B q bu bv bp : Nat) (A : Option Addr) (c N : Nat) (C : List (List Int)) (U V P : List Int) : Prop where
  fld : Blk X q 132 [.slice A N c, .int .i64 N, .slice (some ⟨bp, 0, none⟩) N N, .slice (some ⟨bu, 0, none⟩) N N, .slice (some ⟨bv, 0, none⟩) N N]
  mat : MatAt X B A C
  cl : C.length = N
  rl : ∀ l ∈ C, l.length = N
  qB : q < B
  uB : B ≤ bu
  vB : B ≤ bv
  pB : B ≤ bp
  uv : bu ≠ bv
  up : bu ≠ bp
  vp : bv ≠ bp
  ru : BlkI X bu 2 U
  rv : BlkI X bv 2 V
  rp : BlkI X bp 3 P
  ul : U.length = N
  vl : V.length = N
  pl : P.length = N
section
variable {X Y : World} {B q bu bv bp : Nat} {A : Option Addr} {c N : Nat} {C : List (List Int)} {U V P : List Int}
theorem Sq.next (h : Sq X B q bu bv bp A c N C U V P) (hb : Below X.heap.size X Y) : Sq Y B q bu bv bp A c N C U V P :=
  { h with fld := h.fld.next hb, mat := h.mat.below (hb.mono (by have := h.ru.lt; have := h.uB; omega)), ru := h.ru.next hb, rv := h.rv.next hb, rp := h.rp.next hb }
theorem Sq.ge (h : Sq X B q bu bv bp A c N C U V P) : B ≤ X.heap.size := by have := h.ru.lt; have := h.uB; omega
theorem Sq.setU (h : Sq X B q bu bv bp A c N C U V P) (j : Nat) (x : Int) : Sq (X.setCell ⟨bu, j, none⟩ (.int .i64 x)) B q bu bv bp A c N C (U.set j x) V P :=
  { h with fld := h.fld.other (by have := h.qB; have := h.uB; omega) _ _, mat := h.mat.below ((Below.refl _ _).setCell (p := ⟨bu, j, none⟩) h.uB _), ru := h.ru.set j x, rv := h.rv.other (fun e => h.uv e.symm) _ _, rp := h.rp.other (fun e => h.up e.symm) _ _, ul := by rw [List.length_set]; exact h.ul }
theorem Sq.setV (h : Sq X B q bu bv bp A c N C U V P) (j : Nat) (x : Int) : Sq (X.setCell ⟨bv, j, none⟩ (.int .i64 x)) B q bu bv bp A c N C U (V.set j x) P :=
  { h with fld := h.fld.other (by have := h.qB; have := h.vB; omega) _ _, mat := h.mat.below ((Below.refl _ _).setCell (p := ⟨bv, j, none⟩) h.vB _), ru := h.ru.other h.uv _ _, rv := h.rv.set j x, rp := h.rp.other (fun e => h.vp e.symm) _ _, vl := by rw [List.length_set]; exact h.vl }
theorem Sq.setP (h : Sq X B q bu bv bp A c N C U V P) (j : Nat) (x : Int) : Sq (X.setCell ⟨bp, j, none⟩ (.int .i64 x)) B q bu bv bp A c N C U V (P.set j x) :=
  { h with fld := h.fld.other (by have := h.qB; have := h.pB; omega) _ _, mat := h.mat.below ((Below.refl _ _).setCell (p := ⟨bp, j, none⟩) h.pB _), ru := h.ru.other h.up _ _, rv := h.rv.other h.vp _ _, rp := h.rp.set j x, pl := by rw [List.length_set]; exact h.pl }
/-- a store into another block at or behind B. -/
theorem Sq.other (h : Sq X B q bu bv bp A c N C U V P) {g : Nat} (hg : B ≤ g) (h1 : bu ≠ g) (h2 : bv ≠ g) (h3 : bp ≠ g) (j : Nat) (v : Value) : Sq (X.setCell ⟨g, j, none⟩ v) B q bu bv bp A c N C U V P :=
  { h with fld := h.fld.other (by have := h.qB; omega) _ _, mat := h.mat.below ((Below.refl _ _).setCell (p := ⟨g, j, none⟩) hg _), ru := h.ru.other h1 _ _, rv := h.rv.other h2 _ _, rp := h.rp.other h3 _ _ }
end
end
end Go.Proofs.YtimijjhdgihobaaGreatDoor
