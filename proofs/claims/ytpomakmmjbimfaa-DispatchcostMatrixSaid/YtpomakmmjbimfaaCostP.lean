/-
  Words for dispatchcost.CostMatrix: what a cell of the matrix is; the memory of the call.
-/
import Derived.Test.YtpomakmmjbimfaaMapV
import Derived.Test.YtpomakmmjbimfaaWay
import Derived.Test.YtpomakmmjbimfaaSlotsC
import Derived.Test.YtpomakmmjbimfaaSatB
import Derived.Test.YtpomakmmjbimfaaEqual
namespace Go.Proofs.Ytpomakmmjbimfaa
open Go.RowKit Go.Maps

/-- t is the travel time from z to the nodes zs. -/
def TT (n : Nat) (E : List EdgeT) (ts : List Int) (z : Int) (zs : List Int) (t : Int) : Prop := ∃ D, Fin35 n (fun s => (s : Int) ∈ [z] ∧ s < n) E (timesL ts E.length) D ∧ t = farL D zs
theorem TT.unique {n : Nat} {E : List EdgeT} {ts : List Int} {z : Int} {zs : List Int} {t t' : Int} (h : TT n E ts z zs t) (h' : TT n E ts z zs t') : t = t' := by
  obtain ⟨D, h1, rfl⟩ := h
  obtain ⟨D', h2, rfl⟩ := h'
  rw [h1.unique (okW_times _ _) h2]
def CostC (n : Nat) (E : List EdgeT) (ts : List Int) (s : SlotT) (u : UnitT) (c : Int) : Prop := (satB u.kind s.kind = true → TT n E ts u.node s.nodes c) ∧ (satB u.kind s.kind = false → c = 4611686018427387904)
theorem CostC.unique {n : Nat} {E : List EdgeT} {ts : List Int} {s : SlotT} {u : UnitT} {c c' : Int} (h : CostC n E ts s u c) (h' : CostC n E ts s u c') : c = c' := by
  cases hs : satB u.kind s.kind
  · rw [h.2 hs, h'.2 hs]
  · exact (h.1 hs).unique (h'.1 hs)
def RowP (n : Nat) (E : List EdgeT) (ts : List Int) (us : List UnitT) (s : SlotT) (row : List Int) (k : Nat) : Prop := row.length = us.length ∧ ∀ (j : Nat) (u : UnitT) (c : Int), j < k → us[j]? = some u → row[j]? = some c → CostC n E ts s u c

/-- a row of cells is no map. -/
theorem own_no_map {α : Type} {f : α → Value} {P : Program} {k : TypeId} {w : World} {base b m : Nat} {e : TypeId} {v : Value} {zs : List α} {F : Int → Option Value} (h : OwnV f w base e v zs) (hm : MapV P k w b m F) : v.ownBlock ≠ some b := fun hv => by
  obtain ⟨_, h2⟩ := h
  obtain ⟨es, clock, hb, _⟩ := hm
  rcases h2 with ⟨rfl, _⟩ | ⟨g', cap, cur, rfl, _, hh, _⟩
  · cases hv
  · simp only [Value.ownBlock, Option.some.injEq] at hv
    subst hv
    rw [hb] at hh
    cases hh
theorem own_kept_of {α : Type} {f : α → Value} {w w' : World} {base : Nat} {e : TypeId} {v : Value} {zs : List α} {b : Nat} (h : OwnV f w base e v zs) (hg : w.grownBy w' (some b)) (hne : v.ownBlock ≠ some b) : OwnV f w' base e v zs := World.ownsRow.kept h hg (.inr hne)

/-- the memory of the call: the matrix (its rows up to k done), and the distances that are known. 'ex': the block of the row that is being filled. -/
structure CM (w : World) (n : Nat) (E : List EdgeT) (ts : List Int) (ss : List SlotT) (us : List UnitT) (go b1 : Nat) (vs : List Value) (F1 : Int → Option Value) (k q : Nat) (ex : Option Nat) (wr : World) : Prop where
  outer : OwnV (fun v : Value => v) wr w.heap.size 25 (.slice (some ⟨go, 0, none⟩) ss.length ss.length) vs
  rows : ∀ (i : Nat) (s : SlotT) (v : Value), i < k → ss[i]? = some s → vs[i]? = some v → ∃ g row, v = .slice (some ⟨g, 0, none⟩) us.length us.length ∧ OwnI wr w.heap.size 2 v row ∧ RowP n E ts us s row us.length ∧ ex ≠ some g
  map : MapV Try.prog 3 wr b1 q F1
  dist : ∀ (z : Int) (v : Value), F1 z = some v → ∃ g D, v = .slice (some ⟨g, 0, none⟩) n n ∧ OwnI wr w.heap.size 2 v D ∧ Fin35 n (fun s => (s : Int) ∈ [z] ∧ s < n) E (timesL ts E.length) D ∧ ex ≠ some g
  below : Below w.heap.size w wr

section
variable {w wr w' : World} {n : Nat} {E : List EdgeT} {ts : List Int} {ss : List SlotT} {us : List UnitT} {go b1 : Nat} {vs : List Value} {F1 : Int → Option Value} {k q : Nat} {ex : Option Nat}
theorem CM.kept_new (h : CM w n E ts ss us go b1 vs F1 k q ex wr) (hb : Below wr.heap.size wr w') : CM w n E ts ss us go b1 vs F1 k q ex w' := by
  refine ⟨OwnV.kept_new h.outer hb, fun i s v hi hs hv => ?_, h.map.same (hb.block _ h.map.lt), fun z v hz => ?_, h.below.trans (hb.mono h.below.size)⟩
  · obtain ⟨g, row, e, h1, h2, h3⟩ := h.rows i s v hi hs hv
    exact ⟨g, row, e, OwnV.kept_new h1 hb, h2, h3⟩
  · obtain ⟨g, D, e, h1, h2, h3⟩ := h.dist z v hz
    exact ⟨g, D, e, OwnV.kept_new h1 hb, h2, h3⟩
/-- another map is written. -/
theorem CM.otherMap (h : CM w n E ts ss us go b1 vs F1 k q ex wr) {P : Program} {kt : TypeId} {b2 m : Nat} {F2 : Int → Option Value} (hm : MapV P kt wr b2 m F2) (hne : b2 ≠ b1) (hB : w.heap.size ≤ b2) (hg : wr.grownBy w' (some b2)) : CM w n E ts ss us go b1 vs F1 k q ex w' := by
  refine ⟨own_kept_of h.outer hg (own_no_map h.outer hm), fun i s v hi hs hv => ?_, h.map.same (hg.block b1 h.map.lt (fun e => by injection e with e; exact hne e.symm)), fun z v hz => ?_, h.below.grown hg h.below.size (fun j hj => by cases hj; exact hB)⟩
  · obtain ⟨g, row, e, h1, h2, h3⟩ := h.rows i s v hi hs hv
    exact ⟨g, row, e, own_kept_of h1 hg (own_no_map h1 hm), h2, h3⟩
  · obtain ⟨g, D, e, h1, h2, h3⟩ := h.dist z v hz
    exact ⟨g, D, e, own_kept_of h1 hg (own_no_map h1 hm), h2, h3⟩
/-- a distance more. -/
theorem CM.put (h : CM w n E ts ss us go b1 vs F1 k q ex wr) (hB : w.heap.size ≤ b1) (hq : q < 9223372036854775807) {z : Int} (hwf : (Lit.int .i64 z).wf = true) {g : Nat} {D : List Int} (hD : OwnI wr w.heap.size 2 (.slice (some ⟨g, 0, none⟩) n n) D) (hf : Fin35 n (fun s => (s : Int) ∈ [z] ∧ s < n) E (timesL ts E.length) D) (hx : ex ≠ some g) :
    ∃ w', (Instr.mapUpdate 79 (.map (some b1)) (.int .i64 z) (.slice (some ⟨g, 0, none⟩) n n)).run Try.prog wr = .ok () w' ∧ CM w n E ts ss us go b1 vs (updV F1 z (.slice (some ⟨g, 0, none⟩) n n)) k (q + 1) ex w' ∧ wr.grownBy w' (some b1) := by
  obtain ⟨w', hr, hm, hg⟩ := h.map.put Try.underlying3 Try.underlying79 hq hwf (.slice (some ⟨g, 0, none⟩) n n)
  refine ⟨w', hr, ⟨own_kept_of h.outer hg (own_no_map h.outer h.map), fun i s v hi hs hv => ?_, hm, fun y v hy => ?_, h.below.grown hg h.below.size (fun j hj => by cases hj; exact hB)⟩, hg⟩
  · obtain ⟨g', row, e, h1, h2, h3⟩ := h.rows i s v hi hs hv
    exact ⟨g', row, e, own_kept_of h1 hg (own_no_map h1 h.map), h2, h3⟩
  · unfold updV at hy
    split at hy
    · rename_i e
      subst e
      cases hy
      exact ⟨g, D, rfl, own_kept_of hD hg (own_no_map hD h.map), hf, hx⟩
    · obtain ⟨g', D', e, h1, h2, h3⟩ := h.dist y v hy
      exact ⟨g', D', e, own_kept_of h1 hg (own_no_map h1 h.map), h2, h3⟩
/-- blocks of rows of different element types are different. -/
theorem own_other {α β : Type} {f : α → Value} {f' : β → Value} {base base' : Nat} {e e' : TypeId} {v u : Value} {zs : List α} {ys : List β} (h : OwnV f wr base e v zs) (h' : OwnV f' wr base' e' u ys) (hne : e ≠ e') {g : Nat} (hu : u.ownBlock = some g) : v.ownBlock ≠ some g := fun hv => by
  obtain ⟨_, h2⟩ := h'
  rcases h2 with ⟨rfl, _⟩ | ⟨g', cap, cur, rfl, _, hh, _⟩
  · cases hu
  · simp only [Value.ownBlock, Option.some.injEq] at hu
    subst hu
    exact own_type h hv ⟨_, hh⟩ hne
theorem map_setCell {P : Program} {kt : TypeId} {b m : Nat} {F : Int → Option Value} (h : MapV P kt wr b m F) {a : Addr} (hne : b ≠ a.block) (v : Value) : MapV P kt (wr.setCell a v) b m F := h.same (Below.heap_setCell wr a v b hne)
/-- the row k is laid. -/
theorem CM.setOuter (h : CM w n E ts ss us go b1 vs F1 k q none wr) {gc : Nat} {row : List Int} (hr : OwnI wr w.heap.size 2 (.slice (some ⟨gc, 0, none⟩) us.length us.length) row) (hfresh : ∀ (u : Value) (zs : List Int), OwnI wr w.heap.size 2 u zs → (∃ z, F1 z = some u) ∨ (∃ i, i < k ∧ vs[i]? = some u) → u.ownBlock ≠ some gc) :
    CM w n E ts ss us go b1 (vs.set k (.slice (some ⟨gc, 0, none⟩) us.length us.length)) F1 k q (some gc) (wr.setCell ⟨go, k, none⟩ (.slice (some ⟨gc, 0, none⟩) us.length us.length)) ∧ OwnI (wr.setCell ⟨go, k, none⟩ (.slice (some ⟨gc, 0, none⟩) us.length us.length)) w.heap.size 2 (.slice (some ⟨gc, 0, none⟩) us.length us.length) row := by
  have hgo : w.heap.size ≤ go := OwnV.ge_base h.outer go rfl
  have key : ∀ (u : Value) (zs : List Int), OwnI wr w.heap.size 2 u zs → OwnI (wr.setCell ⟨go, k, none⟩ (.slice (some ⟨gc, 0, none⟩) us.length us.length)) w.heap.size 2 u zs := fun u zs hu => OwnV.setCell_other hu (a := ⟨go, k, none⟩) (own_other hu h.outer (by decide) rfl) _
  refine ⟨⟨h.outer.stored k _, fun i s v hi hs hv => ?_, map_setCell h.map (a := ⟨go, k, none⟩) (fun e => own_no_map h.outer h.map (by rw [e]; rfl)) _, fun z v hz => ?_, h.below.setCell (p := ⟨go, k, none⟩) hgo _⟩, key _ _ hr⟩
  · rw [List.getElem?_set_ne (by omega)] at hv
    obtain ⟨g, row', e, h1, h2, _⟩ := h.rows i s v hi hs hv
    refine ⟨g, row', e, key _ _ h1, h2, fun q => hfresh v row' h1 (.inr ⟨i, hi, hv⟩) ?_⟩
    rw [e]
    exact q.symm
  · obtain ⟨g, D, e, h1, h2, _⟩ := h.dist z v hz
    refine ⟨g, D, e, key _ _ h1, h2, fun q => hfresh v D h1 (.inl ⟨z, hz⟩) ?_⟩
    rw [e]
    exact q.symm
/-- a cell of the row is filled. -/
theorem CM.setRow {gc : Nat} (h : CM w n E ts ss us go b1 vs F1 k q (some gc) wr) {row : List Int} (hr : OwnI wr w.heap.size 2 (.slice (some ⟨gc, 0, none⟩) us.length us.length) row) (j : Nat) (c : Int) :
    CM w n E ts ss us go b1 vs F1 k q (some gc) (wr.setCell ⟨gc, j, none⟩ (.int .i64 c)) ∧ OwnI (wr.setCell ⟨gc, j, none⟩ (.int .i64 c)) w.heap.size 2 (.slice (some ⟨gc, 0, none⟩) us.length us.length) (row.set j c) := by
  have hgc : w.heap.size ≤ gc := OwnV.ge_base hr gc rfl
  refine ⟨⟨OwnV.setCell_other h.outer (a := ⟨gc, j, none⟩) (own_other h.outer hr (by decide) rfl) _, fun i s v hi hs hv => ?_, map_setCell h.map (a := ⟨gc, j, none⟩) (fun e => own_no_map hr h.map (by rw [e]; rfl)) _, fun z v hz => ?_, h.below.setCell (p := ⟨gc, j, none⟩) hgc _⟩, hr.stored j c⟩
  · obtain ⟨g, row', e, h1, h2, h3⟩ := h.rows i s v hi hs hv
    refine ⟨g, row', e, OwnV.setCell_other h1 (a := ⟨gc, j, none⟩) (fun q => h3 ?_) _, h2, h3⟩
    rw [e] at q
    exact q.symm
  · obtain ⟨g, D, e, h1, h2, h3⟩ := h.dist z v hz
    refine ⟨g, D, e, OwnV.setCell_other h1 (a := ⟨gc, j, none⟩) (fun q => h3 ?_) _, h2, h3⟩
    rw [e] at q
    exact q.symm
theorem CM.row_done {gc : Nat} (h : CM w n E ts ss us go b1 vs F1 k q (some gc) wr) {row : List Int} (hr : OwnI wr w.heap.size 2 (.slice (some ⟨gc, 0, none⟩) us.length us.length) row) {s : SlotT} (hs : ss[k]? = some s) (hv : vs[k]? = some (.slice (some ⟨gc, 0, none⟩) us.length us.length)) (hp : RowP n E ts us s row us.length) : CM w n E ts ss us go b1 vs F1 (k + 1) q none wr := by
  refine ⟨h.outer, fun i s' v hi hs' hv' => ?_, h.map, fun z v hz => ?_, h.below⟩
  · by_cases c : i < k
    · obtain ⟨g, row', e, h1, h2, _⟩ := h.rows i s' v c hs' hv'
      exact ⟨g, row', e, h1, h2, by simp⟩
    · obtain rfl : i = k := by omega
      rw [hs] at hs'
      cases hs'
      rw [hv] at hv'
      cases hv'
      exact ⟨gc, row, rfl, hr, hp, by simp⟩
  · obtain ⟨g, D, e, h1, h2, _⟩ := h.dist z v hz
    exact ⟨g, D, e, h1, h2, by simp⟩
end
end Go.Proofs.Ytpomakmmjbimfaa
