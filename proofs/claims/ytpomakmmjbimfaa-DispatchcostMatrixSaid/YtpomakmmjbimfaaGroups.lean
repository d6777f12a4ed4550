/-
  A map from int64 to []int that the call made: 'm[k] = append(m[k], x)', read key by key.
-/
import Derived.Test.YtpomakmmjbimfaaOpenOnes
import Derived.Maps.OwnRows
namespace Go.Proofs.Ytpomakmmjbimfaa
open Go.RowKit Go.Maps Go.ChangeMaps Go.MapKept Go.ChangeShapes
open Go.WideElems (Fit rd rg pl rd_val elemAt)

/-- block b is a map from integers (type k) to slices of integers (elements' type e); at the key z stand the numbers F z. -/
def MapG (P : Program) (k e : TypeId) (w : World) (base b n : Nat) (F : Int → List Int) : Prop :=
  ∃ D : DataW Unit, w.ownsGroups P k base e .i64 b n D ∧ ∀ z, (D.atKey (.int .i64 z) .nil = .nil ∧ F z = []) ∨ D.atKey (.int .i64 z) .nil = .slice (lits .i64 (F z)) []

section
variable {P : Program} {k e : TypeId} {w w' : World} {base b n : Nat} {F : Int → List Int}
theorem MapG.made : MapG P k e (w.alloc (.map #[] 0)) (w.heap.size + 1) w.heap.size 0 (fun _ => []) := ⟨.map [], World.ownsGroups_made _ _ _ _ _, fun _ => .inl ⟨rfl, rfl⟩⟩
theorem MapG.kept (h : MapG P k e w base b n F) (hb : Below w.heap.size w w') : MapG P k e w' base b n F := by
  obtain ⟨D, ⟨es, clock, h1, h2, h3, h4, h5, h6, h7⟩, hD⟩ := h
  have hg : w.grownBy w' none := ⟨hb.os, hb.tape, hb.output, hb.size, fun k hk _ => hb.block k hk⟩
  have kept : ∀ {v : Value} {zs : List Int}, w.ownsInts base e .i64 v zs → w'.ownsInts base e .i64 v zs := fun {v zs} h => h.kept hg (by
    cases v.ownBlock with
    | none => exact .inl rfl
    | some k => exact .inr (by simp))
  have hlt := (Array.getElem?_eq_some_iff.1 h1).1
  obtain ⟨F2, hmap, _⟩ := h2.stay (R' := rowElem w' base e .i64) (fun x _ z hz => by
    obtain ⟨ys, ho, rfl⟩ := rowElem_inv hz
    exact rowElem_mk (kept ho))
  refine ⟨D, ⟨es, clock, (hb.block b hlt).trans h1, F2, h3, by rw [hmap]; exact h4, h5, fun x hx zs ho => ?_, h7⟩, hD⟩
  obtain ⟨y, hy⟩ := h2.reads x hx
  obtain ⟨z, hz, _⟩ := rd_val hy
  obtain ⟨ys, ho2, _⟩ := rowElem_inv hz
  rw [ho.unique (kept ho2)]
  exact h6 x hx ys ho2
theorem MapG.lt (h : MapG P k e w base b n F) : b < w.heap.size ∧ b < base := by
  obtain ⟨D, ⟨es, clock, h1, _, _, _, h5, _⟩, _⟩ := h
  exact ⟨(Array.getElem?_eq_some_iff.1 h1).1, h5⟩

/-- the way back: after an append to the slice at the key z (or a new slice) and its store. -/
def BackG (P : Program) (t k e : TypeId) (w : World) (base b n : Nat) (F : Int → List Int) (z : Int) (v : Value) : Prop :=
  ∀ (w1 : World) (v' : Value) (zs' : List Int), w.grownBy w1 v.ownBlock → OwnI w1 base e v' zs' → (∀ y ∈ zs', (Lit.int .i64 y).wf = true) → zs'.length ≤ n + 1 → (v'.ownBlock = v.ownBlock ∨ ∃ g, v'.ownBlock = some g ∧ w.heap.size ≤ g) →
    ∃ w2, (Instr.mapUpdate t (.map (some b)) (.int .i64 z) v').run P w1 = .ok () w2 ∧ MapG P k e w2 base b (n + 1) (fun y => if y = z then zs' else F y) ∧ w1.grownBy w2 (some b)

theorem lits_inj : ∀ {a c : List Int}, lits (H := Unit) .i64 a = lits .i64 c → a = c
  | [], [], _ => rfl
  | [], _ :: _, h => by simp [lits] at h
  | _ :: _, [], h => by simp [lits] at h
  | x :: a, y :: c, h => by
    simp only [lits, List.map_cons, List.cons.injEq] at h
    obtain ⟨h1, h2⟩ := h
    injection h1 with h1
    injection h1 with _ h1
    rw [h1, lits_inj (a := a) (c := c) h2]

theorem MapG.at {t E : TypeId} (h : MapG P k e w base b n F) (hk : P.underlying k = some (.int .i64)) (ht : P.underlying t = some (.map k E)) (hz : (zeroValue E).run P w = .ok (.slice none 0 0) w) (hn : n < 9223372036854775807) {z : Int} (hwf : (Lit.int .i64 z).wf = true) :
    ∃ v, (Instr.lookup t (.map (some b)) (.int .i64 z) false).run P w = .ok v w ∧ OwnI w base e v (F z) ∧ (∀ y ∈ F z, (Lit.int .i64 y).wf = true) ∧ (F z).length ≤ n ∧ BackG P t k e w base b n F z v := by
  obtain ⟨D, ho, hD⟩ := h
  obtain ⟨v, zs, hrun, hat, hoi, hzl, hback⟩ := ho.at (int_keyed hk) ht hz (by unfold maxLen; omega) (keyOf_int_mk hk hwf)
  have hzs : zs = F z := by
    rcases hoi.datum (H := Unit) with ⟨h1, h2⟩ | h1
    · rw [h1] at hat
      rcases hD z with ⟨_, h3⟩ | h3
      · rw [h2, h3]
      · rw [h3] at hat
        cases hat
    · rw [h1] at hat
      rcases hD z with ⟨h2, _⟩ | h3
      · rw [h2] at hat
        cases hat
      · rw [h3] at hat
        injection hat with hat
        exact (lits_inj hat).symm
  subst hzs
  refine ⟨v, hrun, hoi.1, hoi.2, hzl, fun w1 v' zs' hg hown hwf' hl hloc => ?_⟩
  have hoi' : w1.ownsInts base e .i64 v' zs' := ⟨hown, hwf'⟩
  obtain ⟨w2, hr2, ho2, hg2⟩ := hback w1 v' zs' hg hoi' hl hloc
  refine ⟨w2, hr2, ⟨_, ho2, fun y => ?_⟩, hg2⟩
  dsimp only
  by_cases hy : y = z
  · subst hy
    have hm : IsMap D := by
      obtain ⟨es, clock, _, _, _, hD2, _⟩ := ho
      exact ⟨_, hD2⟩
    rw [if_pos rfl, atKey_put_same (k := .int .i64 y) hm trivial]
    rcases hoi'.datum (H := Unit) with h1 | h1
    · exact .inl h1
    · exact .inr h1
  · rw [if_neg hy, atKey_put_other (by intro q; injection q with _ q; exact hy q)]
    exact hD y
end

theorem BackG.append {P : Program} {t k e : TypeId} {w wk w4 : World} {base b n : Nat} {F : Int → List Int} {z x : Int} {v : Value} {g cap : Nat} (hback : BackG P t k e w base b n F z v) (hgr : w.grownBy wk v.ownBlock) (hwz : ∀ y ∈ F z, (Lit.int .i64 y).wf = true) (hwx : (Lit.int .i64 x).wf = true) (hzl : (F z).length ≤ n)
    (h4 : OwnI w4 base e (.slice (some ⟨g, 0, none⟩) ((F z).length + 1) cap) (F z ++ [x])) (hg4 : wk.grownBy w4 v.ownBlock) (hat : v.ownBlock = some g ∨ wk.heap.size ≤ g) :
    ∃ w5, (Instr.mapUpdate t (.map (some b)) (.int .i64 z) (.slice (some ⟨g, 0, none⟩) ((F z).length + 1) cap)).run P w4 = .ok () w5 ∧ MapG P k e w5 base b (n + 1) (fun y => if y = z then F z ++ [x] else F y) ∧ w4.grownBy w5 (some b) := by
  refine hback w4 _ _ (hgr.trans hg4) h4 (fun y hy => ?_) (by simp; omega) ?_
  · rcases List.mem_append.1 hy with hy | hy
    · exact hwz y hy
    · simp at hy
      subst hy
      exact hwx
  · rcases hat with h | h
    · exact .inl h.symm
    · exact .inr ⟨g, rfl, Nat.le_trans hgr.size h⟩

section
variable {P : Program} {ops : Array Oper} {o : Oper} {a : Act} {K : Act → World → Prop} {Q : Exit → Act → World → Prop} {X : Prop} (w : World)
/-- a look-up within a region that draws its order. -/
theorem step_lookup (hw : Region.wanted o (yielded ops a.tmps) = true) (m x : Operand) (t : TypeId) (hop : o.op = Op.lookup t m x false) (mv xv v : Value) (hm : a.eval m = mv) (hx : a.eval x = xv) (hrun : (Instr.lookup t mv xv false).run P w = .ok v w) (h : K (a.put o.dst v) w) :
    if Region.wanted o (yielded ops a.tmps) = true then Oper.wp P o a w K Q else X := by
  rw [if_pos hw]
  unfold Oper.wp
  simp [execOp, hop, hm, hx, hrun, Result.andThen]
  exact h
/-- 'append(v, x)' of one integer whose cell lies wherever. -/
theorem step_append_cell (hgd : o.guard = none) (s x : Operand) (t : TypeId) (ho : o.op = .call { callee := .builtin .append, args := #[s, x], argTypes := #[t, t] })
    (base : Nat) (e : TypeId) (ht : P.underlying t = some (.slice e)) (hinfo : (P.info? e).map (fun i => (i.zero, i.size, i.bytes)) = some (some (.int .i64 0), 1, 8))
    (v : Value) (zs : List Int) (z : Int) (hs : a.eval s = v) (hown : OwnI w base e v zs) (N : Nat) (hx : a.eval x = .slice (some ⟨N, 0, none⟩) 1 1) (hc : w.cell? ⟨N, 0, none⟩ = some (.int .i64 z)) (hlen : zs.length + 1 ≤ 4398046511104) (hbase : base ≤ w.heap.size)
    (h : ∀ g cap w', OwnI w' base e (.slice (some ⟨g, 0, none⟩) (zs.length + 1) cap) (zs ++ [z]) → w.grownBy w' v.ownBlock → (v.ownBlock = some g ∨ w.heap.size ≤ g) → K (a.put o.dst (.slice (some ⟨g, 0, none⟩) (zs.length + 1) cap)) w') :
    if Region.wanted o (yielded ops a.tmps) = true then Oper.wp P o a w K Q else X := by
  obtain ⟨i0, hi, hz1, hz2, hz3⟩ := info_parts hinfo
  refine step_append_lies _ hgd s x t ho base e i0 (.int .i64 0) 1 8 ht hi hz1 hz2 hz3 rfl (by decide) v zs.length (zs.map (Value.int .i64)) hs hown ⟨N, 0, none⟩ 1 1 [.int .i64 z] hx rfl (fun j u hj => ?_) (by intro u hu; simp at hu; subst hu; rfl) (by decide) (by unfold maxLen; omega) (by omega) hbase _ rfl ?_
  · match j, hj with
    | 0, hj => cases hj; exact hc
    | j + 1, hj => simp at hj
  intro g cap w' h1 h2 h3 _
  refine h g cap w' ?_ h2 ?_
  · unfold OwnI OwnV
    simpa using h1
  · rcases h3 with h3 | h3
    · exact .inl h3
    · right
      rw [h3]
      exact Nat.le_refl _
theorem step_mapUpdate {w2 : World} (hw : Region.wanted o (yielded ops a.tmps) = true) (m x v : Operand) (t : TypeId) (hop : o.op = Op.mapUpdate t m x v) (mv xv vv : Value) (hm : a.eval m = mv) (hx : a.eval x = xv) (hv : a.eval v = vv) (hrun : (Instr.mapUpdate t mv xv vv).run P w = .ok () w2) (h : K (a.put o.dst undef) w2) :
    if Region.wanted o (yielded ops a.tmps) = true then Oper.wp P o a w K Q else X := by
  rw [if_pos hw]
  unfold Oper.wp
  simp [execOp, hop, hm, hx, hv, hrun, Result.andThen]
  exact h
end
end Go.Proofs.Ytpomakmmjbimfaa
