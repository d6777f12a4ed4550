/-
  A map from int64 to []int that the call made: 'm[k] = append(m[k], x)', read key by key.
  Slots as they lie in memory; the units assigned to each incident (dispatchcost.Slots, its first loop).
-/
import Derived.Test.YtimijjhdgihobaaGreatDoorMqk
import Derived.Maps.OwnRows
namespace Go.Proofs.YtimijjhdgihobaaGreatDoor
section
open Go.RowKit Go.Maps Go.ChangeMaps Go.MapKept Go.ChangeShapes
open Go.WideElems (Fit rd rg pl rd_val elemAt)

/-- block b is a map from integers (type k) to slices of integers (elements' type e); at the key z stand the numbers F z. -/
def MapG (P : Program) (k e : TypeId) (w : World) (base b n : Nat) (F : Int → List Int) : Prop :=
  ∃ D : DataW Unit, w.ownsGroups P k base e .i64 b n D ∧ ∀ z, (D.atKey (.int .i64 z) .nil = .nil ∧ F z = []) ∨ D.atKey (.int .i64 z) .nil = .slice (lits .i64 (F z)) []

section
variable {P : Program} {k e : TypeId} {w w' : World} {base b n : Nat} {F : Int → List Int}
theorem MapG.made : MapG P k e (w.alloc (.map #[] 0)) (w.heap.size + 1) w.heap.size 0 (fun _ => []) := ⟨.map [], World.ownsGroups_made _ _ _ _ _, fun _ => .inl ⟨rfl, rfl⟩⟩
theorem MapG.kept (h : MapG P k e w base b n F) (hb : Below w.heap.size w w') : MapG P k e w' base b n F := by
  obtain ⟨D, ⟨es, clock, h1, h2, h3, h4, h5, h6, h7⟩, hD⟩ := h
  have hg : w.grownBy w' none := ⟨hb.os, hb.tape, hb.output, hb.size, fun k hk _ => hb.block k hk⟩
  have kept : ∀ {v : Value} {zs : List Int}, w.ownsInts base e .i64 v zs → w'.ownsInts base e .i64 v zs := fun {v zs} h => h.kept hg (by
    cases v.ownBlock with
    | none => exact .inl rfl
    | some k => exact .inr (by simp))
  have hlt := (Array.getElem?_eq_some_iff.1 h1).1
  obtain ⟨F2, hmap, _⟩ := h2.stay (R' := rowElem w' base e .i64) (fun x _ z hz => by
    obtain ⟨ys, ho, rfl⟩ := rowElem_inv hz
    exact rowElem_mk (kept ho))
  refine ⟨D, ⟨es, clock, (hb.block b hlt).trans h1, F2, h3, by rw [hmap]; exact h4, h5, fun x hx zs ho => ?_, h7⟩, hD⟩
  obtain ⟨y, hy⟩ := h2.reads x hx
  obtain ⟨z, hz, _⟩ := rd_val hy
  obtain ⟨ys, ho2, _⟩ := rowElem_inv hz
  rw [ho.unique (kept ho2)]
  exact h6 x hx ys ho2
theorem MapG.lt (h : MapG P k e w base b n F) : b < w.heap.size ∧ b < base := by
  obtain ⟨D, ⟨es, clock, h1, _, _, _, h5, _⟩, _⟩ := h
  exact ⟨(Array.getElem?_eq_some_iff.1 h1).1, h5⟩

/-- the way back: after an append to the slice at the key z (or a new slice) and its store. -/
def BackG (P : Program) (t k e : TypeId) (w : World) (base b n : Nat) (F : Int → List Int) (z : Int) (v : Value) : Prop :=
  ∀ (w1 : World) (v' : Value) (zs' : List Int), w.grownBy w1 v.ownBlock → OwnI w1 base e v' zs' → (∀ y ∈ zs', (Lit.int .i64 y).wf = true) → zs'.length ≤ n + 1 → (v'.ownBlock = v.ownBlock ∨ ∃ g, v'.ownBlock = some g ∧ w.heap.size ≤ g) →
    ∃ w2, (Instr.mapUpdate t (.map (some b)) (.int .i64 z) v').run P w1 = .ok () w2 ∧ MapG P k e w2 base b (n + 1) (fun y => if y = z then zs' else F y) ∧ w1.grownBy w2 (some b)

theorem lits_inj : ∀ {a c : List Int}, lits (H := Unit) .i64 a = lits .i64 c → a = c
  | [], [], _ => rfl
  | [], _ :: _, h => by simp [lits] at h
  | _ :: _, [], h => by simp [lits] at h
  | x :: a, y :: c, h => by
    simp only [lits, List.map_cons, List.cons.injEq] at h
    obtain ⟨h1, h2⟩ := h
    injection h1 with h1
    injection h1 with _ h1
    rw [h1, lits_inj (a := a) (c := c) h2]

theorem MapG.at {t E : TypeId} (h : MapG P k e w base b n F) (hk : P.underlying k = some (.int .i64)) (ht : P.underlying t = some (.map k E)) (hz : (zeroValue E).run P w = .ok (.slice none 0 0) w) (hn : n < 9223372036854775807) {z : Int} (hwf : (Lit.int .i64 z).wf = true) :
    ∃ v, (Instr.lookup t (.map (some b)) (.int .i64 z) false).run P w = .ok v w ∧ OwnI w base e v (F z) ∧ (∀ y ∈ F z, (Lit.int .i64 y).wf = true) ∧ (F z).length ≤ n ∧ BackG P t k e w base b n F z v := by
  obtain ⟨D, ho, hD⟩ := h
  obtain ⟨v, zs, hrun, hat, hoi, hzl, hback⟩ := ho.at (int_keyed hk) ht hz (by unfold maxLen; omega) (keyOf_int_mk hk hwf)
  have hzs : zs = F z := by
    rcases hoi.datum (H := Unit) with ⟨h1, h2⟩ | h1
    · rw [h1] at hat
      rcases hD z with ⟨_, h3⟩ | h3
      · rw [h2, h3]
      · rw [h3] at hat
        cases hat
    · rw [h1] at hat
      rcases hD z with ⟨h2, _⟩ | h3
      · rw [h2] at hat
        cases hat
      · rw [h3] at hat
        injection hat with hat
        exact (lits_inj hat).symm
  subst hzs
  refine ⟨v, hrun, hoi.1, hoi.2, hzl, fun w1 v' zs' hg hown hwf' hl hloc => ?_⟩
  have hoi' : w1.ownsInts base e .i64 v' zs' := ⟨hown, hwf'⟩
  obtain ⟨w2, hr2, ho2, hg2⟩ := hback w1 v' zs' hg hoi' hl hloc
  refine ⟨w2, hr2, ⟨_, ho2, fun y => ?_⟩, hg2⟩
  dsimp only
  by_cases hy : y = z
  · subst hy
    have hm : IsMap D := by
      obtain ⟨es, clock, _, _, _, hD2, _⟩ := ho
      exact ⟨_, hD2⟩
    rw [if_pos rfl, atKey_put_same (k := .int .i64 y) hm trivial]
    rcases hoi'.datum (H := Unit) with h1 | h1
    · exact .inl h1
    · exact .inr h1
  · rw [if_neg hy, atKey_put_other (by intro q; injection q with _ q; exact hy q)]
    exact hD y
end

theorem BackG.append {P : Program} {t k e : TypeId} {w wk w4 : World} {base b n : Nat} {F : Int → List Int} {z x : Int} {v : Value} {g cap : Nat} (hback : BackG P t k e w base b n F z v) (hgr : w.grownBy wk v.ownBlock) (hwz : ∀ y ∈ F z, (Lit.int .i64 y).wf = true) (hwx : (Lit.int .i64 x).wf = true) (hzl : (F z).length ≤ n)
    (h4 : OwnI w4 base e (.slice (some ⟨g, 0, none⟩) ((F z).length + 1) cap) (F z ++ [x])) (hg4 : wk.grownBy w4 v.ownBlock) (hat : v.ownBlock = some g ∨ wk.heap.size ≤ g) :
    ∃ w5, (Instr.mapUpdate t (.map (some b)) (.int .i64 z) (.slice (some ⟨g, 0, none⟩) ((F z).length + 1) cap)).run P w4 = .ok () w5 ∧ MapG P k e w5 base b (n + 1) (fun y => if y = z then F z ++ [x] else F y) ∧ w4.grownBy w5 (some b) := by
  refine hback w4 _ _ (hgr.trans hg4) h4 (fun y hy => ?_) (by simp; omega) ?_
  · rcases List.mem_append.1 hy with hy | hy
    · exact hwz y hy
    · simp at hy
      subst hy
      exact hwx
  · rcases hat with h | h
    · exact .inl h.symm
    · exact .inr ⟨g, rfl, Nat.le_trans hgr.size h⟩

section
variable {P : Program} {ops : Array Oper} {o : Oper} {a : Act} {K : Act → World → Prop} {Q : Exit → Act → World → Prop} {X : Prop} (w : World)
/-- a look-up within a region that draws its order. -/
theorem step_lookup (hw : Region.wanted o (yielded ops a.tmps) = true) (m x : Operand) (t : TypeId) (hop : o.op = Op.lookup t m x false) (mv xv v : Value) (hm : a.eval m = mv) (hx : a.eval x = xv) (hrun : (Instr.lookup t mv xv false).run P w = .ok v w) (h : K (a.put o.dst v) w) :
    if Region.wanted o (yielded ops a.tmps) = true then Oper.wp P o a w K Q else X := by
  rw [if_pos hw]
  unfold Oper.wp
  simp [execOp, hop, hm, hx, hrun, Result.andThen]
  exact h
/-- 'append(v, x)' of one integer whose cell lies wherever. -/
theorem step_append_cell (hgd : o.guard = none) (s x : Operand) (t : TypeId) (ho : o.op = .call { callee := .builtin .append, args := #[s, x], argTypes := #[t, t] })
    (base : Nat) (e : TypeId) (ht : P.underlying t = some (.slice e)) (hinfo : (P.info? e).map (fun i => (i.zero, i.size, i.bytes)) = some (some (.int .i64 0), 1, 8))
    (v : Value) (zs : List Int) (z : Int) (hs : a.eval s = v) (hown : OwnI w base e v zs) (N : Nat) (hx : a.eval x = .slice (some ⟨N, 0, none⟩) 1 1) (hc : w.cell? ⟨N, 0, none⟩ = some (.int .i64 z)) (hlen : zs.length + 1 ≤ 4398046511104) (hbase : base ≤ w.heap.size)
    (h : ∀ g cap w', OwnI w' base e (.slice (some ⟨g, 0, none⟩) (zs.length + 1) cap) (zs ++ [z]) → w.grownBy w' v.ownBlock → (v.ownBlock = some g ∨ w.heap.size ≤ g) → K (a.put o.dst (.slice (some ⟨g, 0, none⟩) (zs.length + 1) cap)) w') :
    if Region.wanted o (yielded ops a.tmps) = true then Oper.wp P o a w K Q else X := by
  obtain ⟨i0, hi, hz1, hz2, hz3⟩ := info_parts hinfo
  refine step_append_lies _ hgd s x t ho base e i0 (.int .i64 0) 1 8 ht hi hz1 hz2 hz3 rfl (by decide) v zs.length (zs.map (Value.int .i64)) hs hown ⟨N, 0, none⟩ 1 1 [.int .i64 z] hx rfl (fun j u hj => ?_) (by intro u hu; simp at hu; subst hu; rfl) (by decide) (by unfold maxLen; omega) (by omega) hbase _ rfl ?_
  · match j, hj with
    | 0, hj => cases hj; exact hc
    | j + 1, hj => simp at hj
  intro g cap w' h1 h2 h3 _
  refine h g cap w' ?_ h2 ?_
  · unfold OwnI OwnV
    simpa using h1
  · rcases h3 with h3 | h3
    · exact .inl h3
    · right
      rw [h3]
      exact Nat.le_refl _
theorem step_mapUpdate {w2 : World} (hw : Region.wanted o (yielded ops a.tmps) = true) (m x v : Operand) (t : TypeId) (hop : o.op = Op.mapUpdate t m x v) (mv xv vv : Value) (hm : a.eval m = mv) (hx : a.eval x = xv) (hv : a.eval v = vv) (hrun : (Instr.mapUpdate t mv xv vv).run P w = .ok () w2) (h : K (a.put o.dst undef) w2) :
    if Region.wanted o (yielded ops a.tmps) = true then Oper.wp P o a w K Q else X := by
  rw [if_pos hw]
  unfold Oper.wp
  simp [execOp, hop, hm, hx, hv, hrun, Result.andThen]
  exact h
end
end
section
open Go.RowKit Go.Maps

structure SlotT where
  inc : Int
  urg : Int
  since : Int
  kind : Int
  nA : Option Addr
  nodes : List Int
  nc : Nat
structure SlotP where
  inc : Int
  urg : Int
  since : Int
  kind : Int
  nodes : List Int
def strip (s : SlotT) : SlotP := ⟨s.inc, s.urg, s.since, s.kind, s.nodes⟩
def cellsS (s : SlotT) : List Value := [.int .i64 s.inc, .int .i64 s.urg, .int .i64 s.since, .int .i64 s.kind, .slice s.nA s.nodes.length s.nc]
theorem cellsS_len (s : SlotT) : (cellsS s).length = 5 := rfl
theorem cellsS_one (s : SlotT) : ∀ v ∈ cellsS s, v.oneCell' = true := by
  intro v hv
  simp only [cellsS, List.mem_cons, List.not_mem_nil, or_false] at hv
  rcases hv with rfl | rfl | rfl | rfl | rfl <;> rfl
abbrev SlotsAt := RecsAt cellsS
abbrev OwnSlot := OwnR cellsS 5
theorem slot_info : (Tryz.prog.info? 91).map (fun i => (i.zero, i.size, i.bytes)) = some (some (.agg #[.int .i64 0, .int .i64 0, .int .i64 0, .int .i64 0, .slice none 0 0]), 5, 56) := by kernel_rfl
theorem rslot_info : (Tryz.prog.info? 63).map (fun i => (i.zero, i.size, i.bytes)) = some (some (.agg #[.int .i64 0, .int .i64 0, .int .i64 0, .int .i64 0, .slice none 0 0]), 5, 56) := by kernel_rfl
theorem slot_at {w : World} {B : Nat} {A : Option Addr} {ss : List SlotT} (h : SlotsAt w B A ss) {i : Nat} {s : SlotT} (hi : ss[i]? = some s) : ∃ b o, A = some ⟨b, o, none⟩ ∧ b < B ∧ w.cell? ⟨b, o + i * 5, none⟩ = some (.int .i64 s.inc) ∧ w.cell? ⟨b, o + i * 5 + 1, none⟩ = some (.int .i64 s.urg) ∧ w.cell? ⟨b, o + i * 5 + 2, none⟩ = some (.int .i64 s.since) ∧ w.cell? ⟨b, o + i * 5 + 3, none⟩ = some (.int .i64 s.kind) ∧ w.cell? ⟨b, o + i * 5 + 4, none⟩ = some (.slice s.nA s.nodes.length s.nc) := by
  obtain ⟨b, o, e, hb, hc⟩ := RecsAt.at cellsS_len h hi (by omega)
  exact ⟨b, o, e, hb, hc 0 _ rfl, hc 1 _ rfl, hc 2 _ rfl, hc 3 _ rfl, hc 4 _ rfl⟩
/-- the nodes of each slot. -/
def SNodes (w : World) (B : Nat) (ss : List SlotT) : Prop := ∀ s ∈ ss, Sl w B s.nA (s.nodes.map (Value.int .i64))
def RetSlots (w : World) (L : List SlotP) (e : Ending) (w' : World) : Prop :=
  ∃ (A : Option Addr) (c : Nat) (ss : List SlotT), e = .returned (.slice A ss.length c) ∧ SlotsAt w' w'.heap.size A ss ∧ SNodes w' w'.heap.size ss ∧ ss.map strip = L ∧ (∀ s ∈ ss, s.nA = none → s.nc = 0) ∧ Below w.heap.size w w'

/-- the kinds of the units that are assigned to z. -/
def haveK (us : List UnitT) (z : Int) : List Int := (us.filter (fun u => u.inc == z)).map UnitT.kind
theorem haveK_snoc (us : List UnitT) (u : UnitT) (z : Int) : haveK (us ++ [u]) z = if z = u.inc then haveK us u.inc ++ [u.kind] else haveK us z := by
  unfold haveK
  rw [List.filter_append, List.map_append]
  by_cases h : z = u.inc
  · subst h
    simp
  · rw [if_neg h]
    have : (u.inc == z) = false := by simp; exact fun e => h e.symm
    simp [List.filter, this]
theorem haveK_len (us : List UnitT) (z : Int) : (haveK us z).length ≤ us.length := by
  unfold haveK
  rw [List.length_map]
  exact List.length_filter_le _ _
theorem haveK_wf {us : List UnitT} (h : ∀ u ∈ us, UnitWf u) (z : Int) : ∀ y ∈ haveK us z, (Lit.int .i64 y).wf = true := by
  intro y hy
  unfold haveK at hy
  rw [List.mem_map] at hy
  obtain ⟨u, hu, rfl⟩ := hy
  exact (h u (List.mem_filter.1 hu).1).kind
def slotsX (us : List UnitT) (ps : List Plan) (x : IncT) : List SlotP := (unmet (kindsL ps x.code x.urg) (haveK us x.id)).map (fun kd => ⟨x.id, x.urg, x.since, kd, x.nodes⟩)
def slotsL (xs : List IncT) (us : List UnitT) (ps : List Plan) : List SlotP := (sortK (xs.filter openI)).flatMap (slotsX us ps)

section
variable {α : Type} {cs : α → List Value} {s : Nat}
/-- 'append(v, x)', x a struct, within a region that draws its order. -/
theorem step_append_rec {P : Program} {ops : Array Oper} {o : Oper} {a : Act} {K : Act → World → Prop} {Q : Exit → Act → World → Prop} {X : Prop} (w : World) (hgd : o.guard = none) (sl x : Operand) (t : TypeId)
    (ho : o.op = .call { callee := .builtin .append, args := #[sl, x], argTypes := #[t, t] })
    (base : Nat) (e : TypeId) (ht : P.underlying t = some (.slice e)) {z0 : Value} {by0 : Nat} (hinfo : (P.info? e).map (fun i => (i.zero, i.size, i.bytes)) = some (some z0, s, by0)) (hz0 : z0.cells.size = s) (h0 : 0 < s) (hby : by0 ≤ 256)
    (hs : ∀ a, (cs a).length = s) (v : Value) (xs : List α) (w0 : World) (z : α) (hone : ∀ u ∈ cs z, u.oneCell' = true) (vs : Array Value) (hvs : vs = (cs z).toArray) (hw : w = w0.alloc (.cells vs e)) (hv : a.eval sl = v) (hown : OwnR cs s w0 base e v xs)
    (nb : Nat) (hx : a.eval x = .slice (some ⟨nb, 0, none⟩) 1 1) (hnb : nb = w0.heap.size) (hlen : xs.length + 1 ≤ 549755813888) (hbase : base ≤ w0.heap.size)
    (h : ∀ g cap w', OwnR cs s w' base e (.slice (some ⟨g, 0, none⟩) (xs.length + 1) cap) (xs ++ [z]) → w0.grownBy w' v.ownBlock → (v.ownBlock = some g ∨ w0.heap.size ≤ g) → K (a.put o.dst (.slice (some ⟨g, 0, none⟩) (xs.length + 1) cap)) w') :
    if Region.wanted o (yielded ops a.tmps) = true then Oper.wp P o a w K Q else X := by
  obtain ⟨i0, hi, hz1, hz2, hz3⟩ := info_parts hinfo
  subst hw hvs hnb
  have hcell : ∀ j u, (cs z)[j]? = some u → (w0.alloc (.cells (cs z).toArray e)).cell? ((⟨w0.heap.size, 0, none⟩ : Addr).add j) = some u := by
    intro j u hj
    rw [add_none, Nat.zero_add, World.cell?_alloc_at (hn := rfl)]
    simpa using hj
  refine step_append_lies _ hgd sl x t ho base e i0 z0 s by0 ht hi hz1 hz2 hz3 hz0 h0 v xs.length _ hv (World.ownsRow.alloc hown _) ⟨w0.heap.size, 0, none⟩ 1 1 (cs z) hx (by rw [hs, Nat.one_mul]) hcell hone (by decide) (by unfold maxLen; omega) ?_ (by simp; omega) _ rfl ?_
  · have := Nat.mul_le_mul hlen hby
    omega
  intro g cap w' h1 h2 h3 _
  refine h g cap w' ?_ ((World.grownBy_alloc w0 _ _).trans h2) ?_
  · unfold OwnR
    rw [List.length_append, List.length_singleton, List.flatMap_append]
    simpa using h1
  · rcases h3 with h3 | h3
    · exact .inl h3
    · right
      rw [h3]
      simp
end
end
end Go.Proofs.YtimijjhdgihobaaGreatDoor
