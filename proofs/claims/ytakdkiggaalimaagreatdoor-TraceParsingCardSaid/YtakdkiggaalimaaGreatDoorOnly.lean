/-
  What existed is as it was, but for some blocks; a family of slices of structs, each stored in a cell of its own, and one append to one of them.
  No condition: plain lemmas over whatever program.
-/
import Derived.Test.YtakdkiggaalimaaGreatDoorRecs
import Derived.Deep.AppendLies
namespace Go.Proofs.YtakdkiggaalimaaGreatDoor
open Go.RowKit Go.Maps

/-- what existed is as it was, but for the blocks of which S holds. -/
structure Only (S : Nat → Prop) (w w' : World) : Prop where
  os : w'.os = w.os
  tape : w'.tape = w.tape
  output : w'.output = w.output
  size : w.heap.size ≤ w'.heap.size
  block : ∀ k, k < w.heap.size → ¬ S k → w'.heap[k]? = w.heap[k]?
section
variable {S S' : Nat → Prop} {w w1 w2 : World}
theorem Only.refl : Only S w w := ⟨rfl, rfl, rfl, Nat.le_refl _, fun _ _ _ => rfl⟩
theorem Only.trans (h : Only S w w1) (k : Only S' w1 w2) (hS : ∀ j, j < w.heap.size → S' j → S j) : Only S w w2 :=
  ⟨k.os.trans h.os, k.tape.trans h.tape, k.output.trans h.output, Nat.le_trans h.size k.size, fun j hj hn => (k.block j (Nat.lt_of_lt_of_le hj h.size) (fun e => hn (hS j hj e))).trans (h.block j hj hn)⟩
theorem Only.mono (h : Only S w w1) (hS : ∀ j, j < w.heap.size → S j → S' j) : Only S' w w1 := ⟨h.os, h.tape, h.output, h.size, fun j hj hn => h.block j hj (fun e => hn (hS j hj e))⟩
theorem Only.below (h : Only S w w1) {B : Nat} (hB : B ≤ w.heap.size) (hS : ∀ j, S j → B ≤ j) : Below B w w1 := ⟨h.os, h.tape, h.output, h.size, fun j hj => h.block j (Nat.lt_of_lt_of_le hj hB) (fun e => by have := hS j e; omega)⟩
theorem Only.of_below (h : Below w.heap.size w w1) : Only S w w1 := ⟨h.os, h.tape, h.output, h.size, fun j hj _ => h.block j hj⟩
theorem Only.of_grown {row : Option Nat} (h : w.grownBy w1 row) (hS : ∀ j, row = some j → S j) : Only S w w1 := ⟨h.os, h.tape, h.output, h.size, fun j hj hn => h.block j hj (fun e => hn (hS j e.symm))⟩
theorem Only.cell (h : Only S w w1) {a : Addr} (hl : a.block < w.heap.size) (hn : ¬ S a.block) : w1.cell? a = w.cell? a := by
  unfold World.cell?
  rw [h.block _ hl hn]
theorem Only.frozen (h : Only S w w1) {a : Addr} (hl : a.block < w.heap.size) (hn : ¬ S a.block) : w1.frozen? a = w.frozen? a := by
  unfold World.frozen?
  rw [h.block _ hl hn]
theorem Only.drew (h : Only S w w1) : Only S w w1.drew := ⟨h.os, h.tape, h.output, h.size, h.block⟩
theorem Only.drewN (h : Only S w w1) (n : Nat) : Only S w (w1.drewN n) := ⟨h.os, h.tape, h.output, h.size, h.block⟩
theorem Only.setCell (h : Only S w w1) {a : Addr} (hS : a.block < w.heap.size → S a.block) (v : Value) : Only S w (w1.setCell a v) := by
  refine ⟨h.os, h.tape, h.output, by simpa using h.size, fun j hj hn => ?_⟩
  exact (Below.heap_setCell w1 a v j (fun e => hn (by rw [e]; exact hS (by rw [← e]; exact hj)))).trans (h.block j hj hn)
theorem Only.row (h : Only S w w1) {base : Nat} {e : TypeId} {size n : Nat} {v : Value} {xs : List Value} (hr : w.ownsRow base e size v n xs) (hv : ∀ k, v.ownBlock = some k → ¬ S k) : w1.ownsRow base e size v n xs := by
  obtain ⟨hl, h2⟩ := hr
  refine ⟨hl, ?_⟩
  rcases h2 with h2 | ⟨g, cap, cur, rfl, hb, hh, r⟩
  · exact .inl h2
  · refine .inr ⟨g, cap, cur, rfl, hb, ?_, r⟩
    rw [h.block g (Array.getElem?_eq_some_iff.1 hh).1 (hv g rfl)]
    exact hh
theorem Only.ofRecs {α : Type} {cs : α → List Value} (h : Only S w w1) {B : Nat} {A : Option Addr} {xs : List α} (hr : RecsAt cs w B A xs) (hB : B ≤ w.heap.size) (hA : ∀ b o, A = some ⟨b, o, none⟩ → ¬ S b) : RecsAt cs w1 B A xs := fun j u hj => by
  obtain ⟨b, o, e, hb, hc⟩ := hr j u hj
  exact ⟨b, o, e, hb, (h.cell (a := ⟨b, o + j, none⟩) (Nat.lt_of_lt_of_le hb hB) (hA b o e)).trans hc⟩
theorem Only.ofSl (h : Only S w w1) {B : Nat} {A : Option Addr} {xs : List Value} (hr : Sl w B A xs) (hB : B ≤ w.heap.size) (hA : ∀ b o, A = some ⟨b, o, none⟩ → ¬ S b) : Sl w1 B A xs := fun j u hj => by
  obtain ⟨b, o, e, hb, hc⟩ := hr j u hj
  exact ⟨b, o, e, hb, (h.cell (a := ⟨b, o + j, none⟩) (Nat.lt_of_lt_of_le hb hB) (hA b o e)).trans hc⟩
end

/-- where an append onto a row of the call's own leaves the cells of the old row. -/
theorem append_keeps {P : Program} {w w' : World} {base : Nat} {t ty e : TypeId} {i : TypeInfo} {z : Value} {size bytes : Nat} (ht : P.underlying t = some (.slice e)) (hi : P.info? e = some i) (hz : i.zero = some z)
    (hsize : i.size = size) (hby : i.bytes = bytes) {v v' : Value} {n : Nat} {xs : List Value} (hown : w.ownsRow base e size v n xs)
    {a : Addr} {m c : Nat} {news : List Value} (hl : news.length = m * size) (hnews : ∀ j u, news[j]? = some u → w.cell? (a.add j) = some u) (h1 : ∀ u ∈ news, u.oneCell' = true) (h63 : n + m ≤ maxLen) (hbytes : (n + m) * bytes ≤ 140737488355328)
    (hr : (Builtin.append_ #[t, t] ty #[v, .slice (some a) m c]).run P w = .ok v' w') (hn : w'.ownsRow base e size v' (n + m) (xs ++ news)) :
    ∀ g j u, v.ownBlock = some g → xs[j]? = some u → w'.cell? ⟨g, j, none⟩ = some u := by
  intro g j u hg hj
  subst hsize hby
  have hlt := (hown.lt g hg).2
  have hj2 : j < xs.length := (List.getElem?_eq_some_iff.1 hj).1
  by_cases hne : v'.ownBlock = some g
  · have := hn.cells hne j u (by rw [List.getElem?_append_left hj2]; exact hj)
    rwa [add_none, Nat.zero_add] at this
  · have hsm : n + m ≤ 9223372036854775807 := by simp only [maxLen] at h63; omega
    have holds := hown.cells hg
    have hcell : w.cell? ⟨g, j, none⟩ = some u := by
      have := holds j u hj
      rwa [add_none, Nat.zero_add] at this
    rcases hown.2 with ⟨rfl, _⟩ | ⟨g', cap, cur, rfl, hbg, hh, hnc, hcm, hcs, htake⟩
    · cases hg
    · have e : g' = g := by simpa [Value.ownBlock] using hg
      subst e
      by_cases hroom : n + m ≤ cap
      · exfalso
        have hfit : n * i.size + news.length ≤ cur.size := by rw [hl, hcs, ← Nat.add_mul]; exact Nat.mul_le_mul_right _ hroom
        have hr2 := run_append_room (P := P) w t ty _ i ht hi g' n cap cur hh a m c news hl hnews h1 hroom hfit
        rw [hr2] at hr
        injection hr with h2 h3
        subst h2
        exact hne rfl
      · have hr2 := run_append_grow (P := P) w t ty _ i z ht hi hz ⟨g', 0, none⟩ n cap xs hown.1 holds a m c news hl hnews (by omega) (by omega) (growslice_fits (by omega) hbytes)
        rw [hr2] at hr
        injection hr with h2 h3
        subst h3
        exact (World.cell?_alloc_lt w.drew _ ⟨g', j, none⟩ hlt).trans hcell

section
variable {α : Type} {cs : α → List Value} {s : Nat}
/-- 'append(v, x)', x a struct, within a region that draws its order: the new slice written out, and what the old row still holds. -/
theorem step_append_keep {P : Program} {ops : Array Oper} {o : Oper} {a : Act} {K : Act → World → Prop} {Q : Exit → Act → World → Prop} {X : Prop} (w : World) (hgd : o.guard = none) (sl x : Operand) (t : TypeId)
    (ho : o.op = .call { callee := .builtin .append, args := #[sl, x], argTypes := #[t, t] })
    (base : Nat) (e : TypeId) (ht : P.underlying t = some (.slice e)) {z0 : Value} {by0 : Nat} (hinfo : (P.info? e).map (fun i => (i.zero, i.size, i.bytes)) = some (some z0, s, by0)) (hz0 : z0.cells.size = s) (h0 : 0 < s) (hby : by0 ≤ 256)
    (hs : ∀ a, (cs a).length = s) (v : Value) (xs : List α) (w0 : World) (z : α) (hone : ∀ u ∈ cs z, u.oneCell' = true) (vs : Array Value) (hvs : vs = (cs z).toArray) (hw : w = w0.alloc (.cells vs e)) (hv : a.eval sl = v) (hown : OwnR cs s w0 base e v xs)
    (nb : Nat) (hx : a.eval x = .slice (some ⟨nb, 0, none⟩) 1 1) (hnb : nb = w0.heap.size) (hlen : xs.length + 1 ≤ 549755813888) (hbase : base ≤ w0.heap.size)
    (h : ∀ g cap w', OwnR cs s w' base e (.slice (some ⟨g, 0, none⟩) (xs.length + 1) cap) (xs ++ [z]) → w0.grownBy w' v.ownBlock → (v.ownBlock = some g ∨ w0.heap.size ≤ g) → (∀ k j u, v.ownBlock = some k → (xs.flatMap cs)[j]? = some u → w'.cell? ⟨k, j, none⟩ = some u) → K (a.put o.dst (.slice (some ⟨g, 0, none⟩) (xs.length + 1) cap)) w') :
    if Region.wanted o (yielded ops a.tmps) = true then Oper.wp P o a w K Q else X := by
  obtain ⟨i0, hi, hz1, hz2, hz3⟩ := info_parts hinfo
  subst hw hvs hnb
  have hcell : ∀ j u, (cs z)[j]? = some u → (w0.alloc (.cells (cs z).toArray e)).cell? ((⟨w0.heap.size, 0, none⟩ : Addr).add j) = some u := by
    intro j u hj
    rw [add_none, Nat.zero_add, World.cell?_alloc_at (hn := rfl)]
    simpa using hj
  have hb : (xs.length + 1) * by0 ≤ 140737488355328 := by
    have := Nat.mul_le_mul hlen hby
    omega
  have how := World.ownsRow.alloc hown (.cells (cs z).toArray e)
  have hl1 : (cs z).length = 1 * s := by rw [hs, Nat.one_mul]
  obtain ⟨g, cap, w', hr, h2, h3, h4, h5⟩ := run_append_lies (P := P) (w0.alloc (.cells (cs z).toArray e)) t o.type base e i0 z0 s by0 ht hi hz1 hz2 hz3 hz0 h0 v xs.length _ how ⟨w0.heap.size, 0, none⟩ 1 1 (cs z) hl1 hcell hone (by decide) (by unfold maxLen; omega) hb (by simp; omega) _ rfl
  have hk := append_keeps ht hi hz1 hz2 hz3 how hl1 hcell hone (by unfold maxLen; omega) hb hr h2
  have hwn : Region.wanted o (yielded ops a.tmps) = true := by simp [Region.wanted, hgd]
  rw [if_pos hwn]
  unfold Oper.wp execOp
  simp only [ho, resolve, invoke, builtin, Sem.run_bind, Sem.run_pure, Result.andThen_ok, List.map_toArray, List.map_cons, List.map_nil, hv, hx, hr]
  refine h g cap w' ?_ ((World.grownBy_alloc w0 _ _).trans h3) ?_ hk
  · unfold OwnR
    rw [List.length_append, List.length_singleton, List.flatMap_append]
    simpa using h2
  · rcases h4 with h4 | h4
    · exact .inl h4
    · right
      rw [h4]
      simp
end

/-- F with v at i. -/
def updI {ι β : Type} [DecidableEq ι] (F : ι → β) (i : ι) (v : β) : ι → β := fun j => if j = i then v else F j
section
variable {ι β : Type} [DecidableEq ι] {F : ι → β} {i j : ι} {v : β}
theorem updI_same : updI F i v i = v := if_pos rfl
theorem updI_other (h : j ≠ i) : updI F i v j = F j := if_neg h
end

/-- slices F i (i of which ok holds) of records P i, each stored in a cell of its own below base, their rows from base on, no two in one block. -/
structure FamAt {ι α : Type} (cs : α → List Value) (s : Nat) (e : TypeId) (w : World) (base : Nat) (loc : ι → Nat × Nat) (ok : ι → Prop) (F : ι → Value) (P : ι → List α) : Prop where
  cell : ∀ i, ok i → w.cell? ⟨(loc i).1, (loc i).2, none⟩ = some (F i)
  froz : ∀ i, ok i → w.frozen? ⟨(loc i).1, (loc i).2, none⟩ = false
  own : ∀ i, ok i → OwnR cs s w base e (F i) (P i)
  dist : ∀ i j, ok i → ok j → i ≠ j → ∀ g, (F i).ownBlock = some g → (F j).ownBlock ≠ some g
  low : ∀ i, ok i → (loc i).1 < base
  inj : ∀ i j, ok i → ok j → loc i = loc j → i = j
  room : base ≤ w.heap.size
section
variable {ι α : Type} {cs : α → List Value} {s : Nat} {e : TypeId} {w w' : World} {base : Nat} {loc : ι → Nat × Nat} {ok : ι → Prop} {F : ι → Value} {P : ι → List α}
/-- the family's blocks. -/
def famB (loc : ι → Nat × Nat) (ok : ι → Prop) (F : ι → Value) (b : Nat) : Prop := (∃ i, ok i ∧ (loc i).1 = b) ∨ ∃ i, ok i ∧ (F i).ownBlock = some b
theorem FamAt.only (h : FamAt cs s e w base loc ok F P) {S : Nat → Prop} (hg : Only S w w') (hS : ∀ b, famB loc ok F b → ¬ S b) : FamAt cs s e w' base loc ok F P := by
  refine ⟨fun i hi => ?_, fun i hi => ?_, fun i hi => hg.row (h.own i hi) (fun k hk => hS k (.inr ⟨i, hi, hk⟩)), h.dist, h.low, h.inj, Nat.le_trans h.room hg.size⟩
  · exact (hg.cell (a := ⟨(loc i).1, (loc i).2, none⟩) (Nat.lt_of_lt_of_le (h.low i hi) h.room) (hS _ (.inl ⟨i, hi, rfl⟩))).trans (h.cell i hi)
  · exact (hg.frozen (a := ⟨(loc i).1, (loc i).2, none⟩) (Nat.lt_of_lt_of_le (h.low i hi) h.room) (hS _ (.inl ⟨i, hi, rfl⟩))).trans (h.froz i hi)
theorem FamAt.drew (h : FamAt cs s e w base loc ok F P) : FamAt cs s e w.drew base loc ok F P := ⟨h.cell, h.froz, h.own, h.dist, h.low, h.inj, h.room⟩
theorem FamAt.alloc (h : FamAt cs s e w base loc ok F P) (o : Obj) : FamAt cs s e (w.alloc o) base loc ok F P :=
  h.only (S := fun _ => False) (Only.of_below ((Below.refl _ _).alloc (Nat.le_refl _) o)) (fun _ _ q => q)
variable [DecidableEq ι]
/-- one append to one row, and the store of the new slice. -/
theorem FamAt.append (h : FamAt cs s e w base loc ok F P) {i : ι} (hi : ok i) {z : α} {g cap m : Nat} (hown : OwnR cs s w' base e (.slice (some ⟨g, 0, none⟩) m cap) (P i ++ [z])) (hg : w.grownBy w' (F i).ownBlock) (hat : (F i).ownBlock = some g ∨ w.heap.size ≤ g) :
    w'.cell? ⟨(loc i).1, (loc i).2, none⟩ = some (F i) ∧ w'.frozen? ⟨(loc i).1, (loc i).2, none⟩ = false ∧ Below base w w' ∧
      FamAt cs s e (w'.setCell ⟨(loc i).1, (loc i).2, none⟩ (.slice (some ⟨g, 0, none⟩) m cap)) base loc ok (updI F i (.slice (some ⟨g, 0, none⟩) m cap)) (updI P i (P i ++ [z])) := by
  have hb : Below base w w' := (Below.refl _ _).grown hg h.room (fun k e => (h.own i hi).ge_base k e)
  have c1 : ∀ j, ok j → w'.cell? ⟨(loc j).1, (loc j).2, none⟩ = some (F j) := fun j hj => (hb.cell (p := ⟨(loc j).1, (loc j).2, none⟩) (h.low j hj)).trans (h.cell j hj)
  have f1 : ∀ j, ok j → w'.frozen? ⟨(loc j).1, (loc j).2, none⟩ = false := fun j hj => (hb.frozen (p := ⟨(loc j).1, (loc j).2, none⟩) (h.low j hj)).trans (h.froz j hj)
  have hnew : ∀ j, ok j → j ≠ i → (F j).ownBlock ≠ some g := by
    intro j hj hne q
    rcases hat with hat | hat
    · exact h.dist i j hi hj (Ne.symm hne) g hat q
    · have := (h.own j hj).lt_size g q
      omega
  refine ⟨c1 i hi, f1 i hi, hb, ⟨fun j hj => ?_, fun j hj => ?_, fun j hj => ?_, fun a b ha hb' hne g' hg' => ?_, h.low, h.inj, by have := hb.size; have := h.room; simp; omega⟩⟩
  · by_cases q : j = i
    · subst q
      rw [updI_same]
      exact World.cell?_setCell_same' _ _ _ (by rw [c1 _ hj]; rfl)
    · rw [updI_other q]
      refine (World.cell?_setCell_other w' _ ⟨(loc j).1, (loc j).2, none⟩ _ ?_).trans (c1 j hj)
      intro e
      injection e with e1 e2
      exact q (h.inj j i hj hi (Prod.ext e1.symm e2.symm))
  · rw [World.frozen?_setCell]
    exact f1 j hj
  · by_cases q : j = i
    · subst q
      rw [updI_same, updI_same]
      refine hown.setCell_other ?_ _
      intro e
      have h1 : base ≤ (loc j).1 := hown.ge_base _ e
      have := h.low j hj
      omega
    · rw [updI_other q, updI_other q]
      refine OwnR.setCell_other ?_ ?_ _
      · refine World.ownsRow.kept (h.own j hj) hg ?_
        cases hk : (F j).ownBlock with
        | none => exact .inl rfl
        | some k =>
          refine .inr fun e => ?_
          exact h.dist i j hi hj (Ne.symm q) k e.symm hk
      · intro e
        have h1 : base ≤ (loc i).1 := (h.own j hj).ge_base _ e
        have := h.low i hi
        omega
  · by_cases q : a = i
    · subst q
      rw [updI_same] at hg'
      have e : g = g' := by simpa [Value.ownBlock] using hg'
      subst e
      rw [updI_other (Ne.symm hne)]
      exact hnew b hb' (Ne.symm hne)
    · rw [updI_other q] at hg'
      by_cases q' : b = i
      · subst q'
        rw [updI_same]
        intro e
        have e : g = g' := by simpa [Value.ownBlock] using e
        subst e
        exact hnew a ha q hg'
      · rw [updI_other q']
        exact h.dist a b ha hb' hne g' hg'
theorem famB_upd {i : ι} (hi : ok i) {g n cap : Nat} {b : Nat} (h : famB loc ok (updI F i (.slice (some ⟨g, 0, none⟩) n cap)) b) (N : Nat) (hat : (F i).ownBlock = some g ∨ N ≤ g) : famB loc ok F b ∨ N ≤ b := by
  rcases h with h | ⟨j, hj, e⟩
  · exact .inl (.inl h)
  · by_cases q : j = i
    · subst q
      rw [updI_same] at e
      have e : g = b := by simpa [Value.ownBlock] using e
      subst e
      rcases hat with hat | hat
      · exact .inl (.inr ⟨j, hj, hat⟩)
      · exact .inr hat
    · rw [updI_other q] at e
      exact .inl (.inr ⟨j, hj, e⟩)
end
end Go.Proofs.YtakdkiggaalimaaGreatDoor
