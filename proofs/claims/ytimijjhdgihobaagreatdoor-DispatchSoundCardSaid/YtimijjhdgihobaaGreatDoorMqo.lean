/-
  shortestpath.search: what its memory holds between two steps.
  A region that draws its order and only reads, in a round of a range over a function.
-/
import Derived.Test.YtimijjhdgihobaaGreatDoorMqn
import Derived.RangeFuncWrites
import Derived.RangeFuncLeaves
import Derived.Sort.LoopGhostIn
import Derived.Sort.QuietIn
import Derived.Deep.RegionHeld
import Derived.OrdersHeld
namespace Go.Proofs.YtimijjhdgihobaaGreatDoor
section
open Go.RowKit Go.Shelf Go.Maps

/-- the memory of search at work: boxes bG (the graph), bW (the weights), bF (forward), bS (the distances' slice, whose row is bD), bQ (the queue); Ds: the marks of the loops that are over. -/
structure St (w : World) (p : Nat) (A : Option Addr) (m c n bG bW bF bD bS bQ : Nat) (Ds : List Nat) (wr : World) (D zs : List Int) (v : Value) : Prop where
  below : Below w.heap.size w wr
  ord : w.heap.size ≤ bG ∧ bG < bW ∧ bW < bF ∧ bF < bD ∧ bD < bS ∧ bS < bQ ∧ bQ < wr.heap.size
  cg : wr.cell? ⟨bG, 0, none⟩ = some (.pointer (some ⟨p, 0, none⟩))
  cw : wr.cell? ⟨bW, 0, none⟩ = some (.slice A m c)
  cf : wr.cell? ⟨bF, 0, none⟩ = some (.bool true)
  cs : wr.cell? ⟨bS, 0, none⟩ = some (.slice (some ⟨bD, 0, none⟩) n n)
  own : OwnI wr w.heap.size 2 (.slice (some ⟨bD, 0, none⟩) n n) D
  q : QueueAt wr (bQ + 1) bQ v zs
  marks : ∀ x ∈ Ds, wr.heap[x]? = some (.deferred (some []))
  nodup : Ds.Nodup
  mlow : ∀ x ∈ Ds, w.heap.size ≤ x

theorem Only.own {S : Nat → Prop} {w w' : World} (h : Only S w w') {α : Type} {f : α → Value} {base : Nat} {e : TypeId} {v : Value} {zs : List α} (ho : OwnV f w base e v zs) (hn : ∀ g, v.ownBlock = some g → ¬ S g) : OwnV f w' base e v zs := by
  refine ⟨ho.1, ?_⟩
  rcases ho.2 with hh | ⟨g, cap, cur, rfl, hb, hgg, rest⟩
  · exact .inl hh
  · exact .inr ⟨g, cap, cur, rfl, hb, (h.block g (Array.getElem?_eq_some_iff.1 hgg).1 (hn g rfl)).trans hgg, rest⟩
theorem own_cells {α : Type} {f : α → Value} {w : World} {base : Nat} {e : TypeId} {v : Value} {zs : List α} (ho : OwnV f w base e v zs) {g : Nat} (hg : v.ownBlock = some g) : base ≤ g ∧ ∃ o, w.heap[g]? = some o ∧ o.isCells = true := by
  rcases ho.2 with ⟨rfl, _⟩ | ⟨g', cap, cur, rfl, hb, hgg, _⟩
  · cases hg
  · cases hg
    exact ⟨hb, _, hgg, rfl⟩

section
variable {w : World} {p : Nat} {A : Option Addr} {m c n bG bW bF bD bS bQ : Nat} {Ds : List Nat} {wr wr' : World} {D zs zs' : List Int} {v v' : Value}

theorem St.lt (h : St w p A m c n bG bW bF bD bS bQ Ds wr D zs v) : bQ < wr.heap.size := h.ord.2.2.2.2.2.2

/-- what changes no cells and no mark. -/
theorem St.frame {S : Nat → Prop} (h : St w p A m c n bG bW bF bD bS bQ Ds wr D zs v) (ho : Only S wr wr') (hS : ∀ j, S j → w.heap.size ≤ j) (hc : ∀ j o, S j → wr.heap[j]? = some o → o.isCells = false) (hd : ∀ j ∈ Ds, ¬ S j) : St w p A m c n bG bW bF bD bS bQ Ds wr' D zs v := by
  have key : ∀ (a : Addr) (u : Value), wr.cell? a = some u → wr'.cell? a = some u ∧ wr'.frozen? a = wr.frozen? a := fun a u hu => by
    obtain ⟨o, h1, h2⟩ := cells_of_cell hu
    have hl := (Array.getElem?_eq_some_iff.1 h1).1
    have hn : ¬ S a.block := fun s => by
      have := hc _ _ s h1
      rw [h2] at this
      cases this
    exact ⟨(ho.cell hl hn).trans hu, ho.frozen hl hn⟩
  have kown : ∀ {base : Nat} {e : TypeId} {u : Value} {ys : List Int}, OwnI wr base e u ys → OwnI wr' base e u ys := fun hu => ho.own hu (fun g hg s => by
    obtain ⟨_, o, h1, h2⟩ := own_cells hu hg
    have := hc _ _ s h1
    rw [h2] at this
    cases this)
  obtain ⟨q1, q2⟩ := key _ _ h.q.cell
  refine ⟨h.below.trans (ho.below (Nat.le_trans (Nat.le_refl _) h.below.size) hS), ?_, (key _ _ h.cg).1, (key _ _ h.cw).1, (key _ _ h.cf).1, (key _ _ h.cs).1, kown h.own, ⟨q1, q2.trans h.q.froz, kown h.q.own, h.q.low, Nat.le_trans h.q.room ho.size⟩, fun x hx => (ho.block x (Array.getElem?_eq_some_iff.1 (h.marks x hx)).1 (hd x hx)).trans (h.marks x hx), h.nodup, h.mlow⟩
  have := h.ord
  have := ho.size
  omega

theorem St.alloc (h : St w p A m c n bG bW bF bD bS bQ Ds wr D zs v) (o : Obj) : St w p A m c n bG bW bF bD bS bQ Ds (wr.alloc o) D zs v :=
  h.frame (S := fun _ => False) (Only.of_below ((Below.refl _ _).alloc (Nat.le_refl _) o)) (fun _ s => s.elim) (fun _ _ s => s.elim) (fun _ _ s => s)
theorem St.after (h : St w p A m c n bG bW bF bD bS bQ Ds wr D zs v) (hb : Below wr.heap.size wr wr') : St w p A m c n bG bW bF bD bS bQ Ds wr' D zs v :=
  h.frame (S := fun _ => False) (Only.of_below hb) (fun _ s => s.elim) (fun _ _ s => s.elim) (fun _ _ s => s)
theorem St.drew (h : St w p A m c n bG bW bF bD bS bQ Ds wr D zs v) : St w p A m c n bG bW bF bD bS bQ Ds wr.drew D zs v :=
  h.frame (S := fun _ => False) Only.refl.drew (fun _ s => s.elim) (fun _ _ s => s.elim) (fun _ _ s => s)

/-- a call of push or pop. -/
theorem St.queue (h : St w p A m c n bG bW bF bD bS bQ Ds wr D zs v) (hq : QueueAt wr' (bQ + 1) bQ v' zs') (ho : Only (fun k => k = bQ ∨ v.ownBlock = some k) wr wr') : St w p A m c n bG bW bF bD bS bQ Ds wr' D zs' v' := by
  have hord := h.ord
  have hout : ∀ k, k < bQ → ¬ (k = bQ ∨ v.ownBlock = some k) := fun k hk s => by
    rcases s with s | s
    · omega
    · have := (own_cells h.q.own s).1
      omega
  have kc : ∀ (k : Nat) (u : Value), k < bQ → wr.cell? ⟨k, 0, none⟩ = some u → wr'.cell? ⟨k, 0, none⟩ = some u := fun k u hk hu => (ho.cell (a := ⟨k, 0, none⟩) (by show k < _; omega) (hout k hk)).trans hu
  refine ⟨h.below.trans (ho.below h.below.size (fun j s => ?_)), ?_, kc _ _ (by omega) h.cg, kc _ _ (by omega) h.cw, kc _ _ (by omega) h.cf, kc _ _ (by omega) h.cs, ho.own h.own (fun g hg => hout g (by cases hg; show bD < bQ; omega)), hq, fun x hx => (ho.block x (Array.getElem?_eq_some_iff.1 (h.marks x hx)).1 (fun s => ?_)).trans (h.marks x hx), h.nodup, h.mlow⟩
  · rcases s with s | s
    · omega
    · have := (own_cells h.q.own s).1
      omega
  · have := ho.size
    omega
  · have hm := h.marks x hx
    rcases s with rfl | s
    · obtain ⟨o, h1, h2⟩ := cells_of_cell h.q.cell
      rw [show (⟨x, 0, none⟩ : Addr).block = x from rfl, hm] at h1
      cases h1
      cases h2
    · obtain ⟨_, o, h1, h2⟩ := own_cells h.q.own s
      rw [hm] at h1
      cases h1
      cases h2

theorem St.store (h : St w p A m c n bG bW bF bD bS bQ Ds wr D zs v) (k : Nat) (z : Int) : St w p A m c n bG bW bF bD bS bQ Ds (wr.setCell ⟨bD, k, none⟩ (.int .i64 z)) (D.set k z) zs v := by
  have hord := h.ord
  have ho : Only (fun j => j = bD) wr (wr.setCell ⟨bD, k, none⟩ (.int .i64 z)) := Only.setCell (S := fun j => j = bD) (a := ⟨bD, k, none⟩) Only.refl (fun _ => rfl) _
  have kc : ∀ (b : Nat) (u : Value), b ≠ bD → wr.cell? ⟨b, 0, none⟩ = some u → (wr.setCell ⟨bD, k, none⟩ (.int .i64 z)).cell? ⟨b, 0, none⟩ = some u := fun b u hb hu => by
    obtain ⟨o, h1, _⟩ := cells_of_cell hu
    exact (ho.cell (a := ⟨b, 0, none⟩) (Array.getElem?_eq_some_iff.1 h1).1 hb).trans hu
  refine ⟨h.below.setCell (p := ⟨bD, k, none⟩) (by show _ ≤ bD; omega) _, by have := ho.size; omega, kc _ _ (by omega) h.cg, kc _ _ (by omega) h.cw, kc _ _ (by omega) h.cf, kc _ _ (by omega) h.cs, h.own.stored k z, ⟨kc _ _ (by omega) h.q.cell, (ho.frozen (a := ⟨bQ, 0, none⟩) (by show bQ < _; omega) (by show ¬ bQ = bD; omega)).trans h.q.froz, ho.own h.q.own (fun g hg => by have := (own_cells h.q.own hg).1; omega), h.q.low, Nat.le_trans h.q.room ho.size⟩, fun x hx => (ho.block x (Array.getElem?_eq_some_iff.1 (h.marks x hx)).1 (fun s => ?_)).trans (h.marks x hx), h.nodup, h.mlow⟩
  subst s
  obtain ⟨_, o, h1, h2⟩ := own_cells h.own (g := x) rfl
  rw [h.marks x hx] at h1
  cases h1
  cases h2

/-- the loop's own book-keeping. -/
theorem St.grown {row : Option Nat} (h : St w p A m c n bG bW bF bD bS bQ Ds wr D zs v) (hg : wr.grownBy wr' row) (hr : ∀ r, row = some r → (∀ j ∈ Ds, j < r) ∧ w.heap.size ≤ r ∧ ∃ o : Obj, wr.heap[r]? = some o ∧ o.isCells = false) : St w p A m c n bG bW bF bD bS bQ Ds wr' D zs v :=
  h.frame (S := fun k => row = some k) (Only.of_grown hg (fun _ e => e)) (fun j s => (hr j s).2.1) (fun j o s ho => by
    obtain ⟨_, _, o', h1, h2⟩ := hr j s
    rw [ho] at h1
    cases h1
    exact h2) (fun j hj s => by have := (hr j s).1 j hj; omega)
/-- one mark more. -/
theorem St.mark (h : St w p A m c n bG bW bF bD bS bQ Ds wr D zs v) {x : Nat} (hx : wr.heap[x]? = some (.deferred (some []))) (hl : w.heap.size ≤ x) (hn : ∀ j ∈ Ds, j < x) : St w p A m c n bG bW bF bD bS bQ (x :: Ds) wr D zs v :=
  ⟨h.below, h.ord, h.cg, h.cw, h.cf, h.cs, h.own, h.q, fun y hy => by
    rcases List.mem_cons.1 hy with rfl | hy
    · exact hx
    · exact h.marks y hy, List.nodup_cons.2 ⟨fun hm => by have := hn x hm; omega, h.nodup⟩, fun y hy => by
    rcases List.mem_cons.1 hy with rfl | hy
    · exact hl
    · exact h.mlow y hy⟩
end

/-- a mark of a loop that is over. -/
def mk35 (x : Nat) : Deferred := { target := .collected x, args := #[] }
theorem leaves_marks {F : Fence} {n : Nat} {P : Program} {fn : Func} {tmps : Array Value} {R : Ending → World → Prop} : ∀ (Ds : List Nat) (W : World), (∀ x ∈ Ds, W.heap[x]? = some (.deferred (some []))) → Ds.Nodup → (∀ W', Only (fun k => k ∈ Ds) W W' → LeavesIn F n P fn tmps R [] .returning W') → LeavesInM F n P fn tmps R (Ds.map mk35) .returning W
  | [], W, _, _, h => h W Only.refl
  | x :: Ds, W, hm, hn, h => by
    have hx := hm x List.mem_cons_self
    obtain ⟨h1, h2⟩ := List.nodup_cons.1 hn
    have ho : Only (fun k => k = x) W (W.putObj x (.deferred none)) := Only.of_grown (grownBy_putObj' W x (.deferred none)) (fun j e => by cases e; rfl)
    refine ⟨by simp, .inl ⟨x, _, rfl, run_takeDeferred hx, ?_⟩⟩
    refine leaves_marks Ds _ (fun y hy => ?_) h2 (fun W' hW' => h W' ?_)
    · exact (ho.block y (Array.getElem?_eq_some_iff.1 (hm y (List.mem_cons_of_mem _ hy))).1 (fun e => by subst e; exact h1 hy)).trans (hm y (List.mem_cons_of_mem _ hy))
    · exact (ho.mono (S' := fun k => k ∈ x :: Ds) (fun j _ e => by subst e; exact List.mem_cons_self)).trans hW' (fun j _ e => List.mem_cons_of_mem _ e)
theorem new_cell (W : World) (v : Value) (t : TypeId) : (W.alloc (.cells #[v] t)).cell? ⟨W.heap.size, 0, none⟩ = some v ∧ (W.alloc (.cells #[v] t)).frozen? ⟨W.heap.size, 0, none⟩ = false := ⟨by simp [go_sem], by simp [go_sem]⟩
theorem old_cell {W : World} {a : Addr} {v : Value} (o : Obj) (h : W.cell? a = some v) : (W.alloc o).cell? a = some v := cell_kept h (World.grownBy_alloc W o none) (fun r e => by cases e)
theorem keeps_only {S : Nat → Prop} {W W' : World} (ho : Only S W W') (hc : ∀ j, S j → ∃ o, W.heap[j]? = some o ∧ o.isCells = true) : KeepsOthers W W' :=
  ⟨ho.size, fun k o hk hf => (ho.block k (Array.getElem?_eq_some_iff.1 hk).1 (fun s => by
    obtain ⟨o', h1, h2⟩ := hc k s
    rw [hk] at h1
    cases h1
    rw [hf] at h2
    cases h2)).trans hk⟩
theorem keeps_below {W W' : World} (h : Below W.heap.size W W') : KeepsOthers W W' := keeps_only (S := fun _ => False) (Only.of_below h) (fun _ s => s.elim)
end
section
open Go

def noDefer (ops : Array Oper) : Bool := ops.toList.all fun o => match o.op with | .defer _ => false | _ => true
theorem noDefer_at {ops : Array Oper} (h : noDefer ops = true) {i : Nat} {o : Oper} (ho : ops[i]? = some o) : ∀ c, o.op ≠ .defer c := fun c e => by
  have := List.all_eq_true.1 h o (by rw [Array.mem_toList_iff]; exact Array.mem_of_getElem? ho)
  rw [e] at this
  cases this

theorem wpAnyIn_inRound {F : Fence} {n : Nat} {P : Program} {md : Region.Mode} {ops : Array Oper} {Q : Exit → Act → World → Prop} (l : Nat) (hro : F.round = none) (hd : noDefer ops = true) : ∀ (fuel : Nat) (listed : Array Bool) (a : Act) (w : World), wpAnyIn F n P md ops Q fuel listed a w → wpAnyIn (F.inRound l) n P md ops Q fuel listed a w
  | 0, _, _, _, h => h
  | fuel + 1, listed, a, w, h => by
    refine ⟨h.1, fun i hi => ?_⟩
    have h2 := h.2 i hi
    unfold wpOpIn at h2 ⊢
    cases ho : ops[i]? with
    | none =>
      rw [ho] at h2
      exact wpAnyIn_inRound l hro hd fuel _ _ _ h2
    | some o =>
      rw [ho] at h2
      simp only at h2 ⊢
      split at h2
      · rename_i hw
        rw [if_pos hw]
        refine Oper.wpIn_mono (fun a' w' k => wpAnyIn_inRound l hro hd fuel _ _ _ k) ?_
        unfold Oper.wpIn at h2 ⊢
        rw [hro, Oper.semAt_none] at h2
        rw [Fence.inRound_round, Oper.semAt_some l _ _ (noDefer_at hd ho)]
        exact h2
      · rename_i hw
        rw [if_neg hw]
        exact ⟨h2.1, wpAnyIn_inRound l hro hd fuel _ _ _ h2.2⟩

theorem wpIn_region_quiet_round {F : Fence} {n : Nat} {P : Program} {id : Nat} {Q : Exit → Act → World → Prop} {a : Act} {w : World} {ops : List Oper} {l : Nat} (hro : F.round = none) (hm : P.follows .mixedOrders = true) (hB : Region.lexB .any ops.toArray = true) (hd : noDefer ops.toArray = true)
    (h : wpQuietIn F n P ops.toArray (fun w' => ∃ n, w' = w.drewN n) (fun a' => ∀ w', (∃ n, w' = w.drewN n) → Q .normal a' w') ops a) : (Code.region id ops.toArray true).wpIn (F.inRound l) n P Q a w := by
  simp only [Region.lexB, Bool.and_eq_true] at hB
  refine wpIn_region_any hm (wpAnyIn_inRound l hro hd _ _ _ _ (wpAnyIn_of_quiet (C := fun w' => ∃ n, w' = w.drewN n) (Q := fun a' => ∀ w', (∃ n, w' = w.drewN n) → Q .normal a' w') hro (fun _ w' hw' h => h w' hw') _ _ _ _ ⟨1, rfl⟩ ?_))
  have := wpAnyQIn_lex (F := F) (n := n) (C := fun w' => ∃ n, w' = w.drewN n) (md := .any) hB.1 ops 0 (Array.replicate ops.toArray.size false) a (by simp) (by simpa using hB.2) h
  simpa using this

/-- from a walk of all orders outside to one in the wide fence, where nothing lets out. -/
theorem wpOpIn_of_wpOp {n : Nat} {P : Program} {ops : Array Oper} {Q : Exit → Act → World → Prop} (hq : ¬ LetsOut Q) {i : Nat} {K K' : Act → World → Prop} (hK : ∀ a w, K a w → K' a w) {a : Act} {w : World} (h : wpOp P ops Q i K a w) : wpOpIn Fence.wide n P ops Q i K' a w := by
  unfold wpOp at h
  unfold wpOpIn
  cases ho : ops[i]? with
  | none =>
    rw [ho] at h
    exact hK _ _ h
  | some o =>
    rw [ho] at h
    simp only at h ⊢
    split at h
    · rename_i hw
      rw [if_pos hw]
      rcases h with h | ⟨_, h⟩
      · have h := Oper.wp_mono hK h
        refine ⟨fun _ _ => trivial, ?_⟩
        have e : Oper.semAt Fence.wide.round a.eval o = execOp a.eval o := rfl
        rw [e]
        unfold Oper.wp at h
        generalize (execOp a.eval o).run P w = r at h ⊢
        cases r with
        | ok nx w' =>
          cases nx with
          | value v => exact h
          | skip => exact h
          | defer d => exact h
          | enter f args =>
            refine ⟨fun e => ?_, callsIn_wide.2 h⟩
            cases e
          | row row args =>
            refine ⟨fun e => ?_, fun c cs _ => ?_⟩
            · cases e
            · obtain ⟨v, w', r, s⟩ := h c cs
              exact ⟨v, w', r, stepsIn_wide.2 s⟩
          | _ => exact h.elim
        | halt hh w' =>
          cases hh with
          | panic v => exact h
          | _ => exact h.elim
      · exact absurd h hq
    · rename_i hw
      rw [if_neg hw]
      exact ⟨fun _ _ => trivial, hK _ _ h⟩
theorem wpAnyIn_of_wpAny {n : Nat} {P : Program} {md : Region.Mode} {ops : Array Oper} {Q : Exit → Act → World → Prop} (hq : ¬ LetsOut Q) : ∀ (fuel : Nat) (listed : Array Bool) (a : Act) (w : World), wpAny P md ops Q fuel listed a w → wpAnyIn Fence.wide n P md ops Q fuel listed a w
  | 0, _, _, _, h => h
  | fuel + 1, _, _, _, h => ⟨h.1, fun i hi => wpOpIn_of_wpOp hq (fun _ _ k => wpAnyIn_of_wpAny hq fuel _ _ _ k) (h.2 i hi)⟩

/-- a region that draws its order, in a round, by the cells that it leaves alone (S). -/
theorem wpIn_region_held_round {S : World → Prop} {n : Nat} {P : Program} {id : Nat} {Q : Exit → Act → World → Prop} {a : Act} {w : World} {ops : Array Oper} {l : Nat} (hm : P.follows .mixedOrders = true) (hd : noDefer ops = true) (hS : S w.drew)
    (h : S w.drew → wpAnyH P .any ops (fun e a' w' => e = .normal ∧ Q .normal a' w') S ops.size (Array.replicate ops.size false) a w.drew) : (Code.region id ops true).wpIn (Fence.wide.inRound l) n P Q a w := by
  refine wpIn_mono (Q := fun e a' w' => e = .normal ∧ Q .normal a' w') ?_ (fun e a' w' hh => by obtain ⟨rfl, k⟩ := hh; exact k)
  have hq : ¬ LetsOut (fun (e : Exit) (a' : Act) (w' : World) => e = .normal ∧ Q .normal a' w') := by
    rintro ⟨_, _, e, _⟩
    cases e
  exact wpIn_region_any hm (wpAnyIn_inRound l rfl hd _ _ _ _ (wpAnyIn_of_wpAny hq _ _ _ _ (wpAny_of_held _ _ _ _ (h hS))))
end
end Go.Proofs.YtimijjhdgihobaaGreatDoor
