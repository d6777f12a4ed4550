/-
  nodeset: Min (the least node).
-/
import Derived.Test.YtalfjcamjdmdjaaDoorList
namespace Go.Proofs.YtalfjcamjdmdjaaDoor
open Go.RowKit Go.Shelf
attribute [local go_sem] Oper.semAt_some

def minV : List Nat → Value
  | [] => .tuple #[.int .i64 0, .bool false]
  | x :: _ => .tuple #[.int .i64 x, .bool true]
/-- the two result cells. -/
structure TwoC (w : World) (r : Nat) (a b : Value) (W : World) : Prop where
  c0 : W.cell? ⟨r, 0, none⟩ = some a
  c1 : W.cell? ⟨r + 1, 0, none⟩ = some b
  f0 : W.frozen? ⟨r, 0, none⟩ = false
  f1 : W.frozen? ⟨r + 1, 0, none⟩ = false
  below : Below w.heap.size w W
  low : w.heap.size ≤ r
section
variable {w W W' : World} {r : Nat} {a b : Value}
theorem TwoC.lt (h : TwoC w r a b W) : r + 1 < W.heap.size := by
  obtain ⟨o, h1, _⟩ := cells_of_cell h.c1
  exact (Array.getElem?_eq_some_iff.1 h1).1
theorem TwoC.only (h : TwoC w r a b W) {S : Nat → Prop} (ho : Only S W W') (h0 : ¬ S r) (h1 : ¬ S (r + 1)) (hb : Below w.heap.size W W') : TwoC w r a b W' := by
  have l := h.lt
  have l0 : r < W.heap.size := by omega
  exact ⟨(ho.cell (a := ⟨r, 0, none⟩) l0 h0).trans h.c0, (ho.cell (a := ⟨r + 1, 0, none⟩) l h1).trans h.c1, (ho.frozen (a := ⟨r, 0, none⟩) l0 h0).trans h.f0, (ho.frozen (a := ⟨r + 1, 0, none⟩) l h1).trans h.f1, h.below.trans hb, h.low⟩
theorem TwoC.grown (h : TwoC w r a b W) {B : Nat} (hB : w.heap.size ≤ B) {row : Option Nat} (hg : W.grownBy W' row) (hr : ∀ k, row = some k → B ≤ k ∧ ∃ o : Obj, W.heap[k]? = some o ∧ o.isCells = false) : TwoC w r a b W' := by
  refine h.only (S := fun j => row = some j) (Only.of_grown hg (fun j e => e)) (fun e => ?_) (fun e => ?_) ((Below.refl _ _).grown hg h.below.size (fun k e => Nat.le_trans hB (hr k e).1))
  · obtain ⟨_, o, p, q⟩ := hr _ e
    exact not_cells h.c0 p q rfl
  · obtain ⟨_, o, p, q⟩ := hr _ e
    exact not_cells h.c1 p q rfl
theorem TwoC.set (h : TwoC w r a b W) (a' b' : Value) : Only (fun j => j = r ∨ j = r + 1) W ((W.setCell ⟨r, 0, none⟩ a').setCell ⟨r + 1, 0, none⟩ b') ∧ TwoC w r a' b' ((W.setCell ⟨r, 0, none⟩ a').setCell ⟨r + 1, 0, none⟩ b') := by
  have ho : Only (fun j => j = r ∨ j = r + 1) W ((W.setCell ⟨r, 0, none⟩ a').setCell ⟨r + 1, 0, none⟩ b') :=
    (Only.setCell (Only.setCell Only.refl (a := ⟨r, 0, none⟩) (fun _ => .inl rfl) _) (a := ⟨r + 1, 0, none⟩) (fun _ => .inr rfl) _)
  refine ⟨ho, ?_, ?_, ?_, ?_, h.below.trans (ho.below h.below.size (fun j e => by have := h.low; omega)), h.low⟩
  · rw [World.cell?_setCell_other _ _ _ _ (fun e => by injection e with e; omega)]
    exact World.cell?_setCell_same _ _ _ h.c0
  · exact World.cell?_setCell_same _ _ _ ((World.cell?_setCell_other _ _ _ _ (fun e => by injection e with e; omega)).trans h.c1)
  · rw [World.frozen?_setCell, World.frozen?_setCell]; exact h.f0
  · rw [World.frozen?_setCell, World.frozen?_setCell]; exact h.f1
end
def RetMin (w : World) (L : List Nat) (e : Ending) (w' : World) : Prop := e = .returned (minV L) ∧ Below w.heap.size w w'
theorem two_ret {R : Ending → World → Prop} {w : World} {tmps : Array Value} {r D : Nat} {W1 : World} {a b : Value} (h2 : tmps[2]? = some (.pointer (some ⟨r, 0, none⟩))) (h3 : tmps[3]? = some (.pointer (some ⟨r + 1, 0, none⟩)))
    (hD : w.heap.size ≤ D) (hm : W1.heap[D]? = some (.deferred (some []))) (h : TwoC w r a b W1) (hR : ∀ W', Below w.heap.size w W' → R (.returned (.tuple #[a, b])) W') :
    LeavesInM Fence.wide 4 Tryd.prog Tryd.f45 tmps R [{ target := .collected D, args := #[] }] .returning W1 := by
  refine leaves_one hm fun W' hW' => ?_
  have h' : TwoC w r a b W' := h.only hW' (fun e => not_cells h.c0 (r := D) hm rfl e) (fun e => not_cells h.c1 (r := D) hm rfl e) (hW'.below h.below.size (fun j e => by have e : j = D := e; rw [e]; exact hD))
  have k0 := h'.c0
  have k1 := h'.c1
  refine ⟨_, ?_, hR W' h'.below⟩
  simp [results, Tryd.results45, go_sem, h2, h3, k0, k1]
set_option maxRecDepth 100000 in
set_option maxHeartbeats 2000000 in
theorem min_any (w : World) (p : Option Addr) (V : List Nat) (h : SetAt w p V) (hT : BruAt w) (hg : 0 < w.heap.size) : Calls Tryd.prog 45 #[.agg #[.pointer p]] w (RetMin w (nodesW V)) := by
  refine (callsIn_wide (n := 4)).1 ?_
  refine callsIn_of_wp_marks Tryd.func45 rfl trivial ?_ rfl
  simp only [Tryd.ntmps45, List.size_toArray, List.length_cons, List.length_nil, Nat.reduceAdd, Nat.reduceSub, Array.replicate_succ, Array.replicate_zero, List.push_toArray, List.append_toArray, List.nil_append, List.cons_append]
  gi_wp2
  refine ⟨trivial, (callsIn_wide.2 (each_any _ p)).mono ?_⟩
  rintro e w' ⟨rfl, rfl⟩
  gi_wp2
  have c2 := new_cell (w.alloc (.cells #[.pointer p] 30)) (.int .i64 0) 3
  have c3 := new_cell ((w.alloc (.cells #[.pointer p] 30)).alloc (.cells #[.int .i64 0] 3)) (.bool false) 4
  have c4 := new_cell (((w.alloc (.cells #[.pointer p] 30)).alloc (.cells #[.int .i64 0] 3)).alloc (.cells #[.bool false] 4)) (.pointer p) 30
  obtain ⟨w1, hw1⟩ : ∃ w1, w1 = w.alloc (.cells #[.pointer p] 30) := ⟨_, rfl⟩
  have hb1 : Below w.heap.size w w1 := by rw [hw1]; exact (Below.refl _ _).alloc (Nat.le_refl _) _
  have hz1 : w1.heap.size = w.heap.size + 1 := by rw [hw1]; simp
  rw [← hw1] at c2 c3 c4 ⊢
  rw [hz1] at c2
  rw [World.size_alloc, hz1] at c3
  rw [World.size_alloc, World.size_alloc, hz1] at c4
  obtain ⟨W0, hW0⟩ : ∃ W0, W0 = ((w1.alloc (.cells #[.int .i64 0] 3)).alloc (.cells #[.bool false] 4)).alloc (.cells #[.pointer p] 30) := ⟨_, rfl⟩
  have hz0 : W0.heap.size = w.heap.size + 1 + 1 + 1 + 1 := by rw [hW0]; simp [hz1]
  have hB1 : Below w1.heap.size w1 W0 := by rw [hW0]; exact (((Below.refl _ _).alloc (Nat.le_refl _) _).alloc (by simp) _).alloc (by simp; omega) _
  have hB0 : Below w.heap.size w W0 := hb1.trans (hB1.mono (by omega))
  have hT0 : TwoC w (w.heap.size + 1) (.int .i64 0) (.bool false) W0 := by
    have q1 : (((w1.alloc (.cells #[.int .i64 0] 3)).alloc (.cells #[.bool false] 4)).alloc (.cells #[.pointer p] 30)).frozen? ⟨w.heap.size + 1, 0, none⟩ = false := by
      rw [((Below.refl _ _).alloc (Nat.le_refl _) (.cells #[.pointer p] 30)).frozen (p := ⟨w.heap.size + 1, 0, none⟩) (by simp [hz1]), ((Below.refl _ _).alloc (Nat.le_refl _) (.cells #[.bool false] 4)).frozen (p := ⟨w.heap.size + 1, 0, none⟩) (by simp [hz1])]
      exact c2.2
    have q2 : (((w1.alloc (.cells #[.int .i64 0] 3)).alloc (.cells #[.bool false] 4)).alloc (.cells #[.pointer p] 30)).frozen? ⟨w.heap.size + 1 + 1, 0, none⟩ = false := by
      rw [((Below.refl _ _).alloc (Nat.le_refl _) (.cells #[.pointer p] 30)).frozen (p := ⟨w.heap.size + 1 + 1, 0, none⟩) (by simp [hz1])]
      exact c3.2
    refine ⟨?_, ?_, ?_, ?_, hB0, by omega⟩ <;> rw [hW0]
    · exact old_cell _ (old_cell _ c2.1)
    · exact old_cell _ c3.1
    · exact q1
    · exact q2
  have hsc : W0.cell? ⟨w.heap.size + 1 + 1 + 1, 0, none⟩ = some (.pointer p) := by rw [hW0]; exact c4.1
  rw [← hW0]
  have hset := h.below hB0
  have hbru : BruAt W0 := fun j hj => (hB0.cell (p := ⟨0, j, none⟩) hg).trans (hT j hj)
  have hrow := rowOf_lt h hg
  obtain ⟨r, hr⟩ : ∃ r, r = w.heap.size + 1 := ⟨_, rfl⟩
  rw [← hr] at hT0 hsc hz0 ⊢
  clear h hT hb1 hz1 hB1 c2 c3 c4 hW0 hw1
  have HG := Lib.hid (And.intro hrow hg)
  have hlow := hT0.low
  clear hr
  refine wpIn_rangeFunc_ownG rfl (by omega) (gf := 36) (lb := #[.pointer (some ⟨r + 1 + 1, 0, none⟩)]) rfl trivial (enters_of Tryd.func36 (by kernel_rfl) rfl)
    (each_stops 3 (by omega) (r + 1 + 1) p V W0 hset hsc (by omega) hbru (Nat.lt_of_lt_of_le hg hB0.size))
    KeepTwo.trans (fun W l o o' hl _ _ _ => KeepTwo.put (B := W0.heap.size) (Nat.lt_of_lt_of_le hrow hB0.size) W l o' hl) (Below.refl _ _) (fun _ => rfl)
    (fun (pre : List {z : Nat // z ∈ nodesW V}) W => pre = [] ∧ TwoC w r (.int .i64 0) (.bool false) W) (fun c pre W => c = .ret ∧ ∃ x, pre = [x] ∧ TwoC w r (.int .i64 x.1) (.bool true) W)
    (fun s A B row hs hgr hr => ⟨hs.1, hs.2.grown hB0.size hgr hr⟩) (fun c s A B row hs hgr hr => by obtain ⟨h1, x, h2, h3⟩ := hs; exact ⟨h1, x, h2, h3.grown hB0.size hgr hr⟩) ⟨rfl, hT0⟩
    (fun y => { tmps := #[.agg #[.pointer p], .pointer (some ⟨w.heap.size, 0, none⟩), .pointer (some ⟨r, 0, none⟩), .pointer (some ⟨r + 1, 0, none⟩), .int .i64 y.1, .agg #[.pointer p], .func (.func 36) #[] #[.pointer (some ⟨r + 1 + 1, 0, none⟩)], .int .i64 y.1, undef], defers := [] }) ?assign ?body ?done ?stop
  case assign =>
    intro l y W K hK
    gi_wp2
    exact hK
  case stop =>
    rintro D c pre W hD ⟨ys, hys⟩ ⟨rfl, x, rfl, h⟩ hm
    have HE : Hid (nodesW V = x.1 :: ys.map Subtype.val) := Lib.hid (by
      have := congrArg (List.map Subtype.val) hys
      rw [List.attach_map_subtype_val] at this
      exact this.symm)
    gi_wp2
    refine two_ret rfl rfl (Nat.le_trans hB0.size hD) hm h fun W' hW' => ⟨?_, hW'⟩
    exact congrArg (fun z => Ending.returned (minV z)) HE.out.symm
  case done =>
    rintro D xs W hD rfl ⟨hx, h⟩ hm
    have HE : Hid (nodesW V = []) := Lib.hid (by
      have := congrArg (List.map Subtype.val) hx
      rw [List.attach_map_subtype_val] at this
      exact this)
    obtain ⟨e0, e1, e2, e3⟩ := And.intro h.c0 (And.intro h.c1 (And.intro h.f0 h.f1))
    have hs := h.set (.int .i64 0) (.bool false)
    have hm' := (hs.1.block D (Array.getElem?_eq_some_iff.1 hm).1 (by rintro (e | e) <;> omega)).trans hm
    have HS := Lib.hid (And.intro hs.2 hm')
    clear hs hm' h
    gi_wp2
    refine two_ret rfl rfl (Nat.le_trans hB0.size hD) HS.out.2 HS.out.1 fun W' hW' => ⟨?_, hW'⟩
    rw [HE.out]
    rfl
  case body =>
    rintro l pre x W ⟨rfl, h⟩ hlen
    obtain ⟨e0, e1, e2, e3⟩ := And.intro h.c0 (And.intro h.c1 (And.intro h.f0 h.f1))
    have HS := Lib.hid (h.set (.int .i64 x.1) (.bool true))
    have HC := Lib.hid (And.intro (cells_of_cell h.c0) (cells_of_cell h.c1))
    clear h hlen
    gi_wp2
    refine ⟨keeps_from HS.out.1 (fun j s _ => ?_), rfl, x.1, ⟨x.2, rfl⟩, HS.out.2⟩
    rcases s with e | e
    · rw [e]; exact HC.out.1
    · rw [e]; exact HC.out.2
end Go.Proofs.YtalfjcamjdmdjaaDoor
