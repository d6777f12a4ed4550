/-
  Edges of a road graph as they lie in memory; slices.Clone at []api.Edge.
-/
import Derived.Test.YtppbmnlneoinhaaDoorProg
import Derived.Test.YtppbmnlneoinhaaDoorMemB
import Derived.WalkLawsBesides
import Derived.WalkSpells
import Derived.BigGuardPart
import Derived.Deep.Light
import Derived.Lib.SliceRun
namespace Go.Proofs.YtppbmnlneoinhaaDoor
open Go.RowKit Go.Maps

structure EdgeT where
  frm : Int
  to : Int
  tm : Int
def cellsE (E : List EdgeT) : List Value := E.flatMap (fun e => [.int .i64 e.frm, .int .i64 e.to, .int .i64 e.tm])
def EdgesAt (w : World) (B : Nat) (A : Option Addr) (E : List EdgeT) : Prop := Sl w B A (cellsE E)
theorem cellsE_len (E : List EdgeT) : (cellsE E).length = E.length * 3 := by
  induction E with
  | nil => rfl
  | cons e E ih =>
    have : cellsE (e :: E) = [.int .i64 e.frm, .int .i64 e.to, .int .i64 e.tm] ++ cellsE E := rfl
    rw [this, List.length_append, ih, List.length_cons]
    simp
    omega
theorem cellsE_at : ∀ {E : List EdgeT} {i : Nat} {e : EdgeT}, E[i]? = some e → (cellsE E)[i * 3]? = some (.int .i64 e.frm) ∧ (cellsE E)[i * 3 + 1]? = some (.int .i64 e.to) ∧ (cellsE E)[i * 3 + 2]? = some (.int .i64 e.tm)
  | [], i, e, h => by simp at h
  | x :: E, 0, e, h => by
    simp only [List.getElem?_cons_zero, Option.some.injEq] at h
    subst h
    exact ⟨rfl, rfl, rfl⟩
  | x :: E, i + 1, e, h => by
    have ih := cellsE_at (E := E) (i := i) (e := e) (by simpa using h)
    have hx : cellsE (x :: E) = [.int .i64 x.frm, .int .i64 x.to, .int .i64 x.tm] ++ cellsE E := rfl
    have key : ∀ j, (cellsE (x :: E))[(i + 1) * 3 + j]? = (cellsE E)[i * 3 + j]? := by
      intro j
      rw [hx, List.getElem?_append_right (by simp; omega)]
      congr 1
      simp
      omega
    exact ⟨(key 0).trans ih.1, (key 1).trans ih.2.1, (key 2).trans ih.2.2⟩
section
variable {w w' : World} {B B' : Nat} {A : Option Addr} {E : List EdgeT}
theorem EdgesAt.at (h : EdgesAt w B A E) {i : Nat} {e : EdgeT} (hi : E[i]? = some e) : ∃ b o, A = some ⟨b, o, none⟩ ∧ b < B ∧ w.cell? ⟨b, o + i * 3, none⟩ = some (.int .i64 e.frm) ∧ w.cell? ⟨b, o + i * 3 + 1, none⟩ = some (.int .i64 e.to) ∧ w.cell? ⟨b, o + i * 3 + 2, none⟩ = some (.int .i64 e.tm) := by
  obtain ⟨h0, h1, h2⟩ := cellsE_at hi
  obtain ⟨b, o, e0, hb, c0⟩ := h _ _ h0
  obtain ⟨b1, o1, e1, _, c1⟩ := h _ _ h1
  obtain ⟨b2, o2, e2, _, c2⟩ := h _ _ h2
  rw [e0] at e1 e2
  injection e1 with e1
  injection e1 with e3 e4
  injection e2 with e2
  injection e2 with e5 e6
  subst e3 e4 e5 e6
  exact ⟨b, o, e0, hb, c0, by rw [Nat.add_assoc]; exact c1, by rw [Nat.add_assoc]; exact c2⟩
theorem EdgesAt.below (h : EdgesAt w B A E) (hb : Below B w w') : EdgesAt w' B A E := Sl.below h hb
theorem EdgesAt.more (h : EdgesAt w B A E) (hB : B ≤ B') : EdgesAt w B' A E := Sl.more h hB
theorem EdgesAt.alloc (h : EdgesAt w B A E) (hB : B ≤ w.heap.size) (o : Obj) : EdgesAt (w.alloc o) B A E := Sl.alloc h hB o
end

theorem edge_info : (Tryd.prog.info? 53).map (fun i => (i.zero, i.size, i.bytes)) = some (some (.agg #[.int .i64 0, .int .i64 0, .int .i64 0]), 3, 24) := by kernel_rfl

/-- what slices.Clone of edges returns. -/
def RetEdges (w : World) (E : List EdgeT) (e : Ending) (w' : World) : Prop := ∃ A c, e = .returned (.slice A E.length c) ∧ EdgesAt w' w'.heap.size A E ∧ E.length ≤ c ∧ c ≤ 9223372036854775807 ∧ Below w.heap.size w w'

theorem caps_row {w : World} {base : Nat} {e : TypeId} {size n c : Nat} {A : Option Addr} {m : Nat} {xs : List Value} (h : w.ownsRow base e size (.slice A m c) n xs) : m = n ∧ n ≤ c ∧ c ≤ 9223372036854775807 := by
  rcases h.2 with ⟨e1, e2⟩ | ⟨g4, c4, cur4, e1, _, _, e2, e3, _⟩
  · injection e1 with e3 e4 e5
    subst e3 e4 e5
    exact ⟨by omega, by omega, by omega⟩
  · injection e1 with e5 e6 e7
    subst e6 e7
    exact ⟨rfl, e2, by unfold maxLen at e3; omega⟩

set_option maxRecDepth 100000 in
theorem cloneE_any (A : Option Addr) (c : Nat) (E : List EdgeT) (w : World) (ha : EdgesAt w w.heap.size A E) (hl : E.length ≤ 65536) (hn : A = none → c = 0) :
    Calls Tryd.prog 34 #[.slice A E.length c] w (RetEdges w E) := by
  have HN := Lib.hid hn
  clear hn
  have hnil := fun (W : World) (a : Option Addr) (n c : Nat) => Lib.run_eql_slice_nil (P := Tryd.prog) W 54 53 a n c 0 0 Tryd.underlying54
  cases A with
  | none =>
    obtain rfl : E = [] := by
      have := Sl.nil_of_none ha
      have h2 := congrArg List.length this
      rw [cellsE_len] at h2
      exact List.eq_nil_of_length_eq_zero (by simp at h2; omega)
    obtain rfl := HN.out rfl
    go_enter Tryd.func34, Tryd.ntmps34
    go_wp2_with fail
    go_ret
    exact ⟨none, 0, rfl, Sl.empty, by simp, by omega, Below.refl _ _⟩
  | some a =>
    obtain ⟨i0, hi, hz1, hz2, hz3⟩ := info_parts edge_info
    have hE0 : (w.alloc (.cells #[] 53)).ownsRow w.heap.size 53 3 (.slice (some ⟨w.heap.size, 0, none⟩) 0 0) 0 [] := by
      have := World.ownsRow_lit (base := w.heap.size) (e := 53) (size := 3) w #[] 0 (Nat.le_refl _) (by unfold maxLen; omega) (by simp)
      simpa using this
    have hb1 : Below w.heap.size w (w.alloc (.cells #[] 53)) := (Below.refl _ _).alloc (Nat.le_refl _) _
    have hs1 := Sl.alloc ha (Nat.le_refl _) (.cells #[] 53)
    have hcells : ∀ j u, (cellsE E)[j]? = some u → (w.alloc (.cells #[] 53)).cell? (a.add j) = some u := by
      intro j u hj
      obtain ⟨b, o, e, _, hc⟩ := hs1 j u hj
      injection e with e
      subst e
      rw [add_none]
      exact hc
    have hone : ∀ u ∈ cellsE E, u.oneCell' = true := by
      intro u hu
      unfold cellsE at hu
      obtain ⟨e, _, he⟩ := List.mem_flatMap.1 hu
      simp at he
      rcases he with rfl | rfl | rfl <;> rfl
    have HRES : Hid (∀ v' w', w'.ownsRow w.heap.size 53 3 v' (0 + E.length) ([] ++ cellsE E) → (w.alloc (.cells #[] 53)).grownBy w' (some w.heap.size) → RetEdges w E (.returned v') w') := by
      show ∀ v' w', _ → _ → _
      intro v' w' hown hg
      obtain ⟨A', c', rfl, hsl⟩ := Sl.own hown
      have := caps_row hown
      refine ⟨A', c', by rw [Nat.zero_add], ?_, by omega, by omega, hb1.grown hg hb1.size (fun k e => by cases e; exact Nat.le_refl _)⟩
      rw [List.nil_append] at hsl
      exact hsl
    have HC := Lib.hid hcells
    have HO := Lib.hid hone
    have HE0 := Lib.hid hE0
    clear hb1 hs1 hcells hone hE0
    go_enter Tryd.func34, Tryd.ntmps34
    go_wp2_with (at_builtin; refine wpList_append_own _ rfl (.tmp 5) (.tmp 6) 54 rfl w.heap.size 53 i0 (.agg #[.int .i64 0, .int .i64 0, .int .i64 0]) 3 24 Tryd.underlying54 hi hz1 hz2 hz3 rfl (by decide) _ 0 [] rfl HE0.out a E.length c (cellsE E) rfl (cellsE_len E) HC.out HO.out (by unfold maxLen; omega) (by omega) (by simp) ?_; intro v' w' hown hg _)
    go_ret
    exact HRES.out _ _ hown hg
end Go.Proofs.YtppbmnlneoinhaaDoor
