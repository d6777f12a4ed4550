/-
  Words for samaritanlaw35.DispatchcostAssignedUnits: one unit more never makes more slots; append of a whole slice of structs; an array of two bytes.
-/
import Derived.Test.YtimijjhdgihobaaGreatDoorMqu
import Derived.Test.YtimijjhdgihobaaGreatDoorMrb
namespace Go.Proofs.YtimijjhdgihobaaGreatDoor
section
open Go.RowKit Go.Maps Go.ChangeShapes Go.WideShapes Go.ChangeAt

theorem slots_more {ps : List Plan} (hk : ∀ code urg, Kinds (kindsL ps code urg)) (us : List UnitT) (u : UnitT) (hu : 1 ≤ u.kind ∧ u.kind ≤ 4) (ys : List IncT) : (ys.flatMap (slotsX (us ++ [u]) ps)).length ≤ (ys.flatMap (slotsX us ps)).length := by
  induction ys with
  | nil => simp
  | cons y ys ih =>
    rw [List.flatMap_cons, List.flatMap_cons, List.length_append, List.length_append]
    have h1 : (slotsX (us ++ [u]) ps y).length ≤ (slotsX us ps y).length := by
      unfold slotsX
      rw [List.length_map, List.length_map, haveK_snoc]
      split
      · rename_i he
        rw [he]
        exact unmet_more _ _ _ (hk _ _) hu
      · exact Nat.le_refl _
    omega
theorem slots_closed (xs : List IncT) (us : List UnitT) (ps : List Plan) (h : ∀ x ∈ xs, x.closed = true) : slotsL xs us ps = [] := by
  have : xs.filter openI = [] := by
    rw [List.filter_eq_nil_iff]
    intro x hx
    simp [openI, h x hx]
  unfold slotsL
  rw [this]
  rfl

/-- the fixed plans; their kinds lie at the blocks h, h + 1. -/
def exP (h : Nat) : List Plan := [⟨star, 1, some ⟨h, 0, none⟩, [1, 2, 1], 3⟩, ⟨star, 3, some ⟨h + 1, 0, none⟩, [3, 1], 2⟩]
theorem exP_kinds (h : Nat) (code : ByteArray) (urg : Int) : Kinds (kindsL (exP h) code urg) := by
  unfold kindsL
  cases hq : pickP (exP h) code urg with
  | none =>
    intro z hz
    simp at hz
    omega
  | some p =>
    have hm : p ∈ exP h := by
      unfold pickP at hq
      rw [Option.or_eq_some_iff] at hq
      rcases hq with hq | ⟨_, hq⟩
      · exact List.mem_of_find?_eq_some hq
      · exact List.mem_of_find?_eq_some hq
    simp only [exP, List.mem_cons, List.not_mem_nil, or_false] at hm
    rcases hm with rfl | rfl <;> intro z hz <;> simp at hz <;> omega
theorem exP_small (h : Nat) : smallP (exP h) = true := rfl
theorem exP_at {w W : World} {h : Nat} (hh : h = w.heap.size) (hW : W = ((w.alloc (.cells #[.int .i64 1, .int .i64 2, .int .i64 1] 3)).alloc (.cells #[.int .i64 3, .int .i64 1] 3)).alloc (.cells #[.string ⟨#[42]⟩, .int .i64 1, .slice (some ⟨h, 0, none⟩) 3 3, .string ⟨#[42]⟩, .int .i64 3, .slice (some ⟨h + 1, 0, none⟩) 2 2] 101)) :
    Plans W W.heap.size (some ⟨h + 2, 0, none⟩) (exP h) := by
  subst hh
  obtain ⟨W1, hW1⟩ : ∃ W1, W1 = w.alloc (.cells #[.int .i64 1, .int .i64 2, .int .i64 1] 3) := ⟨_, rfl⟩
  obtain ⟨W2, hW2⟩ : ∃ W2, W2 = W1.alloc (.cells #[.int .i64 3, .int .i64 1] 3) := ⟨_, rfl⟩
  rw [← hW1, ← hW2] at hW
  have z1 : W1.heap.size = w.heap.size + 1 := by rw [hW1]; simp
  have z2 : W2.heap.size = w.heap.size + 2 := by rw [hW2]; simp [z1]
  have z3 : W.heap.size = w.heap.size + 3 := by rw [hW]; simp [z2]
  have k1 : Sl W W.heap.size (some ⟨w.heap.size, 0, none⟩) ([1, 2, 1].map (Value.int .i64)) := by
    have h1 : Sl W1 W1.heap.size (some ⟨w.heap.size, 0, none⟩) ([1, 2, 1].map (Value.int .i64)) := by rw [hW1]; exact Sl.lit w [.int .i64 1, .int .i64 2, .int .i64 1] 3 rfl
    have h2 := h1.alloc (Nat.le_refl _) (.cells #[.int .i64 3, .int .i64 1] 3)
    rw [← hW2] at h2
    have h3 := h2.alloc (by omega) (.cells #[.string ⟨#[42]⟩, .int .i64 1, .slice (some ⟨w.heap.size, 0, none⟩) 3 3, .string ⟨#[42]⟩, .int .i64 3, .slice (some ⟨w.heap.size + 1, 0, none⟩) 2 2] 101)
    rw [← hW] at h3
    exact h3.more (by omega)
  have k2 : Sl W W.heap.size (some ⟨w.heap.size + 1, 0, none⟩) ([3, 1].map (Value.int .i64)) := by
    have h1 : Sl W2 W2.heap.size (some ⟨w.heap.size + 1, 0, none⟩) ([3, 1].map (Value.int .i64)) := by rw [hW2]; exact Sl.lit W1 [.int .i64 3, .int .i64 1] 3 z1.symm
    have h3 := h1.alloc (Nat.le_refl _) (.cells #[.string ⟨#[42]⟩, .int .i64 1, .slice (some ⟨w.heap.size, 0, none⟩) 3 3, .string ⟨#[42]⟩, .int .i64 3, .slice (some ⟨w.heap.size + 1, 0, none⟩) 2 2] 101)
    rw [← hW] at h3
    exact h3.more (by omega)
  have kc : ∀ j, W.cell? ⟨w.heap.size + 2, j, none⟩ = (#[.string ⟨#[42]⟩, .int .i64 1, .slice (some ⟨w.heap.size, 0, none⟩) 3 3, .string ⟨#[42]⟩, .int .i64 3, .slice (some ⟨w.heap.size + 1, 0, none⟩) 2 2] : Array Value)[j]? := fun j => by
    rw [hW, World.cell?_alloc_at (hn := z2.symm)]
  have hlt : w.heap.size + 2 < W.heap.size := by omega
  intro i p hp
  match i, hp with
  | 0, hp =>
    cases hp
    exact ⟨⟨_, _, rfl, hlt, (kc 0), (kc 1), (kc 2), k1⟩, ⟨by intro z hz; simp at hz; rcases hz with rfl | rfl | rfl <;> rfl, rfl, (show (1 : Nat) ≤ 9223372036854775807 by omega), Nat.le_refl _, (show (3 : Nat) ≤ 9223372036854775807 by omega), fun h => by cases h⟩⟩
  | 1, hp =>
    cases hp
    exact ⟨⟨_, _, rfl, hlt, (kc 3), (kc 4), (kc 5), k2⟩, ⟨by intro z hz; simp at hz; rcases hz with rfl | rfl <;> rfl, rfl, (show (1 : Nat) ≤ 9223372036854775807 by omega), Nat.le_refl _, (show (2 : Nat) ≤ 9223372036854775807 by omega), fun h => by cases h⟩⟩
  | i + 2, hp => simp [exP] at hp

theorem exP_at' {w W : World} (hW : W = ((w.alloc (.cells #[.int .i64 1, .int .i64 2, .int .i64 1] 3)).alloc (.cells #[.int .i64 3, .int .i64 1] 3)).alloc (.cells #[.string ⟨#[42]⟩, .int .i64 1, .slice (some ⟨w.heap.size, 0, none⟩) 3 3, .string ⟨#[42]⟩, .int .i64 3, .slice (some ⟨w.heap.size + 1, 0, none⟩) 2 2] 101)) :
    Plans W W.heap.size (some ⟨w.heap.size + 1 + 1, 0, none⟩) (exP w.heap.size) := exP_at rfl hW
def closeI (x : IncT) : IncT := ⟨x.id, x.urg, x.code, x.nA, x.nodes, x.nc, x.dist, x.since, x.cA, x.cl, x.cc, x.uA, x.ul, x.uc, x.merged, true⟩
theorem nodes_close {w : World} {B : Nat} {xs : List IncT} (h : NodesAt w B xs) : NodesAt w B (xs.map closeI) := fun y hy => by
  rw [List.mem_map] at hy
  obtain ⟨x, hx, rfl⟩ := hy
  exact h x hx
theorem wf_close {xs : List IncT} (h : ∀ x ∈ xs, IncWf x) : ∀ x ∈ xs.map closeI, IncWf x := fun y hy => by
  rw [List.mem_map] at hy
  obtain ⟨x, hx, rfl⟩ := hy
  obtain ⟨h1, h2, h3, h4, h5, h6, h7⟩ := h x hx
  exact ⟨h1, h2, h3, h4, h5, h6, h7⟩

section
variable {α : Type} {cs : α → List Value} {s : Nat} {P : Program} (w : World)
theorem flat_nil {ys : List α} (hs : ∀ a, (cs a).length = s) (h0 : 0 < s) (h : ys.flatMap cs = []) : ys = [] := by
  have := congrArg List.length h
  rw [flat_len hs, List.length_nil] at this
  rcases Nat.mul_eq_zero.1 this with h | h
  · exact List.length_eq_zero_iff.1 h
  · omega
theorem run_append_recs (hcs : ∀ a, (cs a).length = s) (t ty e : TypeId) (ht : P.underlying t = some (.slice e)) {z0 : Value} {by0 : Nat} (hinfo : (P.info? e).map (fun i => (i.zero, i.size, i.bytes)) = some (some z0, s, by0)) (hz0 : z0.cells.size = s) (h0 : 0 < s) (hby : by0 ≤ 256)
    (base : Nat) (v : Value) (zs : List α) (hown : OwnR cs s w base e v zs) (B : Nat) (A : Option Addr) (m c : Nat) (ys : List α) (hm : m = ys.length) (hnc : A = none → c = 0) (hs : RecsAt cs w B A ys) (hone : ∀ y ∈ ys, ∀ u ∈ cs y, u.oneCell' = true)
    (hlen : zs.length + ys.length ≤ 549755813888) (hbase : base ≤ w.heap.size) :
    ∃ v' w', (Builtin.append_ #[t, t] ty #[v, .slice A m c]).run P w = .ok v' w' ∧ OwnR cs s w' base e v' (zs ++ ys) ∧ w.grownBy w' v.ownBlock := by
  obtain ⟨i0, hi, hz1, hz2, hz3⟩ := info_parts hinfo
  subst hm
  cases A with
  | none =>
    have hn := Sl.nil_of_none hs
    have hy : ys = [] := flat_nil hcs h0 hn
    subst hy
    obtain rfl := hnc rfl
    exact ⟨v, w, run_append_owned_none (P := P) (w := w) base t ty e i0 s ht hi v zs.length _ hown, by simpa using hown, World.grownBy.refl w _⟩
  | some ad =>
    have hcells : ∀ j u, (ys.flatMap cs)[j]? = some u → w.cell? (ad.add j) = some u := by
      intro j u hj
      obtain ⟨b, o, e, _, hc⟩ := hs j u hj
      injection e with e
      subst e
      rw [add_none]
      exact hc
    obtain ⟨v', w', hr, h2, h3, _⟩ := run_append_own (P := P) w base t ty e i0 z0 s by0 ht hi hz1 hz2 hz3 hz0 h0 v zs.length _ hown ad ys.length c (ys.flatMap cs) (flat_len hcs ys) hcells
      (by intro u hu; rw [List.mem_flatMap] at hu; obtain ⟨y, hy, hu⟩ := hu; exact hone y hy u hu) (by unfold maxLen; omega) (by have := Nat.mul_le_mul hlen hby; omega) hbase
    refine ⟨v', w', hr, ?_, h3⟩
    unfold OwnR
    rw [List.length_append, List.flatMap_append]
    exact h2
theorem step_append_recs {ops : Array Oper} {o : Oper} {a : Act} {K : Act → World → Prop} {Q : Exit → Act → World → Prop} {E : Prop} (hw : Region.wanted o (yielded ops a.tmps) = true) (hcs : ∀ a, (cs a).length = s) (sl x : Operand) (t : TypeId)
    (ho : o.op = .call { callee := .builtin .append, args := #[sl, x], argTypes := #[t, t] }) (e : TypeId) (ht : P.underlying t = some (.slice e)) {z0 : Value} {by0 : Nat} (hinfo : (P.info? e).map (fun i => (i.zero, i.size, i.bytes)) = some (some z0, s, by0)) (hz0 : z0.cells.size = s) (h0 : 0 < s) (hby : by0 ≤ 256)
    (base : Nat) (v : Value) (zs : List α) (hv : a.eval sl = v) (hown : OwnR cs s w base e v zs) (B : Nat) (A : Option Addr) (m c : Nat) (ys : List α) (hx : a.eval x = .slice A m c) (hm : m = ys.length) (hnc : A = none → c = 0) (hs : RecsAt cs w B A ys) (hone : ∀ y ∈ ys, ∀ u ∈ cs y, u.oneCell' = true)
    (hlen : zs.length + ys.length ≤ 549755813888) (hbase : base ≤ w.heap.size)
    (h : ∀ v' w', OwnR cs s w' base e v' (zs ++ ys) → w.grownBy w' v.ownBlock → K (a.put o.dst v') w') : if Region.wanted o (yielded ops a.tmps) = true then Oper.wp P o a w K Q else E := by
  rw [if_pos hw]
  obtain ⟨v', w', hrun, h2, h3⟩ := run_append_recs w hcs t o.type e ht hinfo hz0 h0 hby base v zs hown B A m c ys hm hnc hs hone hlen hbase
  unfold Oper.wp execOp
  simp only [ho, resolve, invoke, builtin, Sem.run_bind, Sem.run_pure, Result.andThen_ok, List.map_toArray, List.map_cons, List.map_nil, hv, hx, hrun]
  exact h v' w' h2 h3
/-- a row that the call laid whole. -/
theorem OwnR.lit (hcs : ∀ a, (cs a).length = s) (base : Nat) (e : TypeId) (zs : List α) {n : Nat} (hn : n = w.heap.size) (hb : base ≤ n) (hm : zs.length ≤ 4398046511104) (vs : Array Value) (hvs : vs = (zs.flatMap cs).toArray) :
    OwnR cs s (w.alloc (.cells vs e)) base e (.slice (some ⟨n, 0, none⟩) zs.length zs.length) zs := by
  subst hn hvs
  have := World.ownsRow_lit (base := base) (e := e) (size := s) w (zs.flatMap cs).toArray zs.length hb (by unfold maxLen; omega) (by simpa using flat_len hcs zs)
  unfold OwnR
  simpa using this
end

section
variable {H : Type} {enc : TypeId × Value → H}
end
end
end Go.Proofs.YtimijjhdgihobaaGreatDoor
