/-
  append of a whole slice of structs (lines of XMoreU); the last element of a row is replaced. Plain.
-/
import Derived.Test.YtbbklideciappaaGreatDoorPqBg
namespace Go.Proofs.YtbbklideciappaaGreatDoor
open Go.RowKit Go.Maps

section
variable {α : Type} {cs : α → List Value} {s : Nat} {P : Program} (w : World)
theorem flat_nil {ys : List α} (hs : ∀ a, (cs a).length = s) (h0 : 0 < s) (h : ys.flatMap cs = []) : ys = [] := by
  have := congrArg List.length h
  rw [flat_len hs, List.length_nil] at this
  rcases Nat.mul_eq_zero.1 this with h | h
  · exact List.length_eq_zero_iff.1 h
  · omega
theorem run_append_recs (hcs : ∀ a, (cs a).length = s) (t ty e : TypeId) (ht : P.underlying t = some (.slice e)) {z0 : Value} {by0 : Nat} (hinfo : (P.info? e).map (fun i => (i.zero, i.size, i.bytes)) = some (some z0, s, by0)) (hz0 : z0.cells.size = s) (h0 : 0 < s) (hby : by0 ≤ 256)
    (base : Nat) (v : Value) (zs : List α) (hown : OwnR cs s w base e v zs) (B : Nat) (A : Option Addr) (m c : Nat) (ys : List α) (hm : m = ys.length) (hnc : A = none → c = 0) (hs : RecsAt cs w B A ys) (hone : ∀ y ∈ ys, ∀ u ∈ cs y, u.oneCell' = true)
    (hlen : zs.length + ys.length ≤ 549755813888) (hbase : base ≤ w.heap.size) :
    ∃ v' w', (Builtin.append_ #[t, t] ty #[v, .slice A m c]).run P w = .ok v' w' ∧ OwnR cs s w' base e v' (zs ++ ys) ∧ w.grownBy w' v.ownBlock := by
  obtain ⟨i0, hi, hz1, hz2, hz3⟩ := info_parts hinfo
  subst hm
  cases A with
  | none =>
    have hn := Sl.nil_of_none hs
    have hy : ys = [] := flat_nil hcs h0 hn
    subst hy
    obtain rfl := hnc rfl
    exact ⟨v, w, run_append_owned_none (P := P) (w := w) base t ty e i0 s ht hi v zs.length _ hown, by simpa using hown, World.grownBy.refl w _⟩
  | some ad =>
    have hcells : ∀ j u, (ys.flatMap cs)[j]? = some u → w.cell? (ad.add j) = some u := by
      intro j u hj
      obtain ⟨b, o, e, _, hc⟩ := hs j u hj
      injection e with e
      subst e
      rw [add_none]
      exact hc
    obtain ⟨v', w', hr, h2, h3, _⟩ := run_append_own (P := P) w base t ty e i0 z0 s by0 ht hi hz1 hz2 hz3 hz0 h0 v zs.length _ hown ad ys.length c (ys.flatMap cs) (flat_len hcs ys) hcells
      (by intro u hu; rw [List.mem_flatMap] at hu; obtain ⟨y, hy, hu⟩ := hu; exact hone y hy u hu) (by unfold maxLen; omega) (by have := Nat.mul_le_mul hlen hby; omega) hbase
    refine ⟨v', w', hr, ?_, h3⟩
    unfold OwnR
    rw [List.length_append, List.flatMap_append]
    exact h2
theorem step_append_recs {ops : Array Oper} {o : Oper} {a : Act} {K : Act → World → Prop} {Q : Exit → Act → World → Prop} {E : Prop} (hw : Region.wanted o (yielded ops a.tmps) = true) (hcs : ∀ a, (cs a).length = s) (sl x : Operand) (t : TypeId)
    (ho : o.op = .call { callee := .builtin .append, args := #[sl, x], argTypes := #[t, t] }) (e : TypeId) (ht : P.underlying t = some (.slice e)) {z0 : Value} {by0 : Nat} (hinfo : (P.info? e).map (fun i => (i.zero, i.size, i.bytes)) = some (some z0, s, by0)) (hz0 : z0.cells.size = s) (h0 : 0 < s) (hby : by0 ≤ 256)
    (base : Nat) (v : Value) (zs : List α) (hv : a.eval sl = v) (hown : OwnR cs s w base e v zs) (B : Nat) (A : Option Addr) (m c : Nat) (ys : List α) (hx : a.eval x = .slice A m c) (hm : m = ys.length) (hnc : A = none → c = 0) (hs : RecsAt cs w B A ys) (hone : ∀ y ∈ ys, ∀ u ∈ cs y, u.oneCell' = true)
    (hlen : zs.length + ys.length ≤ 549755813888) (hbase : base ≤ w.heap.size)
    (h : ∀ v' w', OwnR cs s w' base e v' (zs ++ ys) → w.grownBy w' v.ownBlock → K (a.put o.dst v') w') : if Region.wanted o (yielded ops a.tmps) = true then Oper.wp P o a w K Q else E := by
  rw [if_pos hw]
  obtain ⟨v', w', hrun, h2, h3⟩ := run_append_recs w hcs t o.type e ht hinfo hz0 h0 hby base v zs hown B A m c ys hm hnc hs hone hlen hbase
  unfold Oper.wp execOp
  simp only [ho, resolve, invoke, builtin, Sem.run_bind, Sem.run_pure, Result.andThen_ok, List.map_toArray, List.map_cons, List.map_nil, hv, hx, hrun]
  exact h v' w' h2 h3
/-- a row that the call laid whole. -/
theorem OwnR.lit (hcs : ∀ a, (cs a).length = s) (base : Nat) (e : TypeId) (zs : List α) {n : Nat} (hn : n = w.heap.size) (hb : base ≤ n) (hm : zs.length ≤ 4398046511104) (vs : Array Value) (hvs : vs = (zs.flatMap cs).toArray) :
    OwnR cs s (w.alloc (.cells vs e)) base e (.slice (some ⟨n, 0, none⟩) zs.length zs.length) zs := by
  subst hn hvs
  have := World.ownsRow_lit (base := base) (e := e) (size := s) w (zs.flatMap cs).toArray zs.length hb (by unfold maxLen; omega) (by simpa using flat_len hcs zs)
  unfold OwnR
  simpa using this
theorem wpList_append_recs {ops : Array Oper} {rest : List Oper} {o : Oper} {a : Act} {Q : Exit → Act → World → Prop} (hgd : o.guard = none) (hcs : ∀ a, (cs a).length = s) (sl x : Operand) (t : TypeId)
    (ho : o.op = .call { callee := .builtin .append, args := #[sl, x], argTypes := #[t, t] }) (e : TypeId) (ht : P.underlying t = some (.slice e)) {z0 : Value} {by0 : Nat} (hinfo : (P.info? e).map (fun i => (i.zero, i.size, i.bytes)) = some (some z0, s, by0)) (hz0 : z0.cells.size = s) (h0 : 0 < s) (hby : by0 ≤ 256)
    (base : Nat) (v : Value) (zs : List α) (hv : a.eval sl = v) (hown : OwnR cs s w base e v zs) (B : Nat) (A : Option Addr) (m c : Nat) (ys : List α) (hx : a.eval x = .slice A m c) (hm : m = ys.length) (hnc : A = none → c = 0) (hs : RecsAt cs w B A ys) (hone : ∀ y ∈ ys, ∀ u ∈ cs y, u.oneCell' = true)
    (hlen : zs.length + ys.length ≤ 549755813888) (hbase : base ≤ w.heap.size)
    (h : ∀ v' w', OwnR cs s w' base e v' (zs ++ ys) → w.grownBy w' v.ownBlock → wpList P ops Q rest (a.put o.dst v') w') : wpList P ops Q (o :: rest) a w := by
  obtain ⟨v', w', hrun, h2, h3⟩ := run_append_recs w hcs t o.type e ht hinfo hz0 h0 hby base v zs hown B A m c ys hm hnc hs hone hlen hbase
  refine BigFrame.wpList_want (by simp [Region.wanted, hgd]) fun _ hK => ?_
  unfold Oper.wp execOp
  simp only [ho, resolve, invoke, builtin, Sem.run_bind, Sem.run_pure, Result.andThen_ok, List.map_toArray, List.map_cons, List.map_nil, hv, hx, hrun]
  exact hK _ _ (h v' w' h2 h3)
end
end Go.Proofs.YtbbklideciappaaGreatDoor
