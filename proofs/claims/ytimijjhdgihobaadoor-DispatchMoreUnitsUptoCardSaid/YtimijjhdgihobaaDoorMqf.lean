/-
  From a walk to a law's row: whatever the arguments are, they read behind the call as before it, because nothing that was there has changed; and how an integer, a string and a slice of integers come in.
  Units as they lie in memory and come in.
  dispatchcost.Dispatchable and samaritanref35.Spare return the same units.
  The reference's marking of used units (samaritanref31.Left) keeps the counts that responseplan.Unmet keeps.
  No condition: plain lemmas on lists.
  samaritanref31.Left returns a new slice with the same list as the plain function of Unmet, for every two lists of integers shorter than 2^40; nothing that was there changes.
-/
import Derived.Test.YtimijjhdgihobaaDoorMqa
import Derived.ProofKit
import Derived.OpenShut
import Derived.ShutString
import Derived.ChangeOld
import Derived.Carry
import Derived.SizedLaws
import Derived.Deep.Slices
import Derived.Deep.Fields
import Derived.Test.YtimijjhdgihobaaDoorProg
import Derived.Test.YtimijjhdgihobaaDoorMqe
import Derived.Deep.QuietTactic
import Derived.BigQuiet
import Derived.Deep.DeepCutAuto
import Derived.BigGuardPart
import Derived.Deep.Light
namespace Go.Proofs.YtimijjhdgihobaaDoor
section
open Go.ChangeShapes Go.WideShapes Go.ChangeAt Go.RowKit
open Go.ChangeMaps (open_string shut_string)

section
variable {H : Type} {enc : TypeId × Value → H} {P : Program}

theorem trodAll_below (hl : laidOutB P = true) {W W' : World} (hb : Below W.heap.size W W') : ∀ (ts : List TypeId) (vs : List Value) (ds : List (DataW H)) (ps : List MemPlace),
    (ts.all fun t => P.readableRec t && decide (t < P.types.size)) = true → DataW.TrodAll enc P W 0 (fun _ => true) true ts vs ds ps → DataW.TrodAll enc P W' 0 (fun b => decide (b < W.heap.size)) true ts vs ds ps
  | [], vs, ds, ps, _, h => by cases vs <;> cases ds <;> simp [DataW.TrodAll] at h ⊢ <;> exact h
  | t :: ts, vs, ds, ps, ha, h => by
    obtain ⟨v, vs', d, ds', p, q, rfl, rfl, rfl, h1, h2⟩ := trodAll_cons h
    simp only [List.all_cons, Bool.and_eq_true, decide_eq_true_eq] at ha
    refine trodAll_cons_mk (Below.trod hl ha.1.1 ha.1.2 h1 hb ?_) (trodAll_below hl hb ts vs' ds' q ha.2 h2)
    obtain ⟨m, hm⟩ := h1
    exact DataW.trod_lt m _ _ _ hm

/-- THE LAST STEP OF A LAW: it has returned true, and what was there is as it was. -/
theorem law_post {f : Func} {s : ChangeSpec} {W W' : World} {args : Array Value} {ds gs : List (DataW H)} {before : List MemPlace} {tb : TypeId}
    (hl : laidOutB P = true) (hr : (f.params.toList.all fun t => P.readableRec t && decide (t < P.types.size)) = true) (hres : f.resultTypes = #[tb]) (hbool : P.underlying tb = some .bool) (hv : s.vars = [])
    (hW : DataW.Whole enc P f.params.toList s.vars false W args.toList ds gs before)
    (h1 : (s.fn H (ds ++ gs)).results = [.lit (.bool true)]) (h2 : (s.fn H (ds ++ gs)).args = ds) (h3 : (s.fn H (ds ++ gs)).vars = []) (hb : Below W.heap.size W W') :
    s.post enc P f false true false false W args (.bool true) W' := by
  have hW' := hW
  obtain ⟨p, q, hA, hV, hp, _, _⟩ := hW
  refine ⟨ds, gs, before, [], p, [], hW', ?_, ?_, ?_, hb.frame _, fun h => by cases h⟩
  · rw [hres, h1]
    exact trodAll_mk1 (shut_bool hbool _)
  · rw [h2]
    exact trodAll_below hl hb _ _ _ _ hr hA
  · rw [hv, h3]
    exact rfl

theorem add_at {w : World} {a : Addr} {n : Nat} {u : Value} (h : w.cell? (a.add n) = some u) (h0 : a.spot = none) : w.cell? ⟨a.block, a.off + n, none⟩ = some u := by
  have : a.add n = ⟨a.block, a.off + n, none⟩ := by
    unfold Addr.add
    split
    · rename_i hn
      subst hn
      cases a
      simp at h0
      simp [h0]
    · rfl
  rw [this] at h
  exact h

/-- A slice of integers, its one cell read. -/
theorem ints_field {W : World} {t e : TypeId} {k : IntKind} {v : Value} {x : DataW H × List MemPlace} {base fuel : Nat} {spare : Nat → Bool} {held : Bool}
    (ht : P.underlying t = some (.slice e)) (he : P.underlying e = some (.int k)) (hc : P.cellsOf e = 1) (hf : DataW.trod enc P W base spare held fuel t [v] = some x) :
    ∃ (A : Option Addr) (zs : List Int) (cap : Nat), v = .slice A zs.length cap ∧ Sl W W.heap.size A (zs.map (Value.int k)) ∧ (∀ z ∈ zs, (Lit.int k z).wf = true) ∧ zs.length ≤ cap ∧ cap ≤ 9223372036854775807 ∧ (A = none → cap = 0) := by
  rcases open_ints ht he hc hf with ⟨hcs, _⟩ | ⟨x, len, cap, zs, hcs, _, hlc, hm, hz, _, hcell, hwz⟩
  · simp at hcs
    subst hcs
    exact ⟨none, [], 0, rfl, Sl.empty, by simp, by simp, by omega, fun _ => rfl⟩
  · simp at hcs
    subst hcs
    have hll : len ≤ zs.length := by
      rw [hz]
      split <;> omega
    have hlt : (zs.take len).length = len := by simp; omega
    refine ⟨some x, zs.take len, cap, by rw [hlt], ?_, fun z h => hwz z (List.mem_of_mem_take h), by omega, by unfold maxLen at hm; omega, fun h => by cases h⟩
    intro j u hj
    have hj1 : j < len := by
      have := (List.getElem?_eq_some_iff.1 hj).1
      simp at this
      omega
    have h0 := hcell 0 (by omega)
    have hs0 : x.spot = none := by simpa [Addr.add] using World.cell?_spot h0
    have h1 := hcell j (by omega)
    refine ⟨x.block, x.off, by cases x; simp at hs0; simp [hs0], ?_, ?_⟩
    · have h2 := World.block_lt_of_cell? W _ h0
      simpa [Addr.add] using h2
    · have h3 := add_at h1 hs0
      rw [h3]
      rw [List.getElem?_map, List.getElem?_take, if_pos hj1] at hj
      have hjz : j < zs.length := by omega
      rw [List.getElem?_eq_getElem hjz] at hj
      simp at hj
      rw [← hj]
      simp [hjz]

/-- A slice of integers that came in. -/
theorem open_sl {W : World} {r : Reach} {b0 : Nat} {t e : TypeId} {k : IntKind} {v : Value} {d : DataW H} {p : List MemPlace} {base : Nat} {spare : Nat → Bool} {held : Bool}
    (ht : P.underlying t = some (.slice e)) (he : P.underlying e = some (.int k)) (hc : P.cellsOf e = 1) (hv : Value.okWide P W r b0 t v) (h : DataW.Trod enc P W base spare held t v d p) :
    ∃ (A : Option Addr) (zs : List Int) (cap : Nat), v = .slice A zs.length cap ∧ Sl W W.heap.size A (zs.map (Value.int k)) ∧ (∀ z ∈ zs, (Lit.int k z).wf = true) ∧ zs.length ≤ cap ∧ cap ≤ 9223372036854775807 ∧ (A = none → cap = 0) := by
  obtain ⟨A, len, cap, rfl⟩ := okWide_slice ht hv
  obtain ⟨fuel, hf⟩ := h
  exact ints_field ht he hc (by simpa [Value.cells] using hf)

/-- A slice of structs (one cell a field), its one cell read: for each element and each field the cell and its own reading. -/
theorem recs_field {W : World} {t e : TypeId} {fs : Array Field} {v : Value} {x : DataW H × List MemPlace} {base fuel : Nat} {spare : Nat → Bool} {held : Bool}
    (ht : P.underlying t = some (.slice e)) (he : P.underlying e = some (.struct fs)) (hone : Go.Deep.oneCellFields P fs = true) (hC : P.cellsOf e = fs.size) (hpos : 0 < fs.size) (hf : DataW.trod enc P W base spare held fuel t [v] = some x) :
    ∃ (A : Option Addr) (n cap : Nat), v = .slice A n cap ∧ n ≤ cap ∧ cap ≤ 9223372036854775807 ∧ (A = none → cap = 0) ∧
      ∀ i, i < n → ∃ b o, A = some ⟨b, o, none⟩ ∧ b < W.heap.size ∧ ∀ (j : Nat) (f : Field), fs[j]? = some f → ∃ (u : Value) (y : DataW H × List MemPlace) (m : Nat), W.cell? ⟨b, o + i * fs.size + j, none⟩ = some u ∧ DataW.trod enc P W base spare held m f.type [u] = some y := by
  rcases Go.Deep.open_slice ht hf with ⟨hcs, _⟩ | ⟨a, len, cap, m, n, D, Pl, hcs, hb, hl, hm, hmm, hx, hi⟩
  · simp at hcs
    subst hcs
    exact ⟨none, 0, 0, rfl, by omega, by omega, fun _ => rfl, fun i h => absurd h (by omega)⟩
  · simp at hcs
    subst hcs
    refine ⟨some a, len, cap, rfl, hl, by unfold maxLen at hm; omega, (fun h => by cases h), fun i hil => ?_⟩
    have hml : len ≤ m := by
      rw [hmm]
      split <;> omega
    have key : ∀ i, i < len → ∀ (j : Nat) (f : Field), fs[j]? = some f → ∃ (u : Value) (y : DataW H × List MemPlace) (q : Nat), W.cell? (a.add (i * fs.size + j)) = some u ∧ DataW.trod enc P W base spare held q f.type [u] = some y := by
      intro i hi2 j f hj
      obtain ⟨cs', hc, ht'⟩ := hi i (by omega)
      rw [hC] at hc
      obtain ⟨ys, n', _, _, hlen, hyl, hg⟩ := DataW.trod_struct he ht'
      obtain ⟨_, hcl, hat⟩ := World.cells?_some hc
      obtain ⟨ho, hk⟩ := Go.Deep.hone_of hone j f hj
      have hjl : j < fs.size := (Array.getElem?_eq_some_iff.1 hj).1
      have hcell := hat j hjl
      have h1 := hg j f hj
      rw [ho, hk] at h1
      have hone' : (cs'.drop j).take 1 = [cs'[j]'(by omega)] := by
        rw [List.drop_eq_getElem_cons (by omega)]
        rfl
      rw [hone'] at h1
      refine ⟨cs'[j]'(by omega), ys[j]'(by omega), n', ?_, h1.trans (List.getElem?_eq_getElem (by omega))⟩
      rw [← Go.Deep.add_add, hcell]
      exact List.getElem?_eq_getElem (by omega)
    obtain ⟨u0, _, _, hu0, _⟩ := key 0 (by omega) 0 fs[0] (by simp)
    have hs0 : a.spot = none := by simpa [Addr.add] using World.cell?_spot hu0
    refine ⟨a.block, a.off, by cases a; simp at hs0; simp [hs0], ?_, fun j f hj => ?_⟩
    · have h2 := World.block_lt_of_cell? W _ hu0
      simpa [Addr.add] using h2
    · obtain ⟨u, y, q, hu, hy⟩ := key i hil j f hj
      refine ⟨u, y, q, ?_, hy⟩
      have := add_at hu hs0
      rw [Nat.add_assoc]
      exact this
end
end
section
open Go.ChangeShapes Go.WideShapes Go.ChangeAt Go.RowKit

structure UnitT where
  id : Int
  kind : Int
  home : Int
  state : Int
  node : Int
  seq : Int
  heard : Int
  inc : Int
  epoch : Int
  acked : Int
def cellsU (u : UnitT) : List Value := [.int .i64 u.id, .int .i64 u.kind, .int .i64 u.home, .int .i64 u.state, .int .i64 u.node, .int .i64 u.seq, .int .i64 u.heard, .int .i64 u.inc, .int .i64 u.epoch, .int .i64 u.acked]
theorem cellsU_len (u : UnitT) : (cellsU u).length = 10 := rfl
theorem cellsU_one (u : UnitT) : ∀ v ∈ cellsU u, v.oneCell' = true := by
  intro v hv
  simp only [cellsU, List.mem_cons, List.not_mem_nil, or_false] at hv
  rcases hv with rfl | rfl | rfl | rfl | rfl | rfl | rfl | rfl | rfl | rfl <;> rfl
abbrev UnitsAt := RecsAt cellsU
abbrev OwnU := OwnR cellsU 10
theorem unit_info : (Tryd.prog.info? 44).map (fun i => (i.zero, i.size, i.bytes)) = some (some (.agg #[.int .i64 0, .int .i64 0, .int .i64 0, .int .i64 0, .int .i64 0, .int .i64 0, .int .i64 0, .int .i64 0, .int .i64 0, .int .i64 0]), 10, 80) := by kernel_rfl

theorem unit_cells {w : World} {b o : Nat} {u : UnitT} (h : ∀ (j : Nat) (v : Value), (cellsU u)[j]? = some v → w.cell? ⟨b, o + j, none⟩ = some v) :
    w.cell? ⟨b, o, none⟩ = some (.int .i64 u.id) ∧ w.cell? ⟨b, o + 1, none⟩ = some (.int .i64 u.kind) ∧ w.cell? ⟨b, o + 2, none⟩ = some (.int .i64 u.home) ∧ w.cell? ⟨b, o + 3, none⟩ = some (.int .i64 u.state) ∧ w.cell? ⟨b, o + 4, none⟩ = some (.int .i64 u.node) ∧
    w.cell? ⟨b, o + 5, none⟩ = some (.int .i64 u.seq) ∧ w.cell? ⟨b, o + 6, none⟩ = some (.int .i64 u.heard) ∧ w.cell? ⟨b, o + 7, none⟩ = some (.int .i64 u.inc) ∧ w.cell? ⟨b, o + 8, none⟩ = some (.int .i64 u.epoch) ∧ w.cell? ⟨b, o + 9, none⟩ = some (.int .i64 u.acked) :=
  ⟨h 0 _ rfl, h 1 _ rfl, h 2 _ rfl, h 3 _ rfl, h 4 _ rfl, h 5 _ rfl, h 6 _ rfl, h 7 _ rfl, h 8 _ rfl, h 9 _ rfl⟩
theorem unit_at {w : World} {B : Nat} {A : Option Addr} {us : List UnitT} (h : UnitsAt w B A us) {i : Nat} {u : UnitT} (hi : us[i]? = some u) : ∃ b o, A = some ⟨b, o, none⟩ ∧ b < B ∧ w.cell? ⟨b, o + i * 10, none⟩ = some (.int .i64 u.id) ∧ w.cell? ⟨b, o + i * 10 + 1, none⟩ = some (.int .i64 u.kind) ∧ w.cell? ⟨b, o + i * 10 + 2, none⟩ = some (.int .i64 u.home) ∧ w.cell? ⟨b, o + i * 10 + 3, none⟩ = some (.int .i64 u.state) ∧ w.cell? ⟨b, o + i * 10 + 4, none⟩ = some (.int .i64 u.node) ∧
    w.cell? ⟨b, o + i * 10 + 5, none⟩ = some (.int .i64 u.seq) ∧ w.cell? ⟨b, o + i * 10 + 6, none⟩ = some (.int .i64 u.heard) ∧ w.cell? ⟨b, o + i * 10 + 7, none⟩ = some (.int .i64 u.inc) ∧ w.cell? ⟨b, o + i * 10 + 8, none⟩ = some (.int .i64 u.epoch) ∧ w.cell? ⟨b, o + i * 10 + 9, none⟩ = some (.int .i64 u.acked) := by
  obtain ⟨b, o, e, hb, hc⟩ := RecsAt.at cellsU_len h hi (by omega)
  exact ⟨b, o, e, hb, unit_cells hc⟩

structure UnitWf (u : UnitT) : Prop where
  kind : (Lit.int .i64 u.kind).wf = true
  home : (Lit.int .i64 u.home).wf = true
  node : (Lit.int .i64 u.node).wf = true
  inc : (Lit.int .i64 u.inc).wf = true

theorem list_of' {α : Type} (R : Nat → α → Prop) : ∀ n, (∀ i, i < n → ∃ x, R i x) → ∃ l : List α, l.length = n ∧ ∀ i x, l[i]? = some x → R i x := by
  intro n
  induction n with
  | zero => intro _; exact ⟨[], rfl, fun i x h => by simp at h⟩
  | succ n ih =>
    intro h
    obtain ⟨l, hl, hR⟩ := ih (fun i hi => h i (by omega))
    obtain ⟨x, hx⟩ := h n (by omega)
    refine ⟨l ++ [x], by simp [hl], fun i y hy => ?_⟩
    by_cases hi : i < l.length
    · rw [List.getElem?_append_left hi] at hy
      exact hR i y hy
    · have hlt : i < (l ++ [x]).length := (List.getElem?_eq_some_iff.1 hy).1
      simp at hlt
      have : i = l.length := by omega
      subst this
      simp at hy
      subst hy
      rw [hl]
      exact hx

/-- from cells read one by one to the whole row. -/
theorem recsAt_of {α : Type} {cs : α → List Value} {s : Nat} (hs : ∀ a, (cs a).length = s) (h0 : 0 < s) {w : World} {B : Nat} {A : Option Addr} {xs : List α}
    (h : ∀ (i : Nat) (a : α), xs[i]? = some a → ∃ b o, A = some ⟨b, o, none⟩ ∧ b < B ∧ ∀ (j : Nat) (u : Value), (cs a)[j]? = some u → w.cell? ⟨b, o + i * s + j, none⟩ = some u) : RecsAt cs w B A xs := by
  intro j u hj
  have hl := (List.getElem?_eq_some_iff.1 hj).1
  rw [flat_len hs] at hl
  have hi : j / s < xs.length := Nat.div_lt_of_lt_mul (by rw [Nat.mul_comm]; exact hl)
  obtain ⟨a, ha⟩ : ∃ a, xs[j / s]? = some a := ⟨xs[j / s], by simp⟩
  obtain ⟨b, o, e, hb, hc⟩ := h _ a ha
  have hm : j % s < s := Nat.mod_lt _ h0
  obtain ⟨v, hv⟩ : ∃ v, (cs a)[j % s]? = some v := ⟨(cs a)[j % s]'(by rw [hs]; exact hm), by simp⟩
  have h1 := flat_at hs ha hv
  have e2 : j / s * s + j % s = j := by rw [Nat.mul_comm]; exact Nat.div_add_mod j s
  rw [e2, hj] at h1
  cases h1
  have := hc _ _ hv
  rw [Nat.add_assoc, e2] at this
  exact ⟨b, o, e, hb, this⟩

section
variable {H : Type} {enc : TypeId × Value → H}
set_option maxRecDepth 100000 in
/-- A slice of units, its one cell read. -/
theorem units_field {W : World} {v : Value} {x : DataW H × List MemPlace} {base fuel : Nat} {spare : Nat → Bool} {held : Bool}
    (hf : DataW.trod enc Tryd.prog W base spare held fuel 27 [v] = some x) :
    ∃ (A : Option Addr) (us : List UnitT) (cap : Nat), v = .slice A us.length cap ∧ UnitsAt W W.heap.size A us ∧ (∀ u ∈ us, UnitWf u) ∧ us.length ≤ cap ∧ cap ≤ 9223372036854775807 ∧ (A = none → cap = 0) := by
  obtain ⟨A, n, cap, rfl, h1, h2, h3, h4⟩ := recs_field Tryd.underlying27 Tryd.underlying44 (by kernel_rfl) (by kernel_rfl) (by decide) hf
  obtain ⟨us, hl, hR⟩ := list_of' (fun i u => (∃ b o, A = some ⟨b, o, none⟩ ∧ b < W.heap.size ∧ ∀ (j : Nat) (v : Value), (cellsU u)[j]? = some v → W.cell? ⟨b, o + i * 10 + j, none⟩ = some v) ∧ UnitWf u) n (fun i hi => by
    obtain ⟨b, o, e, hb, hg⟩ := h4 i hi
    obtain ⟨u0, _, _, c0, t0⟩ := hg 0 _ rfl
    obtain ⟨u1, _, _, c1, t1⟩ := hg 1 _ rfl
    obtain ⟨u2, _, _, c2, t2⟩ := hg 2 _ rfl
    obtain ⟨u3, _, _, c3, t3⟩ := hg 3 _ rfl
    obtain ⟨u4, _, _, c4, t4⟩ := hg 4 _ rfl
    obtain ⟨u5, _, _, c5, t5⟩ := hg 5 _ rfl
    obtain ⟨u6, _, _, c6, t6⟩ := hg 6 _ rfl
    obtain ⟨u7, _, _, c7, t7⟩ := hg 7 _ rfl
    obtain ⟨u8, _, _, c8, t8⟩ := hg 8 _ rfl
    obtain ⟨u9, _, _, c9, t9⟩ := hg 9 _ rfl
    obtain ⟨z0, e0, _, _⟩ := DataW.trod_int Tryd.underlying3 t0
    obtain ⟨z1, e1, _, k1⟩ := DataW.trod_int Tryd.underlying3 t1
    obtain ⟨z2, e2, _, k2⟩ := DataW.trod_int Tryd.underlying3 t2
    obtain ⟨z3, e3, _, _⟩ := DataW.trod_int Tryd.underlying3 t3
    obtain ⟨z4, e4, _, k4⟩ := DataW.trod_int Tryd.underlying3 t4
    obtain ⟨z5, e5, _, _⟩ := DataW.trod_int Tryd.underlying2 t5
    obtain ⟨z6, e6, _, _⟩ := DataW.trod_int Tryd.underlying2 t6
    obtain ⟨z7, e7, _, k7⟩ := DataW.trod_int Tryd.underlying2 t7
    obtain ⟨z8, e8, _, _⟩ := DataW.trod_int Tryd.underlying2 t8
    obtain ⟨z9, e9, _, _⟩ := DataW.trod_int Tryd.underlying2 t9
    simp at e0 e1 e2 e3 e4 e5 e6 e7 e8 e9
    subst e0 e1 e2 e3 e4 e5 e6 e7 e8 e9
    refine ⟨⟨z0, z1, z2, z3, z4, z5, z6, z7, z8, z9⟩, ⟨b, o, e, hb, fun j v hj => ?_⟩, ⟨k1, k2, k4, k7⟩⟩
    match j, hj with
    | 0, hj => cases hj; exact c0
    | 1, hj => cases hj; exact c1
    | 2, hj => cases hj; exact c2
    | 3, hj => cases hj; exact c3
    | 4, hj => cases hj; exact c4
    | 5, hj => cases hj; exact c5
    | 6, hj => cases hj; exact c6
    | 7, hj => cases hj; exact c7
    | 8, hj => cases hj; exact c8
    | 9, hj => cases hj; exact c9
    | j + 10, hj => exact absurd (List.getElem?_eq_some_iff.1 hj).1 (by simp [cellsU]))
  refine ⟨A, us, cap, by rw [hl], recsAt_of cellsU_len (by omega) (fun i a hi => (hR i a hi).1), fun u hu => ?_, by omega, by omega, h3⟩
  obtain ⟨i, hi⟩ := List.mem_iff_getElem?.1 hu
  exact (hR i u hi).2
set_option maxRecDepth 100000 in
theorem open_units {W : World} {r : Reach} {b0 : Nat} {v : Value} {d : DataW H} {p : List MemPlace} {base : Nat} {spare : Nat → Bool} {held : Bool}
    (hv : Value.okWide Tryd.prog W r b0 27 v) (h : DataW.Trod enc Tryd.prog W base spare held 27 v d p) :
    ∃ (A : Option Addr) (us : List UnitT) (cap : Nat), v = .slice A us.length cap ∧ UnitsAt W W.heap.size A us ∧ (∀ u ∈ us, UnitWf u) ∧ us.length ≤ cap ∧ cap ≤ 9223372036854775807 ∧ (A = none → cap = 0) := by
  obtain ⟨A, len, cap, rfl⟩ := okWide_slice Tryd.underlying27 hv
  obtain ⟨fuel, hf⟩ := h
  exact units_field (by simpa [Value.cells] using hf)
end
end
section
open Go.RowKit Go.Maps

/-- the free units of the district h. -/
def cntH (h : Int) (us : List UnitT) : Nat := us.countP (fun u => u.state == 1 && u.home == h)
theorem cntH_le (h : Int) (us : List UnitT) : cntH h us ≤ us.length := List.countP_le_length
theorem cntH_snoc (h : Int) (us : List UnitT) (u : UnitT) : cntH h (us ++ [u]) = cntH h us + if u.state = 1 ∧ u.home = h then 1 else 0 := by
  unfold cntH
  rw [List.countP_append, List.countP_singleton]
  congr 1
  by_cases h1 : u.state = 1 <;> by_cases h2 : u.home = h <;> simp [h1, h2]
def keepU (r : Int) (us : List UnitT) (k : Nat) (u : UnitT) : Prop := u.state = 1 ∧ r ≤ (cntH u.home (us.take k) : Int)
instance (r : Int) (us : List UnitT) (k : Nat) (u : UnitT) : Decidable (keepU r us k u) := by unfold keepU; infer_instance
def spareR (r : Int) (us : List UnitT) : Nat → List UnitT
  | 0 => []
  | k + 1 => match us[k]? with
    | some u => if keepU r us k u then spareR r us k ++ [u] else spareR r us k
    | none => spareR r us k
theorem spareR_succ {r : Int} {us : List UnitT} {k : Nat} {u : UnitT} (h : us[k]? = some u) : spareR r us (k + 1) = if keepU r us k u then spareR r us k ++ [u] else spareR r us k := by
  rw [spareR, h]
theorem spareR_len (r : Int) (us : List UnitT) (k : Nat) : (spareR r us k).length ≤ k := by
  induction k with
  | zero => simp [spareR]
  | succ k ih =>
    rw [spareR]
    split
    · split
      · rw [List.length_append]
        simp
        omega
      · omega
    · omega
theorem spareR_most (r : Int) (us : List UnitT) (k : Nat) : (spareR r us k).length ≤ (spareR 0 us k).length := by
  induction k with
  | zero => simp [spareR]
  | succ k ih =>
    rw [spareR, spareR]
    split
    · rename_i u _
      by_cases h : keepU r us k u
      · rw [if_pos h, if_pos ⟨h.1, by omega⟩]
        simp
        omega
      · rw [if_neg h]
        split
        · simp
          omega
        · exact ih
    · exact ih
theorem spareR_free (r : Int) (us : List UnitT) (k : Nat) : ∀ u ∈ spareR r us k, u.state = 1 := by
  induction k with
  | zero => simp [spareR]
  | succ k ih =>
    rw [spareR]
    split
    · split
      · rename_i h
        intro u hu
        rw [List.mem_append, List.mem_singleton] at hu
        rcases hu with hu | rfl
        · exact ih u hu
        · exact h.1
      · exact ih
    · exact ih
def effR (urg rsv : Int) : Int := if urg = 1 ∨ urg = 2 then 0 else rsv

/-- what the map holds after k units. -/
def heldK (r : Int) (us : List UnitT) (k : Nat) (h : Int) : Int := min (cntH h (us.take k) : Int) (max 0 r)
theorem heldK_zero (r : Int) (us : List UnitT) : (fun _ => 0) = heldK r us 0 := by
  funext h
  simp [heldK, cntH]
  omega
theorem take_snoc' {α : Type} {us : List α} {k : Nat} {u : α} (h : us[k]? = some u) : us.take (k + 1) = us.take k ++ [u] := by
  have hl := (List.getElem?_eq_some_iff.1 h).1
  rw [List.take_succ_eq_append_getElem hl, (List.getElem?_eq_some_iff.1 h).2]
theorem heldK_skip {r : Int} {us : List UnitT} {k : Nat} {u : UnitT} (h : us[k]? = some u) (hs : u.state ≠ 1) : heldK r us (k + 1) = heldK r us k := by
  funext x
  unfold heldK
  rw [take_snoc' h, cntH_snoc, if_neg (fun c => hs c.1)]
  rfl
theorem heldK_full {r : Int} {us : List UnitT} {k : Nat} {u : UnitT} (h : us[k]? = some u) (hs : ¬ heldK r us k u.home < r) : heldK r us (k + 1) = heldK r us k := by
  funext x
  unfold heldK at hs ⊢
  rw [take_snoc' h, cntH_snoc]
  split
  · rename_i c
    rw [c.2] at hs
    omega
  · rfl
theorem heldK_more {r : Int} {us : List UnitT} {k : Nat} {u : UnitT} (h : us[k]? = some u) (hf : u.state = 1) (hs : heldK r us k u.home < r) : heldK r us (k + 1) = upd (heldK r us k) u.home (heldK r us k u.home + 1) := by
  funext x
  unfold upd
  unfold heldK at hs ⊢
  rw [take_snoc' h, cntH_snoc]
  split
  · rename_i c
    rw [if_pos c.2.symm]
    rw [c.2] at hs ⊢
    omega
  · rename_i c
    rw [if_neg (fun e => c ⟨hf, e.symm⟩)]
    rfl
theorem heldK_lt {r : Int} {us : List UnitT} {k : Nat} {h : Int} : heldK r us k h < r ↔ (cntH h (us.take k) : Int) < r := by
  unfold heldK
  omega

def RetUnits (w : World) (us : List UnitT) (e : Ending) (w' : World) : Prop := ∃ v, e = .returned v ∧ OwnU w' w.heap.size 44 v us ∧ Below w.heap.size w w'

theorem int_zero' (w : World) : (zeroValue 3).run Tryd.prog w = .ok (.int .i64 0) w := by kernel_rfl

set_option maxRecDepth 100000 in
set_option maxHeartbeats 2000000 in
theorem dispatchable_any (A : Option Addr) (c : Nat) (us : List UnitT) (urg rsv : Int) (w : World) (hu : UnitsAt w w.heap.size A us) (hwf : ∀ u ∈ us, UnitWf u) (hl : us.length ≤ 65536) :
    Calls Tryd.prog 29 #[.slice A us.length c, .int .i64 urg, .int .i64 rsv] w (RetUnits w (spareR (effR urg rsv) us us.length)) := by
  have HU := Lib.hid hu
  have HWF := Lib.hid hwf
  have hmm := @run_makeMap Tryd.prog
  clear hu hwf
  go_enter Tryd.func29, Tryd.ntmps29
  obtain ⟨r, hr⟩ : ∃ r, r = effR urg rsv := ⟨_, rfl⟩
  have HR := Lib.hid hr
  rw [← hr]
  clear hr
  obtain ⟨B, hB⟩ : ∃ B : Bool, B = decide (urg = 1 ∨ urg = 2) := ⟨_, rfl⟩
  have HBB := Lib.hid hB
  have HR2 : Hid (r = if B = true then 0 else rsv) := Lib.hid (by rw [HR.out, hB, effR]; simp)
  clear hB
  go_upto_region 1 with (fail)
  go_cut [16] (fun v wx => v = .bool B ∧ wx = w)
  case first =>
    by_cases h1 : urg = 1
    · have d1 : (urg == 1) = true := by simp [h1]
      have HQ : Hid (B = true) := Lib.hid (by rw [HBB.out]; simp [h1])
      clear h1
      go_wp2_with fail
      go_meet
      case rel => exact ⟨by rw [HQ.out], rfl⟩
    · have d1 : (urg == 1) = false := by simp [h1]
      by_cases h2 : urg = 2
      · have d2 : (urg == 2) = true := by simp [h2]
        have HQ : Hid (B = true) := Lib.hid (by rw [HBB.out]; simp [h2])
        clear h1 h2
        go_wp2_with fail
        go_meet
        case rel => exact ⟨by rw [HQ.out], rfl⟩
      · have d2 : (urg == 2) = false := by simp [h2]
        have HQ : Hid (B = false) := Lib.hid (by rw [HBB.out]; simp [h1, h2])
        clear h1 h2
        go_wp2_with fail
        go_meet
        case rel => exact ⟨by rw [HQ.out], rfl⟩
  case rest =>
    obtain ⟨rfl, rfl⟩ := hcut
    obtain ⟨w, rfl⟩ : ∃ w : World, w = wc := ⟨_, rfl⟩
    go_upto_if 16 with (fail)
    go_cut [2] (fun v wx => v = .int .i64 r ∧ wx = w)
    case first =>
      cases B
      · go_wp2_with fail
        go_meet
        case rel => exact ⟨by rw [HR2.out]; rfl, rfl⟩
      · go_wp2_with fail
        go_meet
        case rel => exact ⟨by rw [HR2.out]; rfl, rfl⟩
    case rest =>
    obtain ⟨rfl, rfl⟩ := hcut
    clear HR HR2 HBB
    go_wp2_with fail
    have HB0 := Lib.hid ((Below.refl wc.heap.size wc).alloc (Nat.le_refl _) (.map #[] 0))
    obtain ⟨b, hbe⟩ : ∃ b, b = wc.heap.size := ⟨_, rfl⟩
    have HM0 : Hid (MapI Tryd.prog 3 3 (wc.alloc (.map #[] 0)) b 0 (heldK r us 0)) := Lib.hid (by rw [hbe, ← heldK_zero]; exact MapI.made)
    rw [← hbe]
    have hbz : wc.heap.size ≤ b := by omega
    clear hbe hmm
    go_loopw [8, 20] (fun v i wr => ∃ k : Nat, k ≤ us.length ∧ i = .int .i64 k ∧ MapI Tryd.prog 3 3 wr b k (heldK r us k) ∧ OwnU wr (b + 1) 44 v (spareR r us k) ∧ Below wc.heap.size wc wr ∧ b < wr.heap.size) (fun _ i _ => us.length - (intOf i).toNat)
    case atStart => exact ⟨0, Nat.zero_le _, rfl, HM0.out, OwnR.nil _ _ _, HB0.out, HM0.out.lt⟩
    case round =>
      clear HM0 HB0
      obtain ⟨k, hk, rfl, hmap, hown, hb, hbr⟩ := hrel
      have hsl := spareR_len r us k
      have hmb := hb.size
      by_cases hlt : k < us.length
      · obtain ⟨u, hu⟩ : ∃ u, us[k]? = some u := ⟨us[k], by simp⟩
        have hwh : (Lit.int .i64 u.home).wf = true := (HWF.out u (List.mem_of_getElem? hu)).home
        obtain ⟨bu, ou, rfl, hbu, c0, c1, c2, c3, c4, c5, c6, c7, c8, c9⟩ := unit_at (HU.out.below hb) hu
        have HSK : Hid (u.state ≠ 1 → heldK r us (k + 1) = heldK r us k) := Lib.hid (heldK_skip hu)
        have HFU : Hid (¬ heldK r us k u.home < r → heldK r us (k + 1) = heldK r us k) := Lib.hid (heldK_full hu)
        have HMO : Hid (u.state = 1 → heldK r us k u.home < r → heldK r us (k + 1) = upd (heldK r us k) u.home (heldK r us k u.home + 1)) := Lib.hid (heldK_more hu)
        have HSP : Hid (spareR r us (k + 1) = if keepU r us k u then spareR r us k ++ [u] else spareR r us k) := Lib.hid (spareR_succ hu)
        have hqq : 0 ≤ heldK r us k u.home ∧ heldK r us k u.home ≤ k := by
          unfold heldK
          have := cntH_le u.home (us.take k)
          have := List.length_take_le k us
          omega
        obtain ⟨id, kind, home, state, node, seq, heard, inc, epoch, acked⟩ := u
        simp only at c0 c1 c2 c3 c4 c5 c6 c7 c8 c9 hwh hqq
        have HBA := Lib.hid (hb.alloc hmb (.cells #[.int .i64 id, .int .i64 kind, .int .i64 home, .int .i64 state, .int .i64 node, .int .i64 seq, .int .i64 heard, .int .i64 inc, .int .i64 epoch, .int .i64 acked] 44))
        replace hmap := hmap.alloc (.cells #[.int .i64 id, .int .i64 kind, .int .i64 home, .int .i64 state, .int .i64 node, .int .i64 seq, .int .i64 heard, .int .i64 inc, .int .i64 epoch, .int .i64 acked] 44)
        replace hown := hown.alloc (.cells #[.int .i64 id, .int .i64 kind, .int .i64 home, .int .i64 state, .int .i64 node, .int .i64 seq, .int .i64 heard, .int .i64 inc, .int .i64 epoch, .int .i64 acked] 44)
        clear hu hb
        by_cases hst : state = 1
        · have ds : (state != 1) = false := by simp [hst]
          have ds' : (state == 1) = true := by simp [hst]
          have HST := Lib.hid hst
          clear hst
          by_cases hq : heldK r us k home < r
          · go_wp2_with (first
              | (at_lookup; refine wpList_look_int _ rfl _ _ 41 rfl 3 3 Tryd.underlying3 Tryd.underlying41 Tryd.underlying3 (int_zero' _) b k _ rfl hmap home rfl hwh ?_; intro q hq; have hqb : 0 ≤ q ∧ q ≤ k ∧ q < r := (by omega); have HQ := Lib.hid hq; clear hq)
              | (at_mapUpdate; refine wpList_put_int _ rfl _ _ _ 41 rfl 3 3 Tryd.underlying3 Tryd.underlying41 Tryd.underlying3 b k _ rfl hmap (by omega) home (q + 1) rfl rfl hwh (WalkArith.wf_i64 (by omega)) ?_; intro w1 hmap1 hg1))
            go_roundw
            case rel =>
              refine ⟨k + 1, by omega, by go_num, ?_, ?_, HBA.out.grown hg1 HBA.out.size (fun j hj => by cases hj; exact hbz), Nat.lt_of_lt_of_le (by simp; omega) hg1.size⟩
              · rw [HMO.out HST.out hq, ← HQ.out]
                exact hmap1
              · rw [HSP.out, if_neg (by rintro ⟨_, h⟩; have := heldK_lt.1 hq; simp only at h; omega)]
                exact hown.kept_map hg1 (by omega)
            case measure => simp [intOf]; omega
          · go_wp2_with (first
              | (at_lookup; refine wpList_look_int _ rfl _ _ 41 rfl 3 3 Tryd.underlying3 Tryd.underlying41 Tryd.underlying3 (int_zero' _) b k _ rfl hmap home rfl hwh ?_; intro q hq; have hqb : 0 ≤ q ∧ q ≤ k ∧ r ≤ q := (by omega); have HQ := Lib.hid hq; clear hq)
              | (at_builtin; refine wpList_append_rec _ rfl _ _ 27 rfl (b + 1) 44 Tryd.underlying27 unit_info rfl (by omega) (by omega) cellsU_len _ _ (wr.alloc (.cells #[.int .i64 id, .int .i64 kind, .int .i64 home, .int .i64 state, .int .i64 node, .int .i64 seq, .int .i64 heard, .int .i64 inc, .int .i64 epoch, .int .i64 acked] 44)) ⟨id, kind, home, state, node, seq, heard, inc, epoch, acked⟩ (cellsU_one _) _ rfl rfl rfl hown _ rfl (by simp) (by omega) (by simp; omega) ?_; intro v1 w1 hown1 hg1))
            go_roundw
            case rel =>
              refine ⟨k + 1, by omega, by go_num, ?_, ?_, HBA.out.grown hg1 HBA.out.size (fun j hj => by have := hown.ge_base _ hj; omega), Nat.lt_of_lt_of_le (by simp; omega) hg1.size⟩
              · rw [HFU.out hq]
                exact (hmap.kept hg1 (fun e => by have := hown.ge_base _ e.symm; omega)).mono (by omega)
              · rw [HSP.out, if_pos ⟨HST.out, by have := mt heldK_lt.2 hq; simp only; omega⟩]
                exact hown1
            case measure => simp [intOf]; omega
        · have ds : (state != 1) = true := by simp [hst]
          have ds' : (state == 1) = false := by simp [hst]
          have HST := Lib.hid hst
          clear hst
          go_wp2_with fail
          go_roundw
          case rel =>
            refine ⟨k + 1, by omega, by go_num, ?_, ?_, HBA.out, by simp; omega⟩
            · rw [HSK.out HST.out]
              exact hmap.mono (by omega)
            · rw [HSP.out, if_neg (fun h => HST.out h.1)]
              exact hown
          case measure => simp [intOf]; omega
      · have hkk : k = us.length := by omega
        subst hkk
        go_wp2_with fail
        go_ret
        exact ⟨_, rfl, hown.base_le (by omega), hb⟩
end
section
/-- how many units of the kind x are not marked. -/
def free : List Int → List Bool → Int → Int
  | h :: hs, u :: us, x => (if h = x ∧ u = false then 1 else 0) + free hs us x
  | _, _, _ => 0

theorem free_none (hs : List Int) (x : Int) : free hs (List.replicate hs.length false) x = cnt hs x := by
  induction hs with
  | nil => rfl
  | cons h t ih =>
    simp only [List.length_cons, List.replicate_succ, free, ih, cnt, List.count_cons]
    by_cases e : h = x
    · subst e
      simp
      omega
    · simp [e]

theorem free_ge (hs : List Int) : ∀ (us : List Bool) (x : Int), 0 ≤ free hs us x := by
  induction hs with
  | nil => intro us x; simp [free]
  | cons h t ih =>
    intro us x
    cases us with
    | nil => simp [free]
    | cons u us =>
      have := ih us x
      simp only [free]
      split <;> omega

theorem free_set (hs : List Int) : ∀ (us : List Bool) (i : Nat) (x : Int), hs[i]? = some x → us[i]? = some false → ∀ y, free hs (us.set i true) y = upd (free hs us) x (free hs us x - 1) y := by
  induction hs with
  | nil => intro us i x h; simp at h
  | cons h t ih =>
    intro us i x hi hu y
    cases us with
    | nil => simp at hu
    | cons u us =>
      cases i with
      | zero =>
        simp at hi hu
        subst hi hu
        simp only [List.set_cons_zero, free, upd]
        by_cases e : y = h
        · subst e
          simp
          omega
        · have e' : ¬ h = y := fun q => e q.symm
          simp [e, e']
      | succ i =>
        simp at hi hu
        have := ih us i x hi hu y
        simp only [List.set_cons_succ, free, this, upd]
        by_cases e : y = x
        · subst e
          simp
          omega
        · simp [e]

theorem free_pos (hs : List Int) : ∀ (us : List Bool) (i : Nat) (x : Int), hs[i]? = some x → us[i]? = some false → 0 < free hs us x := by
  induction hs with
  | nil => intro us i x h; simp at h
  | cons h t ih =>
    intro us i x hi hu
    cases us with
    | nil => simp at hu
    | cons u us =>
      cases i with
      | zero =>
        simp at hi hu
        subst hi hu
        have := free_ge t us h
        simp [free]
        omega
      | succ i =>
        simp at hi hu
        have := ih us i x hi hu
        simp only [free]
        split <;> omega

theorem free_zero (hs : List Int) : ∀ (us : List Bool) (x : Int), us.length = hs.length → (∀ i : Nat, hs[i]? = some x → us[i]? = some true) → free hs us x = 0 := by
  induction hs with
  | nil => intro us x _ _; cases us <;> rfl
  | cons h t ih =>
    intro us x hl hi
    cases us with
    | nil => rfl
    | cons u us =>
      have h1 := ih us x (by simpa using hl) (fun i h => by have := hi (i + 1) (by simpa using h); simpa using this)
      simp only [free, h1]
      by_cases e : h = x
      · have := hi 0 (by simp [e])
        simp at this
        simp [this]
      · simp [e]

/-- the state of the inner loop behind j rounds: U as it was at the start, V as it is now. -/
def Scan (x : Int) (hs : List Int) (U : List Bool) (j : Nat) (d : Bool) (V : List Bool) : Prop :=
  (d = false ∧ V = U ∧ ∀ i, i < j → hs[i]? = some x → U[i]? = some true) ∨ (d = true ∧ ∃ i, hs[i]? = some x ∧ U[i]? = some false ∧ V = U.set i true)

theorem Scan.start (x : Int) (hs : List Int) (U : List Bool) : Scan x hs U 0 false U := .inl ⟨rfl, rfl, fun i h => absurd h (by omega)⟩
theorem Scan.done {x : Int} {hs : List Int} {U : List Bool} {j : Nat} {V : List Bool} (h : Scan x hs U j true V) (j' : Nat) : Scan x hs U j' true V := by
  rcases h with ⟨h, _⟩ | h
  · cases h
  · exact .inr h
theorem Scan.same {x : Int} {hs : List Int} {U : List Bool} {j : Nat} {V : List Bool} (h : Scan x hs U j false V) : V = U := by
  rcases h with ⟨_, h, _⟩ | ⟨h, _⟩
  · exact h
  · cases h
theorem Scan.len {x : Int} {hs : List Int} {U : List Bool} {j : Nat} {d : Bool} {V : List Bool} (h : Scan x hs U j d V) : V.length = U.length := by
  rcases h with ⟨_, h, _⟩ | ⟨_, i, _, _, h⟩ <;> simp [h]
theorem Scan.used {x : Int} {hs : List Int} {U : List Bool} {j : Nat} {V : List Bool} (h : Scan x hs U j false V) (hu : V[j]? = some true) : Scan x hs U (j + 1) false V := by
  rcases h with ⟨h1, rfl, h3⟩ | ⟨h, _⟩
  · refine .inl ⟨rfl, rfl, fun i hi hx => ?_⟩
    by_cases e : i = j
    · subst e
      exact hu
    · exact h3 i (by omega) hx
  · cases h
theorem Scan.miss {x : Int} {hs : List Int} {U : List Bool} {j : Nat} {V : List Bool} {y : Int} (h : Scan x hs U j false V) (hy : hs[j]? = some y) (hne : y ≠ x) : Scan x hs U (j + 1) false V := by
  rcases h with ⟨h1, rfl, h3⟩ | ⟨h, _⟩
  · refine .inl ⟨rfl, rfl, fun i hi hx => ?_⟩
    by_cases e : i = j
    · subst e
      rw [hy] at hx
      injection hx with hx
      exact absurd hx hne
    · exact h3 i (by omega) hx
  · cases h
theorem Scan.hit {x : Int} {hs : List Int} {U : List Bool} {j : Nat} {V : List Bool} (h : Scan x hs U j false V) (hy : hs[j]? = some x) (hu : V[j]? = some false) : Scan x hs U (j + 1) true (V.set j true) := by
  have e := h.same
  subst e
  exact .inr ⟨rfl, j, hy, hu, rfl⟩

theorem Scan.yes {x : Int} {hs : List Int} {U : List Bool} {V : List Bool} (h : Scan x hs U hs.length true V) : 0 < free hs U x ∧ ∀ y, free hs V y = upd (free hs U) x (free hs U x - 1) y := by
  rcases h with ⟨h, _⟩ | ⟨_, i, hx, hu, rfl⟩
  · cases h
  · exact ⟨free_pos hs U i x hx hu, free_set hs U i x hx hu⟩
theorem Scan.no {x : Int} {hs : List Int} {U : List Bool} {V : List Bool} (h : Scan x hs U hs.length false V) (hl : U.length = hs.length) : ¬ 0 < free hs U x := by
  rcases h with ⟨_, rfl, h3⟩ | ⟨h, _⟩
  · rw [free_zero hs V x hl (fun i hi => h3 i (List.getElem?_eq_some_iff.1 hi).1 hi)]
    omega
  · cases h

/-- the inner loop of the second pass: it looks for a unit of kind 2, if the kind z that is wanted is 1. -/
def Scan3 (z : Int) (hs : List Int) (U : List Bool) (j : Nat) (d : Bool) (V : List Bool) : Prop :=
  (z = 1 → Scan 2 hs U j d V) ∧ (z ≠ 1 → d = false ∧ V = U)
theorem Scan3.start (z : Int) (hs : List Int) (U : List Bool) : Scan3 z hs U 0 false U := ⟨fun _ => Scan.start _ _ _, fun _ => ⟨rfl, rfl⟩⟩
theorem Scan3.len {z : Int} {hs : List Int} {U : List Bool} {j : Nat} {d : Bool} {V : List Bool} (h : Scan3 z hs U j d V) : V.length = U.length := by
  by_cases e : z = 1
  · exact (h.1 e).len
  · rw [(h.2 e).2]
theorem Scan3.done {z : Int} {hs : List Int} {U : List Bool} {j : Nat} {V : List Bool} (h : Scan3 z hs U j true V) (j' : Nat) : Scan3 z hs U j' true V := by
  by_cases e : z = 1
  · exact ⟨fun e => (h.1 e).done j', fun e' => absurd e e'⟩
  · exact absurd (h.2 e).1 (by simp)
theorem Scan3.used {z : Int} {hs : List Int} {U : List Bool} {j : Nat} {V : List Bool} (h : Scan3 z hs U j false V) (hu : V[j]? = some true) : Scan3 z hs U (j + 1) false V :=
  ⟨fun e => (h.1 e).used hu, h.2⟩
theorem Scan3.miss {z : Int} {hs : List Int} {U : List Bool} {j : Nat} {V : List Bool} {y : Int} (h : Scan3 z hs U j false V) (hy : hs[j]? = some y) (hne : y ≠ 2) : Scan3 z hs U (j + 1) false V :=
  ⟨fun e => (h.1 e).miss hy hne, h.2⟩
theorem Scan3.other {z : Int} {hs : List Int} {U : List Bool} {j : Nat} {V : List Bool} (h : Scan3 z hs U j false V) (hne : z ≠ 1) : Scan3 z hs U (j + 1) false V :=
  ⟨fun e => absurd e hne, h.2⟩
theorem Scan3.hit {hs : List Int} {U : List Bool} {j : Nat} {V : List Bool} (h : Scan3 1 hs U j false V) (hy : hs[j]? = some 2) (hu : V[j]? = some false) : Scan3 1 hs U (j + 1) true (V.set j true) :=
  ⟨fun e => (h.1 e).hit hy hu, fun e => absurd rfl e⟩
theorem Scan3.same {z : Int} {hs : List Int} {U : List Bool} {j : Nat} {V : List Bool} (h : Scan3 z hs U j false V) : V = U := by
  by_cases e : z = 1
  · exact (h.1 e).same
  · exact (h.2 e).2
theorem Scan3.yes {z : Int} {hs : List Int} {U : List Bool} {V : List Bool} (h : Scan3 z hs U hs.length true V) : (z = 1 ∧ 0 < free hs U 2) ∧ ∀ y, free hs V y = upd (free hs U) 2 (free hs U 2 - 1) y := by
  by_cases e : z = 1
  · exact ⟨⟨e, (h.1 e).yes.1⟩, (h.1 e).yes.2⟩
  · exact absurd (h.2 e).1 (by simp)
theorem Scan3.no {z : Int} {hs : List Int} {U : List Bool} {V : List Bool} (h : Scan3 z hs U hs.length false V) (hl : U.length = hs.length) : ¬ (z = 1 ∧ 0 < free hs U 2) :=
  fun q => (h.1 q.1).no hl q.2
end
section
open Go.RowKit Go.Maps

theorem bool_info : (Tryd.prog.info? 4).map (fun i => (i.zero, i.size, i.bytes)) = some (some (.bool false), 1, 1) := by kernel_rfl

theorem below_drewN {B : Nat} {a w : World} (h : Below B a w) (n : Nat) : Below B a (w.drewN n) := ⟨h.os, h.tape, h.output, h.size, h.block⟩
end
end Go.Proofs.YtimijjhdgihobaaDoor
