/-
  From a walk to a law's row: whatever the arguments are, they read behind the call as before it, because nothing that was there has changed; and how an integer, a string and a slice of integers come in.
-/
import Derived.Test.YtakdkiggaalimaaGreatDoorMem
import Derived.ProofKit
import Derived.OpenShut
import Derived.ShutString
import Derived.ChangeOld
import Derived.Carry
import Derived.SizedLaws
import Derived.Deep.Slices
import Derived.Deep.Fields
namespace Go.Proofs.YtakdkiggaalimaaGreatDoor
open Go.ChangeShapes Go.WideShapes Go.ChangeAt Go.RowKit
open Go.ChangeMaps (open_string shut_string)

section
variable {H : Type} {enc : TypeId × Value → H} {P : Program}

theorem trodAll_below (hl : laidOutB P = true) {W W' : World} (hb : Below W.heap.size W W') : ∀ (ts : List TypeId) (vs : List Value) (ds : List (DataW H)) (ps : List MemPlace),
    (ts.all fun t => P.readableRec t && decide (t < P.types.size)) = true → DataW.TrodAll enc P W 0 (fun _ => true) true ts vs ds ps → DataW.TrodAll enc P W' 0 (fun b => decide (b < W.heap.size)) true ts vs ds ps
  | [], vs, ds, ps, _, h => by cases vs <;> cases ds <;> simp [DataW.TrodAll] at h ⊢ <;> exact h
  | t :: ts, vs, ds, ps, ha, h => by
    obtain ⟨v, vs', d, ds', p, q, rfl, rfl, rfl, h1, h2⟩ := trodAll_cons h
    simp only [List.all_cons, Bool.and_eq_true, decide_eq_true_eq] at ha
    refine trodAll_cons_mk (Below.trod hl ha.1.1 ha.1.2 h1 hb ?_) (trodAll_below hl hb ts vs' ds' q ha.2 h2)
    obtain ⟨m, hm⟩ := h1
    exact DataW.trod_lt m _ _ _ hm

/-- THE LAST STEP OF A LAW: it has returned true, and what was there is as it was. -/
theorem law_post {f : Func} {s : ChangeSpec} {W W' : World} {args : Array Value} {ds gs : List (DataW H)} {before : List MemPlace} {tb : TypeId}
    (hl : laidOutB P = true) (hr : (f.params.toList.all fun t => P.readableRec t && decide (t < P.types.size)) = true) (hres : f.resultTypes = #[tb]) (hbool : P.underlying tb = some .bool) (hv : s.vars = [])
    (hW : DataW.Whole enc P f.params.toList s.vars false W args.toList ds gs before)
    (h1 : (s.fn H (ds ++ gs)).results = [.lit (.bool true)]) (h2 : (s.fn H (ds ++ gs)).args = ds) (h3 : (s.fn H (ds ++ gs)).vars = []) (hb : Below W.heap.size W W') :
    s.post enc P f false true false false W args (.bool true) W' := by
  have hW' := hW
  obtain ⟨p, q, hA, hV, hp, _, _⟩ := hW
  refine ⟨ds, gs, before, [], p, [], hW', ?_, ?_, ?_, hb.frame _, fun h => by cases h⟩
  · rw [hres, h1]
    exact trodAll_mk1 (shut_bool hbool _)
  · rw [h2]
    exact trodAll_below hl hb _ _ _ _ hr hA
  · rw [hv, h3]
    exact rfl

theorem add_at {w : World} {a : Addr} {n : Nat} {u : Value} (h : w.cell? (a.add n) = some u) (h0 : a.spot = none) : w.cell? ⟨a.block, a.off + n, none⟩ = some u := by
  have : a.add n = ⟨a.block, a.off + n, none⟩ := by
    unfold Addr.add
    split
    · rename_i hn
      subst hn
      cases a
      simp at h0
      simp [h0]
    · rfl
  rw [this] at h
  exact h

/-- A slice of integers, its one cell read. -/
theorem ints_field {W : World} {t e : TypeId} {k : IntKind} {v : Value} {x : DataW H × List MemPlace} {base fuel : Nat} {spare : Nat → Bool} {held : Bool}
    (ht : P.underlying t = some (.slice e)) (he : P.underlying e = some (.int k)) (hc : P.cellsOf e = 1) (hf : DataW.trod enc P W base spare held fuel t [v] = some x) :
    ∃ (A : Option Addr) (zs : List Int) (cap : Nat), v = .slice A zs.length cap ∧ Sl W W.heap.size A (zs.map (Value.int k)) ∧ (∀ z ∈ zs, (Lit.int k z).wf = true) ∧ zs.length ≤ cap ∧ cap ≤ 9223372036854775807 ∧ (A = none → cap = 0) := by
  rcases open_ints ht he hc hf with ⟨hcs, _⟩ | ⟨x, len, cap, zs, hcs, _, hlc, hm, hz, _, hcell, hwz⟩
  · simp at hcs
    subst hcs
    exact ⟨none, [], 0, rfl, Sl.empty, by simp, by simp, by omega, fun _ => rfl⟩
  · simp at hcs
    subst hcs
    have hll : len ≤ zs.length := by
      rw [hz]
      split <;> omega
    have hlt : (zs.take len).length = len := by simp; omega
    refine ⟨some x, zs.take len, cap, by rw [hlt], ?_, fun z h => hwz z (List.mem_of_mem_take h), by omega, by unfold maxLen at hm; omega, fun h => by cases h⟩
    intro j u hj
    have hj1 : j < len := by
      have := (List.getElem?_eq_some_iff.1 hj).1
      simp at this
      omega
    have h0 := hcell 0 (by omega)
    have hs0 : x.spot = none := by simpa [Addr.add] using World.cell?_spot h0
    have h1 := hcell j (by omega)
    refine ⟨x.block, x.off, by cases x; simp at hs0; simp [hs0], ?_, ?_⟩
    · have h2 := World.block_lt_of_cell? W _ h0
      simpa [Addr.add] using h2
    · have h3 := add_at h1 hs0
      rw [h3]
      rw [List.getElem?_map, List.getElem?_take, if_pos hj1] at hj
      have hjz : j < zs.length := by omega
      rw [List.getElem?_eq_getElem hjz] at hj
      simp at hj
      rw [← hj]
      simp [hjz]

/-- A slice of integers that came in. -/
theorem open_sl {W : World} {r : Reach} {b0 : Nat} {t e : TypeId} {k : IntKind} {v : Value} {d : DataW H} {p : List MemPlace} {base : Nat} {spare : Nat → Bool} {held : Bool}
    (ht : P.underlying t = some (.slice e)) (he : P.underlying e = some (.int k)) (hc : P.cellsOf e = 1) (hv : Value.okWide P W r b0 t v) (h : DataW.Trod enc P W base spare held t v d p) :
    ∃ (A : Option Addr) (zs : List Int) (cap : Nat), v = .slice A zs.length cap ∧ Sl W W.heap.size A (zs.map (Value.int k)) ∧ (∀ z ∈ zs, (Lit.int k z).wf = true) ∧ zs.length ≤ cap ∧ cap ≤ 9223372036854775807 ∧ (A = none → cap = 0) := by
  obtain ⟨A, len, cap, rfl⟩ := okWide_slice ht hv
  obtain ⟨fuel, hf⟩ := h
  exact ints_field ht he hc (by simpa [Value.cells] using hf)

/-- A slice of structs (one cell a field), its one cell read: for each element and each field the cell and its own reading. -/
theorem recs_field {W : World} {t e : TypeId} {fs : Array Field} {v : Value} {x : DataW H × List MemPlace} {base fuel : Nat} {spare : Nat → Bool} {held : Bool}
    (ht : P.underlying t = some (.slice e)) (he : P.underlying e = some (.struct fs)) (hone : Go.Deep.oneCellFields P fs = true) (hC : P.cellsOf e = fs.size) (hpos : 0 < fs.size) (hf : DataW.trod enc P W base spare held fuel t [v] = some x) :
    ∃ (A : Option Addr) (n cap : Nat), v = .slice A n cap ∧ n ≤ cap ∧ cap ≤ 9223372036854775807 ∧ (A = none → cap = 0) ∧
      ∀ i, i < n → ∃ b o, A = some ⟨b, o, none⟩ ∧ b < W.heap.size ∧ ∀ (j : Nat) (f : Field), fs[j]? = some f → ∃ (u : Value) (y : DataW H × List MemPlace) (m : Nat), W.cell? ⟨b, o + i * fs.size + j, none⟩ = some u ∧ DataW.trod enc P W base spare held m f.type [u] = some y := by
  rcases Go.Deep.open_slice ht hf with ⟨hcs, _⟩ | ⟨a, len, cap, m, n, D, Pl, hcs, hb, hl, hm, hmm, hx, hi⟩
  · simp at hcs
    subst hcs
    exact ⟨none, 0, 0, rfl, by omega, by omega, fun _ => rfl, fun i h => absurd h (by omega)⟩
  · simp at hcs
    subst hcs
    refine ⟨some a, len, cap, rfl, hl, by unfold maxLen at hm; omega, (fun h => by cases h), fun i hil => ?_⟩
    have hml : len ≤ m := by
      rw [hmm]
      split <;> omega
    have key : ∀ i, i < len → ∀ (j : Nat) (f : Field), fs[j]? = some f → ∃ (u : Value) (y : DataW H × List MemPlace) (q : Nat), W.cell? (a.add (i * fs.size + j)) = some u ∧ DataW.trod enc P W base spare held q f.type [u] = some y := by
      intro i hi2 j f hj
      obtain ⟨cs', hc, ht'⟩ := hi i (by omega)
      rw [hC] at hc
      obtain ⟨ys, n', _, _, hlen, hyl, hg⟩ := DataW.trod_struct he ht'
      obtain ⟨_, hcl, hat⟩ := World.cells?_some hc
      obtain ⟨ho, hk⟩ := Go.Deep.hone_of hone j f hj
      have hjl : j < fs.size := (Array.getElem?_eq_some_iff.1 hj).1
      have hcell := hat j hjl
      have h1 := hg j f hj
      rw [ho, hk] at h1
      have hone' : (cs'.drop j).take 1 = [cs'[j]'(by omega)] := by
        rw [List.drop_eq_getElem_cons (by omega)]
        rfl
      rw [hone'] at h1
      refine ⟨cs'[j]'(by omega), ys[j]'(by omega), n', ?_, h1.trans (List.getElem?_eq_getElem (by omega))⟩
      rw [← Go.Deep.add_add, hcell]
      exact List.getElem?_eq_getElem (by omega)
    obtain ⟨u0, _, _, hu0, _⟩ := key 0 (by omega) 0 fs[0] (by simp)
    have hs0 : a.spot = none := by simpa [Addr.add] using World.cell?_spot hu0
    refine ⟨a.block, a.off, by cases a; simp at hs0; simp [hs0], ?_, fun j f hj => ?_⟩
    · have h2 := World.block_lt_of_cell? W _ hu0
      simpa [Addr.add] using h2
    · obtain ⟨u, y, q, hu, hy⟩ := key i hil j f hj
      refine ⟨u, y, q, ?_, hy⟩
      have := add_at hu hs0
      rw [Nat.add_assoc]
      exact this
end
end Go.Proofs.YtakdkiggaalimaaGreatDoor
