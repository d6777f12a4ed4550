/-
  A map from integers to whatever values that the call made: look-ups (with and without 'ok') and stores, key by key.
  No condition: plain lemmas over whatever program.
  shortestpath.travelTime, travelTimes; (*roadgraph.Graph).Edge, enumerate, OutEdges: what each returns.
  The iterator over the edges that leave a node (roadgraph.enumerate, OutEdges): it yields their numbers in order.
  Plain: shortest distances by relaxing edges in any order. No program in sight.
-/
import Derived.Test.YtimijjhdgihobaaDoorMqe
import Derived.Maps.OwnRows
import Derived.Test.YtimijjhdgihobaaDoorMqj
import Derived.RangeFuncNested
import Derived.RangeFuncBound
import Derived.RangeFuncCalls
import Derived.RangeFuncLeaves
import Derived.Shelf.Abstract
import Derived.Shelf.RegionOpen
import Derived.WalkKit
import Derived.OwnWalkIn
import Derived.TacticsInMore
import Derived.LoopNIn
import Derived.LoopIn
import Derived.Test.YtimijjhdgihobaaDoorMqh
namespace Go.Proofs.YtimijjhdgihobaaDoor
section
open Go.RowKit Go.Maps Go.ChangeMaps Go.MapKept Go.ChangeShapes
open Go.WideElems (Fit rd rg pl rd_val elemAt)

def heldV (v : Value) : Option (DataW Value × List MemPlace) := some (.held v, [])
def asHeld : Option Value → DataW Value
  | some v => .held v
  | none => .nil
/-- block b is a map from integers (type k); at the key z stands F z. -/
def MapV (P : Program) (k : TypeId) (w : World) (b n : Nat) (F : Int → Option Value) : Prop :=
  ∃ es clock, w.heap[b]? = some (.map es clock) ∧ Fit P k heldV es clock ∧ es.size ≤ n ∧ ∀ z, (DataW.map ((es.toList.map (rg P k heldV)).foldr DataW.insert [])).atKey (.int .i64 z) .nil = asHeld (F z)
def updV (F : Int → Option Value) (z : Int) (v : Value) : Int → Option Value := fun y => if y = z then some v else F y

section
variable {P : Program} {k : TypeId} {w w' : World} {b n : Nat} {F : Int → Option Value}
theorem MapV.made : MapV P k (w.alloc (.map #[] 0)) w.heap.size 0 (fun _ => none) := ⟨#[], 0, (MapKept.heap_alloc w _).1, ⟨by simp, stamped_empty 0, by simp⟩, Nat.le_refl _, fun _ => rfl⟩
theorem MapV.lt (h : MapV P k w b n F) : b < w.heap.size := by
  obtain ⟨es, clock, h1, _⟩ := h
  exact (Array.getElem?_eq_some_iff.1 h1).1
theorem MapV.same (h : MapV P k w b n F) (hb : w'.heap[b]? = w.heap[b]?) : MapV P k w' b n F := by
  obtain ⟨es, clock, h1, h2, h3, h4⟩ := h
  exact ⟨es, clock, hb.trans h1, h2, h3, h4⟩
theorem MapV.mono (h : MapV P k w b n F) {m : Nat} (hm : n ≤ m) : MapV P k w b m F := by
  obtain ⟨es, clock, h1, h2, h3, h4⟩ := h
  exact ⟨es, clock, h1, h2, Nat.le_trans h3 hm, h4⟩
theorem MapV.look {t E : TypeId} (h : MapV P k w b n F) (hk : P.underlying k = some (.int .i64)) (ht : P.underlying t = some (.map k E)) {z0 : Value} (hz : (zeroValue E).run P w = .ok z0 w) (c : Bool) {z : Int} (hwf : (Lit.int .i64 z).wf = true) :
    (F z = none ∧ (Instr.lookup t (.map (some b)) (.int .i64 z) c).run P w = .ok (if c then .tuple #[z0, .bool false] else z0) w) ∨ ∃ v, F z = some v ∧ (Instr.lookup t (.map (some b)) (.int .i64 z) c).run P w = .ok (if c then .tuple #[v, .bool true] else v) w := by
  obtain ⟨es, clock, h1, h2, h3, h4⟩ := h
  rcases fit_look c (int_keyed hk) ht hz h1 h2 (keyOf_int_mk hk hwf) with ⟨hr, _, hat⟩ | ⟨e0, y, _, _, hr, hR, hat, _⟩
  · refine .inl ⟨?_, hr⟩
    have := h4 z
    rw [hat] at this
    cases hF : F z with
    | none => rfl
    | some v => rw [hF] at this; cases this
  · refine .inr ⟨e0.val, ?_, hr⟩
    have := h4 z
    rw [hat] at this
    simp only [heldV, Option.some.injEq] at hR
    subst hR
    cases hF : F z with
    | none => rw [hF] at this; cases this
    | some v =>
      rw [hF] at this
      injection this with this
      rw [this]
theorem MapV.put {t E : TypeId} (h : MapV P k w b n F) (hk : P.underlying k = some (.int .i64)) (ht : P.underlying t = some (.map k E)) (hn : n < 9223372036854775807) {z : Int} (hwf : (Lit.int .i64 z).wf = true) (v : Value) :
    ∃ w', (Instr.mapUpdate t (.map (some b)) (.int .i64 z) v).run P w = .ok () w' ∧ MapV P k w' b (n + 1) (updV F z v) ∧ w.grownBy w' (some b) := by
  obtain ⟨es, clock, h1, h2, h3, h4⟩ := h
  obtain ⟨es', clock', hrun, F', hput, _, _, _⟩ := fit_store (R' := heldV) (int_keyed hk) ht h1 h2 (by unfold maxLen; omega) (fun _ _ _ _ hz => hz) (keyOf_int_mk hk hwf) (val := v) rfl
  refine ⟨_, hrun, ⟨es', clock', heap_setBlock_same h1 _, F', ?_, fun y => ?_⟩, ⟨rfl, rfl, rfl, by simp [setBlock], fun i _ hi => heap_setBlock_other h1 _ (fun e1 => hi (by rw [e1]))⟩⟩
  · have e1 : es'.size = ((es'.toList.map (rg P k heldV)).foldr DataW.insert []).length := by rw [length_sorted]; simp
    rw [e1, hput]
    unfold putKey
    rw [length_insert]
    have e2 := List.length_filter_le (notKey (.int .i64 z)) ((es.toList.map (rg P k heldV)).foldr DataW.insert [])
    rw [length_sorted] at e2
    simp at e2
    omega
  · rw [hput, ← DataW.put_eq]
    unfold updV
    by_cases hy : y = z
    · subst hy
      rw [if_pos rfl, atKey_put_same (k := .int .i64 y) ⟨_, rfl⟩ trivial]
      rfl
    · rw [if_neg hy, atKey_put_other (by intro q; injection q with _ q; exact hy q)]
      exact h4 y
end

theorem wpList_lookup_any {P : Program} (w : World) {ops : Array Oper} {rest : List Oper} {o : Oper} {a : Act} {Q : Exit → Act → World → Prop} (hg : Region.wanted o (yielded ops a.tmps) = true) (m x : Operand) (t : TypeId) (c : Bool) (hop : o.op = Op.lookup t m x c) (mv xv v : Value) (hm : a.eval m = mv) (hx : a.eval x = xv) (hrun : (Instr.lookup t mv xv c).run P w = .ok v w)
    (hK : wpList P ops Q rest (a.put o.dst v) w) : wpList P ops Q (o :: rest) a w := by
  refine BigFrame.wpList_want hg fun K' hK' => ?_
  unfold Oper.wp
  simp [execOp, hop, hm, hx, hrun, Result.andThen]
  exact hK' _ _ hK
theorem wpList_put_any {P : Program} (w : World) {w2 : World} {ops : Array Oper} {rest : List Oper} {o : Oper} {a : Act} {Q : Exit → Act → World → Prop} (hg : Region.wanted o (yielded ops a.tmps) = true) (m x v : Operand) (t : TypeId) (hop : o.op = Op.mapUpdate t m x v) (mv xv vv : Value) (hm : a.eval m = mv) (hx : a.eval x = xv) (hv : a.eval v = vv) (hrun : (Instr.mapUpdate t mv xv vv).run P w = .ok () w2)
    (hK : wpList P ops Q rest (a.put o.dst undef) w2) : wpList P ops Q (o :: rest) a w := by
  refine BigFrame.wpList_want hg fun K' hK' => ?_
  unfold Oper.wp
  simp [execOp, hop, hm, hx, hv, hrun, Result.andThen]
  exact hK' _ _ hK
end
section
open Go.RowKit Go.Maps

/-- the weight of an edge under the travel times ts: 2^62 where it is closed. -/
def wAt (ts : List Int) (i : Nat) : Int := match ts[i]? with
  | some z => if 1 ≤ z ∧ z ≤ 1048576 then z else 4611686018427387904
  | none => 4611686018427387904
theorem wAt_range (ts : List Int) (i : Nat) : 1 ≤ wAt ts i ∧ (wAt ts i ≤ 1048576 ∨ wAt ts i = 4611686018427387904) := by
  unfold wAt
  split
  · split
    · omega
    · omega
  · omega

set_option maxRecDepth 100000 in
theorem travelTime_any (A : Option Addr) (c : Nat) (ts : List Int) (i : Nat) (w : World) (B : Nat) (hs : Sl w B A (ts.map (Value.int .i64))) :
    Calls Tryd.prog 102 #[.slice A ts.length c, .int .i64 (i : Int)] w fun e w' => e = .returned (.int .i64 (wAt ts i)) ∧ w = w' := by
  have HW : Hid (wAt ts i = match ts[i]? with | some z => if 1 ≤ z ∧ z ≤ 1048576 then z else 4611686018427387904 | none => 4611686018427387904) := rfl
  generalize wAt ts i = r at *
  by_cases hlt : i < ts.length
  · obtain ⟨z, hz⟩ : ∃ z, ts[i]? = some z := ⟨ts[i], by simp⟩
    obtain ⟨b, o, rfl, _, hc⟩ := hs.int hz
    rw [hz] at HW
    have d1 : decide ((ts.length : Int) ≤ (i : Int)) = false := by simp; omega
    have d1' : decide (ts.length ≤ i) = false := by simp; omega
    clear hz
    by_cases h1 : z < 1
    · have HR : Hid (r = 4611686018427387904) := by show _ = _; rw [HW.out]; simp only; rw [if_neg (by omega)]
      have d2 : decide (z < 1) = true := by simpa using h1
      go_enter Tryd.func102, Tryd.ntmps102
      go_wp2_with fail
      go_ret
      exact ⟨ret_int HR.out.symm, rfl⟩
    · have d2 : decide (z < 1) = false := by simpa using h1
      by_cases h2 : 1048576 < z
      · have HR : Hid (r = 4611686018427387904) := by show _ = _; rw [HW.out]; simp only; rw [if_neg (by omega)]
        have d3 : decide (1048576 < z) = true := by simpa using h2
        go_enter Tryd.func102, Tryd.ntmps102
        go_wp2_with fail
        go_ret
        exact ⟨ret_int HR.out.symm, rfl⟩
      · have HR : Hid (r = z) := by show _ = _; rw [HW.out]; simp only; rw [if_pos (by omega)]
        have d3 : decide (1048576 < z) = false := by simpa using h2
        go_enter Tryd.func102, Tryd.ntmps102
        go_wp2_with fail
        go_ret
        exact ⟨ret_int HR.out.symm, rfl⟩
  · have HR : Hid (r = 4611686018427387904) := by show _ = _; rw [HW.out, List.getElem?_eq_none (by omega)]
    have d1 : decide ((ts.length : Int) ≤ (i : Int)) = true := by simp; omega
    have d1' : decide (ts.length ≤ i) = true := by simp; omega
    go_enter Tryd.func102, Tryd.ntmps102
    go_wp2_with fail
    go_ret
    exact ⟨ret_int HR.out.symm, rfl⟩

theorem make_i64 (w : World) (n : Nat) (h : n ≤ 16777216) : (Instr.makeSlice 25 (.int .i64 n) (.int .i64 n)).run Tryd.prog w = .ok (.slice (some ⟨w.heap.size, 0, none⟩) n n) (w.alloc (.cells (madeCells #[.int .i64 0] n) 2)) := by
  obtain ⟨i0, hi, hz1, hz2, hz3⟩ := info_parts i64_info
  have := run_makeSlice (P := Tryd.prog) w 25 2 i0 (.int .i64 0) Tryd.underlying25 hi hz1 .i64 .i64 n n (by omega) (by omega) (by rw [hz2]; simp; omega) (by rw [hz3]; omega) (by omega)
  rw [hz2] at this
  have e : (Value.int .i64 0).cells = #[Value.int .i64 0] := rfl
  rw [e] at this
  simpa using this
theorem made_own (w : World) (base n : Nat) (hb : base ≤ w.heap.size) (hn : n ≤ 16777216) : OwnI (w.alloc (.cells (madeCells #[.int .i64 0] n) 2)) base 2 (.slice (some ⟨w.heap.size, 0, none⟩) n n) (List.replicate n 0) := by
  have h := World.ownsRow_lit (base := base) (e := 2) (size := 1) w (madeCells #[.int .i64 0] n) n hb (by unfold maxLen; omega) (by simp [size_madeCells])
  unfold OwnI OwnV
  rw [List.length_replicate]
  have e : (madeCells #[.int .i64 0] n).toList = (List.replicate n 0).map (Value.int .i64) := by
    apply List.ext_getElem?
    intro i
    by_cases hi : i < n
    · simp [madeCells, hi, Nat.mod_one]
    · simp [madeCells, hi]
  rw [← e]
  simpa using h

def timesL (ts : List Int) (m : Nat) : List Int := (List.range m).map (wAt ts)
/-- the first k done. -/
def timesK (ts : List Int) (m k : Nat) : List Int := (List.range m).map (fun i => if i < k then wAt ts i else 0)
theorem timesK_zero (ts : List Int) (m : Nat) : timesK ts m 0 = List.replicate m 0 := by
  unfold timesK
  apply List.ext_getElem?
  intro i
  by_cases hi : i < m <;> simp [hi]
theorem timesK_all (ts : List Int) (m : Nat) : timesK ts m m = timesL ts m := by
  unfold timesK timesL
  refine List.map_congr_left fun i hi => ?_
  rw [if_pos (List.mem_range.1 hi)]
theorem timesK_succ {ts : List Int} {m k : Nat} (hk : k < m) : (timesK ts m k).set k (wAt ts k) = timesK ts m (k + 1) := by
  unfold timesK
  apply List.ext_getElem?
  intro i
  rw [List.getElem?_set]
  by_cases e : k = i
  · subst e
    simp [hk]
  · rw [if_neg e]
    by_cases hi : i < m
    · simp only [List.getElem?_map, List.getElem?_range hi, Option.map_some, Option.some.injEq]
      by_cases h1 : i < k
      · rw [if_pos h1, if_pos (by omega)]
      · rw [if_neg h1, if_neg (by omega)]
    · rw [List.getElem?_eq_none (by simp; omega), List.getElem?_eq_none (by simp; omega)]
theorem timesK_len (ts : List Int) (m k : Nat) : (timesK ts m k).length = m := by simp [timesK]

def RetTimes (w : World) (ts : List Int) (m : Nat) (e : Ending) (w' : World) : Prop := ∃ g, e = .returned (.slice (some ⟨g, 0, none⟩) m m) ∧ OwnI w' w.heap.size 2 (.slice (some ⟨g, 0, none⟩) m m) (timesL ts m) ∧ Below w.heap.size w w'
set_option maxRecDepth 100000 in
set_option maxHeartbeats 1000000 in
theorem travelTimes_any (p n : Nat) (E : List EdgeT) (A : Option Addr) (c : Nat) (ts : List Int) (w : World) (hg : GraphAt w w.heap.size p n E) (hE : E.length ≤ 16384) (hs : Sl w w.heap.size A (ts.map (Value.int .i64))) :
    Calls Tryd.prog 81 #[.pointer (some ⟨p, 0, none⟩), .slice A ts.length c] w (RetTimes w ts E.length) := by
  have hmk := make_i64 w E.length (by omega)
  have hed := edges_any w _ p n E hg
  have HED := Lib.hid hed
  have HS := Lib.hid hs
  have HB := Lib.hid ((Below.refl w.heap.size w).alloc (Nat.le_refl _) (.cells (madeCells #[.int .i64 0] E.length) 2))
  have HO := Lib.hid (made_own w w.heap.size E.length (Nat.le_refl _) (by omega))
  clear hg hed hs
  go_enter Tryd.func81, Tryd.ntmps81
  go_wp2_with fail
  refine HED.out.mono ?_
  rintro e w' ⟨rfl, rfl⟩
  go_wp2_with fail
  obtain ⟨m, hm⟩ : ∃ m, m = E.length := ⟨_, rfl⟩
  have HM := Lib.hid hm
  rw [← hm] at HO HB hE ⊢
  obtain ⟨g, hg⟩ : ∃ g, g = w.heap.size := ⟨_, rfl⟩
  have hst : OwnI (w.alloc (.cells (madeCells #[.int .i64 0] m) 2)) w.heap.size 2 (.slice (some ⟨g, 0, none⟩) m m) (timesK ts m 0) := by rw [timesK_zero, hg]; exact HO.out
  have HST := Lib.hid hst
  rw [← hg]
  have hgz : w.heap.size ≤ g := by omega
  clear hmk HO HED hst hm hg
  go_loopw [12] (fun iv wr => ∃ k : Nat, k ≤ m ∧ iv = .int .i64 k ∧ OwnI wr w.heap.size 2 (.slice (some ⟨g, 0, none⟩) m m) (timesK ts m k) ∧ Below w.heap.size w wr) (fun i _ => m - (intOf i).toNat)
  case atStart => exact ⟨0, Nat.zero_le _, rfl, HST.out, HB.out⟩
  case round =>
    obtain ⟨k, hk, rfl, hown, hb⟩ := hrel
    have HOW := Lib.hid hown
    have HBR := Lib.hid hb
    by_cases hlt : k < m
    · obtain ⟨z, hz⟩ : ∃ z, (timesK ts m k)[k]? = some z := ⟨(timesK ts m k)[k]'(by rw [timesK_len]; exact hlt), by simp⟩
      obtain ⟨cz, fz⟩ := hown.read hz
      clear hown hb hz
      go_wp2_with fail
      refine (travelTime_any A c ts k wr _ (HS.out.below HBR.out)).mono ?_
      rintro e w' ⟨rfl, rfl⟩
      go_wp2_with fail
      go_roundw
      case rel =>
        refine ⟨k + 1, by omega, by go_num, ?_, HBR.out.setCell (p := ⟨g, k, none⟩) hgz _⟩
        have := HOW.out.stored k (wAt ts k)
        rw [timesK_succ hlt] at this
        exact this
      case measure => simp [intOf]; omega
    · have hkk : k = m := by omega
      subst hkk
      clear hown hb
      go_wp2_with fail
      go_ret
      obtain rfl := HM.out
      refine ⟨g, rfl, ?_, HBR.out⟩
      rw [← timesK_all]
      exact HOW.out

/-- Edge at a number of an edge. -/
def RetEdge (w : World) (ed : EdgeT) (e : Ending) (w' : World) : Prop := e = .returned (.tuple #[.agg #[.int .i64 ed.frm, .int .i64 ed.dst, .int .i64 ed.tm], .bool true]) ∧ Below w.heap.size w w'
set_option maxRecDepth 100000 in
theorem edge_any (p n : Nat) (E : List EdgeT) (w : World) (hg : GraphAt w w.heap.size p n E) (i : Nat) (ed : EdgeT) (hi : E[i]? = some ed) :
    Calls Tryd.prog 100 #[.pointer (some ⟨p, 0, none⟩), .int .i64 (i : Int)] w (RetEdge w ed) := by
  obtain ⟨A, c, c0, hed, hc1, hc2⟩ := hg.edges
  obtain ⟨b, o, rfl, hb, e0, e1, e2⟩ := hed.at hi
  have hil := (List.getElem?_eq_some_iff.1 hi).1
  have hpz := hg.lt
  have d1 : decide ((i : Int) < 0) = false := by simp
  have d2 : decide ((E.length : Int) ≤ (i : Int)) = false := by simp; omega
  have d2' : decide (E.length ≤ i) = false := by simp; omega
  have hpe : ¬ p = w.heap.size := by omega
  have hbe : ¬ b = w.heap.size := by omega
  obtain ⟨frm, too, tm⟩ := ed
  simp only at e0 e1 e2
  clear hi hed hg
  go_enter Tryd.func100, Tryd.ntmps100
  go_wp2_with fail
  refine bodyPost_ret (v := .tuple #[.agg #[.int .i64 frm, .int .i64 too, .int .i64 tm], .bool true]) (by simp [results, Tryd.results100, go_sem]) rfl ⟨rfl, ?_⟩
  exact (Below.refl _ _).alloc (Nat.le_refl _) _
end
section
open Go.RowKit Go.Shelf Go.Maps
attribute [local go_sem] Oper.semAt_some

/-- enumerate makes a closure over two new boxes. -/
theorem enumerate_any (a : Option Addr) (n : Nat) (x : Int) (w : World) :
    Calls Tryd.prog 105 #[.slice a n n, .int .i64 x] w fun e w' => e = .returned (.func (.func 107) #[] #[.pointer (some ⟨w.heap.size + 1, 0, none⟩), .pointer (some ⟨w.heap.size, 0, none⟩)]) ∧ w' = (w.alloc (.cells #[.slice a n n] 82)).alloc (.cells #[.int .i64 x] 3) := by
  go_enter Tryd.func105, Tryd.ntmps105
  go_wp2_with fail
  go_ret
  exact ⟨rfl, rfl⟩

theorem outEdges_any (p n : Nat) (E : List EdgeT) (w : World) (B : Nat) (hg : GraphAt w B p n E) (x : Int) :
    ∃ ob, (ob < B ∧ ∀ j, j < n → ∃ A c, w.cell? ⟨ob, j, none⟩ = some (.slice A (idx EdgeT.frm E E.length j).length c) ∧ Sl w B A ((idx EdgeT.frm E E.length j).map (Value.int .i64))) ∧ Calls Tryd.prog 98 #[.pointer (some ⟨p, 0, none⟩), .int .i64 x] w fun e w' => e = .returned (.func (.func 107) #[] #[.pointer (some ⟨w.heap.size + 1, 0, none⟩), .pointer (some ⟨w.heap.size, 0, none⟩)]) ∧ w' = (w.alloc (.cells #[.slice (some ⟨ob, 0, none⟩) n n] 82)).alloc (.cells #[.int .i64 x] 3) := by
  obtain ⟨ob, hob, c1, hrw⟩ := hg.out
  have hen := fun W => enumerate_any (some ⟨ob, 0, none⟩) n x W
  refine ⟨ob, ⟨hob, fun j hj => ?_⟩, ?_⟩
  · obtain ⟨A, c, h1, h2, _⟩ := hrw j hj
    exact ⟨A, c, h1, h2⟩
  clear hrw
  go_enter Tryd.func98, Tryd.ntmps98
  go_wp2_with (refine Calls.mono (hen _) ?_; rintro e W ⟨rfl, rfl⟩)
  go_ret
  exact ⟨rfl, rfl⟩

set_option maxRecDepth 100000 in
set_option maxHeartbeats 2000000 in
/-- the closure, at a node: for every loop body that keeps what lay below n₀. -/
theorem iter_in (F : Fence) (n : Nat) (hF : F.fn 107) (hro : F.round = none) (hn : 1 ≤ n) (l Bn Bl n₀ ob nn x : Nat) (A : Option Addr) (c : Nat) (zs : List Int) (hx : x < nn) (hzl : zs.length ≤ 16384) (J Jx : List {z : Int // z ∈ zs} → World → Prop)
    (hY : ∀ pre x W, J pre W → pre.length < zs.length → YieldAt F (n - 1) Tryd.prog l #[.int .i64 x.1] W fun e W' =>
      (e = .returned (.bool true) ∧ J (pre ++ [x]) W' ∧ Below n₀ W W') ∨ (e = .returned (.bool false) ∧ Jx (pre ++ [x]) W'))
    (W : World) (hBn : W.cell? ⟨Bn, 0, none⟩ = some (.int .i64 (x : Int))) (hBl : W.cell? ⟨Bl, 0, none⟩ = some (.slice (some ⟨ob, 0, none⟩) nn nn)) (hrow : W.cell? ⟨ob, x, none⟩ = some (.slice A zs.length c)) (hsl : Sl W n₀ A (zs.map (Value.int .i64))) (h0 : J [] W) :
    CallsIn F n Tryd.prog 107 #[.func (.yield l) #[] #[], .pointer (some ⟨Bn, 0, none⟩), .pointer (some ⟨Bl, 0, none⟩)] W fun e W' => (∃ v, e = .returned v) ∧
      ((∃ ys, ys = zs.attach ∧ J ys W') ∨ (∃ pre, pre <+: zs.attach ∧ Jx pre W')) := by
  have d1 : decide ((x : Int) < 0) = false := by simp
  have d2 : decide ((nn : Int) ≤ (x : Int)) = false := by simp; omega
  have d2' : decide (nn ≤ x) = false := by simp; omega
  have hxj : (x : Int) < (nn : Int) := by omega
  refine callsIn_of_wp Tryd.func107 rfl hF ?_ hro
  simp only [Tryd.ntmps107, List.size_toArray, List.length_cons, List.length_nil, Nat.reduceAdd, Nat.reduceSub, Array.replicate_succ, Array.replicate_zero, List.push_toArray, List.append_toArray, List.nil_append, List.cons_append]
  gi_wp2
  gi_loopw [19] (fun i wr => ∃ k : Nat, k ≤ zs.length ∧ i = .int .i64 k ∧ J (zs.attach.take k) wr ∧ Below n₀ W wr) (fun i _ => zs.length - (intOf i).toNat)
  case atStart => exact ⟨0, Nat.zero_le _, rfl, h0, Below.refl _ _⟩
  case round =>
    obtain ⟨k, hk, rfl, hJs, hnx⟩ := hrel
    have HNX := Lib.hid hnx
    have HJ := Lib.hid hJs
    clear hnx hJs
    by_cases hlt : k < zs.length
    · obtain ⟨z, hz⟩ : ∃ z, zs[k]? = some z := ⟨zs[k], by simp⟩
      have hmem : z ∈ zs := List.mem_of_getElem? hz
      have hat : zs.attach[k]? = some ⟨z, hmem⟩ := by
        have hl := (List.getElem?_eq_some_iff.1 hz).1
        rw [List.getElem?_eq_getElem (by simpa using hl), List.getElem_attach]
        congr 1
        exact Subtype.ext (List.getElem?_eq_some_iff.1 hz).2
      obtain ⟨b, o, rfl, hb, hc⟩ := hsl.int hz
      have hcz : wr.cell? ⟨b, o + k, none⟩ = some (.int .i64 z) := (HNX.out.cell (p := ⟨b, o + k, none⟩) hb).trans hc
      obtain ⟨fn, tmps, assign, body, hy, hR⟩ := hY (zs.attach.take k) ⟨z, hmem⟩ wr HJ.out (by rw [List.length_take, List.length_attach]; omega)
      have HTK : Hid (zs.attach.take (k + 1) = zs.attach.take k ++ [⟨z, hmem⟩]) := Lib.hid (by
        have hl := (List.getElem?_eq_some_iff.1 hat).1
        rw [List.take_succ_eq_append_getElem hl, (List.getElem?_eq_some_iff.1 hat).2])
      have HR := Lib.hid hR
      clear hz hc hR hat
      dsimp only at hy
      gi_wp2
      refine HR.out.mono ?_
      rintro e W3 (⟨rfl, hJ3, hk3⟩ | ⟨rfl, hJx3⟩)
      · gi_wp2
        go_roundw
        case rel => exact ⟨k + 1, by omega, by simp, by rw [HTK.out]; exact hJ3, HNX.out.trans hk3⟩
        case measure => simp [intOf]; omega
      · gi_wp2
        refine bodyPost_ret (results_none rfl _ _ _) rfl ?_
        exact ⟨⟨_, rfl⟩, .inr ⟨_, by rw [← HTK.out]; exact List.take_prefix _ _, hJx3⟩⟩
    · obtain rfl : k = zs.length := by omega
      gi_wp2
      go_end0
      exact ⟨⟨_, rfl⟩, .inl ⟨_, rfl, by have := HJ.out; rwa [List.take_of_length_le (by simp)] at this⟩⟩

theorem iter_stops (F : Fence) (n : Nat) (hF : F.fn 107) (hro : F.round = none) (hn : 1 ≤ n) (Bn Bl n₀ ob nn x : Nat) (A : Option Addr) (c : Nat) (zs : List Int) (hx : x < nn) (hob : ob < n₀) (hzl : zs.length ≤ 16384) (w : World) (hBnz : Bn < w.heap.size) (hBlz : Bl < w.heap.size) (hn₀ : n₀ ≤ w.heap.size)
    (hBn : w.cell? ⟨Bn, 0, none⟩ = some (.int .i64 (x : Int))) (hBl : w.cell? ⟨Bl, 0, none⟩ = some (.slice (some ⟨ob, 0, none⟩) nn nn)) (hrow : w.cell? ⟨ob, x, none⟩ = some (.slice A zs.length c)) (hsl : Sl w n₀ A (zs.map (Value.int .i64))) :
    SeqStopsK F n Tryd.prog 107 #[.pointer (some ⟨Bn, 0, none⟩), .pointer (some ⟨Bl, 0, none⟩)] (fun x : {z : Int // z ∈ zs} => #[Value.int .i64 x.1]) (Below n₀) (fun ys => ys = zs.attach) (fun pre => pre <+: zs.attach) zs.length w := fun l J Jx W hW _ _ hY h0 =>
  iter_in F n hF hro hn l Bn Bl n₀ ob nn x A c zs hx hzl J Jx hY W ((hW.cell (p := ⟨Bn, 0, none⟩) hBnz).trans hBn) ((hW.cell (p := ⟨Bl, 0, none⟩) hBlz).trans hBl) ((hW.cell (p := ⟨ob, x, none⟩) (Nat.lt_of_lt_of_le hob hn₀)).trans hrow) (hsl.below (hW.mono hn₀)) h0
end
section
/-- edge i goes from u to v and may be used at x. -/
def usable (E : List EdgeT) (W : List Int) (i u v : Nat) (x : Int) : Prop := ∃ e, E[i]? = some e ∧ e.frm = (u : Int) ∧ e.dst = (v : Int) ∧ W[i]? = some x ∧ x ≠ 4611686018427387904
inductive Way (S : Nat → Prop) (E : List EdgeT) (W : List Int) : Nat → Int → Prop
  | src {s : Nat} : S s → Way S E W s 0
  | step {u v i : Nat} {d x : Int} : Way S E W u d → usable E W i u v x → Way S E W v (d + x)

/-- D holds the least lengths. -/
structure Fin35 (n : Nat) (S : Nat → Prop) (E : List EdgeT) (W D : List Int) : Prop where
  len : D.length = n
  way : ∀ (v : Nat) (d : Int), D[v]? = some d → d ≠ 4611686018427387904 → Way S E W v d
  src : ∀ s : Nat, S s → D[s]? = some 0
  closed : ∀ (i u v : Nat) (x d : Int), usable E W i u v x → D[u]? = some d → d ≠ 4611686018427387904 → ∃ d', D[v]? = some d' ∧ d' ≤ d + x
  small : ∀ (v : Nat) (d : Int), D[v]? = some d → d ≠ 4611686018427387904 → 0 ≤ d ∧ d ≤ 1099511627776

def okW (W : List Int) : Prop := ∀ (i : Nat) (x : Int), W[i]? = some x → x ≠ 4611686018427387904 → 1 ≤ x ∧ x ≤ 1048576

theorem Fin35.least {n : Nat} {S : Nat → Prop} {E : List EdgeT} {W D : List Int} (hW : okW W) (h : Fin35 n S E W D) {v : Nat} {d : Int} (hw : Way S E W v d) : ∃ d', D[v]? = some d' ∧ d' ≠ 4611686018427387904 ∧ d' ≤ d := by
  induction hw with
  | src hs => exact ⟨0, h.src _ hs, by decide, Int.le_refl _⟩
  | @step u v i d x hw hu ih =>
    obtain ⟨d1, h1, h2, h3⟩ := ih
    obtain ⟨d2, h4, h5⟩ := h.closed _ _ _ _ _ hu h1 h2
    obtain ⟨e, _, _, _, k1, k2⟩ := hu
    have := hW _ _ k1 k2
    have := h.small _ _ h1 h2
    exact ⟨d2, h4, by omega, by omega⟩

theorem Fin35.unique {n : Nat} {S : Nat → Prop} {E : List EdgeT} {W D D' : List Int} (hW : okW W) (h : Fin35 n S E W D) (h' : Fin35 n S E W D') : D = D' := by
  refine List.ext_getElem? fun v => ?_
  by_cases hv : v < n
  · obtain ⟨d, hd⟩ : ∃ d, D[v]? = some d := ⟨D[v]'(by rw [h.len]; exact hv), by simp⟩
    obtain ⟨d', hd'⟩ : ∃ d', D'[v]? = some d' := ⟨D'[v]'(by rw [h'.len]; exact hv), by simp⟩
    rw [hd, hd']
    congr 1
    by_cases c : d = 4611686018427387904
    · by_cases c' : d' = 4611686018427387904
      · omega
      · obtain ⟨a, b1, b2, _⟩ := h.least hW (h'.way _ _ hd' c')
        rw [hd] at b1
        cases b1
        exact absurd c b2
    · obtain ⟨a, b1, b2, b3⟩ := h'.least hW (h.way _ _ hd c)
      rw [hd'] at b1
      cases b1
      obtain ⟨a, b1, _, b4⟩ := h.least hW (h'.way _ _ hd' b2)
      rw [hd] at b1
      cases b1
      omega
  · rw [List.getElem?_eq_none (by rw [h.len]; omega), List.getElem?_eq_none (by rw [h'.len]; omega)]

def cntF (D : List Int) : Nat := D.countP (fun d => d != 4611686018427387904)
def phi (D : List Int) : Nat := (D.map (fun d => (min d 1073741824).toNat)).sum

theorem cntF_le (D : List Int) : cntF D ≤ D.length := List.countP_le_length
theorem cntF_set {D : List Int} {v : Nat} {d0 d : Int} (h : D[v]? = some d0) (hd : d ≠ 4611686018427387904) : cntF (D.set v d) = if d0 = 4611686018427387904 then cntF D + 1 else cntF D := by
  induction D generalizing v with
  | nil => simp at h
  | cons a D ih =>
    cases v with
    | zero =>
      simp only [List.getElem?_cons_zero, Option.some.injEq] at h
      subst h
      by_cases c : a = 4611686018427387904 <;> simp [cntF, c, hd]
    | succ v =>
      simp only [List.getElem?_cons_succ] at h
      have := ih h
      unfold cntF at this ⊢
      rw [List.set_cons_succ, List.countP_cons, List.countP_cons, this]
      split <;> omega
theorem phi_set {D : List Int} {v : Nat} {d0 d : Int} (h : D[v]? = some d0) (hd : d < d0) (h0 : 0 ≤ d) (h1 : d < 1073741824) : phi (D.set v d) + 1 ≤ phi D := by
  induction D generalizing v with
  | nil => simp at h
  | cons a D ih =>
    cases v with
    | zero =>
      simp only [List.getElem?_cons_zero, Option.some.injEq] at h
      subst h
      simp only [phi, List.set_cons_zero, List.map_cons, List.sum_cons]
      omega
    | succ v =>
      simp only [List.getElem?_cons_succ] at h
      have := ih h
      simp only [phi, List.set_cons_succ, List.map_cons, List.sum_cons] at this ⊢
      omega

/-- D has come down to D'. -/
def Down (D D' : List Int) : Prop := ∀ (v : Nat) (d : Int), D[v]? = some d → ∃ d', D'[v]? = some d' ∧ d' ≤ d
theorem Down.refl (D : List Int) : Down D D := fun _ d h => ⟨d, h, Int.le_refl _⟩
theorem Down.trans {A B C : List Int} (h : Down A B) (k : Down B C) : Down A C := fun v d e => by
  obtain ⟨d1, e1, l1⟩ := h v d e
  obtain ⟨d2, e2, l2⟩ := k v d1 e1
  exact ⟨d2, e2, by omega⟩
theorem down_set {D : List Int} {t : Nat} {d0 d : Int} (h : D[t]? = some d0) (hd : d < d0) : Down D (D.set t d) := fun v e he => by
  have hl := (List.getElem?_eq_some_iff.1 he).1
  by_cases c : t = v
  · subst c
    rw [h] at he
    cases he
    exact ⟨d, by rw [List.getElem?_set_self hl], by omega⟩
  · exact ⟨e, by rw [List.getElem?_set_ne c]; exact he, Int.le_refl _⟩

/-- all edges that leave u are relaxed at d. -/
def Relaxed (E : List EdgeT) (W D : List Int) (u : Nat) (d : Int) : Prop := ∀ (i v : Nat) (x : Int), usable E W i u v x → ∃ d', D[v]? = some d' ∧ d' ≤ d + x
theorem Relaxed.down {E : List EdgeT} {W D D' : List Int} {u : Nat} {d : Int} (h : Relaxed E W D u d) (hd : Down D D') : Relaxed E W D' u d := fun i v x hu => by
  obtain ⟨d1, h1, h2⟩ := h i v x hu
  obtain ⟨d2, h3, h4⟩ := hd v d1 h1
  exact ⟨d2, h3, by omega⟩

structure Mid (n : Nat) (S : Nat → Prop) (E : List EdgeT) (W : List Int) (P : Nat → Int → Prop) (D zs : List Int) : Prop where
  len : D.length = n
  way : ∀ (v : Nat) (d : Int), D[v]? = some d → d ≠ 4611686018427387904 → Way S E W v d
  small : ∀ (v : Nat) (d : Int), D[v]? = some d → d ≠ 4611686018427387904 → 0 ≤ d ∧ d ≤ (cntF D : Int) * 1048576
  inq : ∀ z ∈ zs, ∃ (x : Nat) (d dx : Int), z = d * 4096 + (x : Int) ∧ x < n ∧ 0 ≤ d ∧ d ≤ (cntF D : Int) * 1048576 ∧ Way S E W x d ∧ D[x]? = some dx ∧ dx ≤ d
  closed : ∀ (u : Nat) (d : Int), D[u]? = some d → d ≠ 4611686018427387904 → P u d ∨ d * 4096 + (u : Int) ∈ zs ∨ Relaxed E W D u d
  cap : zs.length + phi D ≤ n * 1073741824

section
variable {n : Nat} {S : Nat → Prop} {E : List EdgeT} {W : List Int} {P : Nat → Int → Prop} {D zs zs' : List Int}

theorem Mid.relax (h : Mid n S E W P D zs) (hn : n ≤ 256) {t : Nat} {d0 d : Int} (ht : D[t]? = some d0) (hlt : d < d0) (h0 : 0 ≤ d) (hb : d ≤ ((cntF D : Int) + 1) * 1048576) (hw : Way S E W t d) (hp : zs'.Perm (zs ++ [d * 4096 + (t : Int)])) :
    Mid n S E W P (D.set t d) zs' ∧ zs'.length + 2 * phi (D.set t d) < zs.length + 2 * phi D := by
  have htl := (List.getElem?_eq_some_iff.1 ht).1
  have hlen := h.len
  have hc := cntF_le D
  have hd : d ≠ 4611686018427387904 := by omega
  have hset := cntF_set (D := D) ht hd
  have hcs := cntF_le (D.set t d)
  rw [List.length_set] at hcs
  have hge : cntF D ≤ cntF (D.set t d) := by rw [hset]; split <;> omega
  have hself : (D.set t d)[t]? = some d := by rw [List.getElem?_set_self htl]
  have hne : ∀ v, t ≠ v → (D.set t d)[v]? = D[v]? := fun v c => List.getElem?_set_ne c
  have hdc : d ≤ (cntF (D.set t d) : Int) * 1048576 := by
    rw [hset]
    split
    · push_cast; exact hb
    · have := (h.small t d0 ht (by assumption)).2
      omega
  have hphi := phi_set ht hlt h0 (by omega)
  have hzl : zs'.length = zs.length + 1 := by rw [hp.length_eq]; simp
  refine ⟨⟨by rw [List.length_set]; exact hlen, fun v e he hne' => ?_, fun v e he hne' => ?_, fun z hz => ?_, fun u e he hne' => ?_, ?_⟩, by omega⟩
  · by_cases c : t = v
    · subst c
      rw [hself] at he
      cases he
      exact hw
    · rw [hne v c] at he
      exact h.way v e he hne'
  · by_cases c : t = v
    · subst c
      rw [hself] at he
      cases he
      exact ⟨h0, hdc⟩
    · rw [hne v c] at he
      have := h.small v e he hne'
      omega
  · rw [hp.mem_iff, List.mem_append, List.mem_singleton] at hz
    rcases hz with hz | rfl
    · obtain ⟨x, e, dx, a1, a2, a3, a4, a5, a6, a7⟩ := h.inq z hz
      obtain ⟨dx', b1, b2⟩ := down_set ht hlt x dx a6
      exact ⟨x, e, dx', a1, a2, a3, by omega, a5, b1, by omega⟩
    · exact ⟨t, d, d, rfl, by omega, h0, hdc, hw, hself, Int.le_refl _⟩
  · by_cases c : t = u
    · subst c
      rw [hself] at he
      cases he
      exact .inr (.inl (by rw [hp.mem_iff]; simp))
    · rw [hne u c] at he
      rcases h.closed u e he hne' with k | k | k
      · exact .inl k
      · exact .inr (.inl (by rw [hp.mem_iff]; exact List.mem_append_left _ k))
      · exact .inr (.inr (k.down (down_set ht hlt)))
  · have := h.cap
    omega

theorem Mid.pop (h : Mid n S E W (fun _ _ => False) D zs) (hn : n ≤ 256) {z : Int} (hp : zs.Perm (z :: zs')) :
    ∃ (x : Nat) (d dx : Int), z = d * 4096 + (x : Int) ∧ z / 4096 = d ∧ z % 4096 = (x : Int) ∧ x < n ∧ 0 ≤ d ∧ d ≤ (cntF D : Int) * 1048576 ∧ Way S E W x d ∧ D[x]? = some dx ∧
      (dx < d → Mid n S E W (fun _ _ => False) D zs') ∧ (d ≤ dx → Mid n S E W (fun u e => u = x ∧ e = d) D zs') := by
  obtain ⟨x, d, dx, a1, a2, a3, a4, a5, a6, a7⟩ := h.inq z (by rw [hp.mem_iff]; exact List.mem_cons_self)
  have hcap : zs'.length + phi D ≤ n * 1073741824 := by
    have := h.cap
    rw [hp.length_eq] at this
    simp at this
    omega
  have hinq : ∀ z ∈ zs', ∃ (x : Nat) (d dx : Int), z = d * 4096 + (x : Int) ∧ x < n ∧ 0 ≤ d ∧ d ≤ (cntF D : Int) * 1048576 ∧ Way S E W x d ∧ D[x]? = some dx ∧ dx ≤ d :=
    fun y hy => h.inq y (by rw [hp.mem_iff]; exact List.mem_cons_of_mem _ hy)
  refine ⟨x, d, dx, a1, by omega, by omega, a2, a3, a4, a5, a6, fun hlt => ?_, fun hle => ?_⟩
  · refine ⟨h.len, h.way, h.small, hinq, fun u e he hne => ?_, hcap⟩
    rcases h.closed u e he hne with k | k | k
    · exact k.elim
    · rw [hp.mem_iff] at k
      rcases List.mem_cons.1 k with k | k
      · have hu : u = x := by
          have := (List.getElem?_eq_some_iff.1 he).1
          have := h.len
          omega
        subst hu
        rw [he] at a6
        cases a6
        omega
      · exact .inr (.inl k)
    · exact .inr (.inr k)
  · refine ⟨h.len, h.way, h.small, hinq, fun u e he hne => ?_, hcap⟩
    rcases h.closed u e he hne with k | k | k
    · exact k.elim
    · rw [hp.mem_iff] at k
      rcases List.mem_cons.1 k with k | k
      · have hu : u = x := by
          have := (List.getElem?_eq_some_iff.1 he).1
          have := h.len
          omega
        exact .inl ⟨hu, by omega⟩
      · exact .inr (.inl k)
    · exact .inr (.inr k)

theorem Mid.over {x : Nat} {d : Int} (h : Mid n S E W (fun u e => u = x ∧ e = d) D zs) (hr : Relaxed E W D x d) : Mid n S E W (fun _ _ => False) D zs := by
  refine ⟨h.len, h.way, h.small, h.inq, fun u e he hne => ?_, h.cap⟩
  rcases h.closed u e he hne with ⟨rfl, rfl⟩ | k | k
  · exact .inr (.inr hr)
  · exact .inr (.inl k)
  · exact .inr (.inr k)

theorem Mid.done (h : Mid n S E W (fun _ _ => False) D []) (hn : n ≤ 256) (hs : ∀ s : Nat, S s → D[s]? = some 0) : Fin35 n S E W D := by
  refine ⟨h.len, h.way, hs, fun i u v x d hu he hne => ?_, fun v d he hne => ?_⟩
  · rcases h.closed u d he hne with k | k | k
    · exact k.elim
    · exact absurd k (by simp)
    · exact k i v x hu
  · have := h.small v d he hne
    have := cntF_le D
    have := h.len
    omega

theorem Mid.start (n : Nat) (S : Nat → Prop) (E : List EdgeT) (W : List Int) : Mid n S E W (fun _ _ => False) (List.replicate n 4611686018427387904) [] := by
  have key : ∀ (v : Nat) (d : Int), (List.replicate n (4611686018427387904 : Int))[v]? = some d → d = 4611686018427387904 := fun v d h => by
    rw [List.getElem?_replicate] at h
    split at h <;> simp_all
  refine ⟨by simp, fun v d h k => absurd (key v d h) k, fun v d h k => absurd (key v d h) k, fun z hz => absurd hz (by simp), fun v d h k => absurd (key v d h) k, ?_⟩
  have e : (min (4611686018427387904 : Int) 1073741824).toNat = 1073741824 := by decide
  simp [phi, List.sum_replicate_nat, e]

end
theorem src_set {T : Nat → Prop} {D : List Int} {t : Nat} {d0 d : Int} (h : ∀ s : Nat, T s → D[s]? = some 0) (ht : D[t]? = some d0) (hlt : d < d0) (h0 : 0 ≤ d) : ∀ s : Nat, T s → (D.set t d)[s]? = some 0 := fun s hs => by
  by_cases c : t = s
  · subst c
    have := h t hs
    rw [ht] at this
    cases this
    omega
  · rw [List.getElem?_set_ne c]
    exact h s hs

/-- the edges that the iterator gives are those that leave the node. -/
theorem mem_idx {E : List EdgeT} {j : Nat} {z : Int} : z ∈ idx EdgeT.frm E E.length j ↔ ∃ (i : Nat) (e : EdgeT), z = (i : Int) ∧ E[i]? = some e ∧ e.frm = (j : Int) := by
  unfold idx
  rw [List.take_length, List.mem_map]
  constructor
  · rintro ⟨⟨e, i⟩, h1, rfl⟩
    rw [List.mem_filter] at h1
    refine ⟨i, e, rfl, ?_, by simpa using h1.2⟩
    have := List.mem_zipIdx_iff_getElem?.1 h1.1
    simpa using this
  · rintro ⟨i, e, rfl, h1, h2⟩
    refine ⟨(e, i), ?_, rfl⟩
    rw [List.mem_filter]
    exact ⟨List.mem_zipIdx_iff_getElem?.2 (by simpa using h1), by simpa using h2⟩
end
end Go.Proofs.YtimijjhdgihobaaDoor
