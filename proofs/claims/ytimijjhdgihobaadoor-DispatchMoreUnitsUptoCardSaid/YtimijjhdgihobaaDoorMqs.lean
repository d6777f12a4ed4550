/-
  Plain: what dispatch.Assign chooses (one urgency after the other), and that there is one answer at most. No program in sight.
  dispatch.Format: what it returns.
  samaritanref38.num and Text: what they return.
  Memory of assignment: whole blocks (lines of XTrRo), cost matrices, the square.
-/
import Derived.Test.YtimijjhdgihobaaDoorMqe
import Derived.Test.YtimijjhdgihobaaDoorMqm
import Derived.Test.YtimijjhdgihobaaDoorMqr
import Derived.Test.YtimijjhdgihobaaDoorMqf
import Derived.Test.YtimijjhdgihobaaDoorMqb
import Derived.Deep.RegionHeld3
import Derived.Test.YtimijjhdgihobaaDoorMqa
import Derived.Test.YtimijjhdgihobaaDoorMqj
namespace Go.Proofs.YtimijjhdgihobaaDoor
section
structure ChoT where
  inc : Int
  kind : Int
  unit : Int
  time : Int
/-- what it costs to send u to s. -/
def CostS (n : Nat) (E : List EdgeT) (ts : List Int) (s : SlotP) (u : UnitT) (c : Int) : Prop := (satB u.kind s.kind = true → TT n E ts u.node s.nodes c) ∧ (satB u.kind s.kind = false → c = 4611686018427387904)
theorem CostS.unique {n : Nat} {E : List EdgeT} {ts : List Int} {s : SlotP} {u : UnitT} {c c' : Int} (h : CostS n E ts s u c) (h' : CostS n E ts s u c') : c = c' := by
  cases hs : satB u.kind s.kind
  · rw [h.2 hs, h'.2 hs]
  · exact (h.1 hs).unique (h'.1 hs)
theorem CostC.strip {n : Nat} {E : List EdgeT} {ts : List Int} {s : SlotT} {u : UnitT} {c : Int} (h : CostC n E ts s u c) : CostS n E ts (strip s) u c := h
/-- the slots of an urgency that are considered. -/
def slotsU (xs : List IncT) (us : List UnitT) (ps : List Plan) (urg : Int) : List SlotP := ((slotsL xs us ps).filter (fun s => s.urg == urg)).take 64
/-- u can reach one of the slots. -/
def ReachP (n : Nat) (E : List EdgeT) (ts : List Int) (ss : List SlotP) (u : UnitT) : Prop := ∃ s ∈ ss, ∃ t, CostS n E ts s u t ∧ t ≠ 4611686018427387904
open Classical in
/-- the units that are considered. -/
noncomputable def candU (n : Nat) (E : List EdgeT) (ts : List Int) (ss : List SlotP) (us : List UnitT) : List UnitT := (us.filter (fun u => decide (ReachP n E ts ss u))).take 64
/-- the costs. -/
structure MatR (n : Nat) (E : List EdgeT) (ts : List Int) (ss : List SlotP) (us : List UnitT) (M : List (List Int)) : Prop where
  len : M.length = ss.length
  row : ∀ (i : Nat) (s : SlotP) (r : List Int), ss[i]? = some s → M[i]? = some r → r.length = us.length ∧ ∀ (j : Nat) (u : UnitT) (c : Int), us[j]? = some u → r[j]? = some c → CostS n E ts s u c
theorem MatR.unique {n : Nat} {E : List EdgeT} {ts : List Int} {ss : List SlotP} {us : List UnitT} {M M' : List (List Int)} (h : MatR n E ts ss us M) (h' : MatR n E ts ss us M') : M = M' := by
  refine List.ext_getElem (h.len.trans h'.len.symm) fun i h1 h2 => ?_
  have hs : ss[i]? = some (ss[i]'(by rw [← h.len]; exact h1)) := List.getElem?_eq_getElem _
  obtain ⟨l1, c1⟩ := h.row i _ _ hs (List.getElem?_eq_getElem h1)
  obtain ⟨l2, c2⟩ := h'.row i _ _ hs (List.getElem?_eq_getElem h2)
  refine List.ext_getElem (l1.trans l2.symm) fun j k1 k2 => ?_
  have hu : us[j]? = some (us[j]'(by rw [← l1]; exact k1)) := List.getElem?_eq_getElem _
  exact (c1 j _ _ hu (List.getElem?_eq_getElem k1)).unique (c2 j _ _ hu (List.getElem?_eq_getElem k2))
theorem MatR.rows {n : Nat} {E : List EdgeT} {ts : List Int} {ss : List SlotP} {us : List UnitT} {M : List (List Int)} (h : MatR n E ts ss us M) : ∀ l ∈ M, l.length = us.length := by
  intro l hl
  obtain ⟨i, hi, e⟩ := List.getElem_of_mem hl
  have hs : ss[i]? = some (ss[i]'(by rw [← h.len]; exact hi)) := List.getElem?_eq_getElem _
  exact (h.row i _ l hs (by rw [List.getElem?_eq_getElem hi, e])).1
/-- the choice of slot i. -/
def choP (ss : List SlotP) (us : List UnitT) (M : List (List Int)) (m : List Int) (i : Nat) : Option ChoT :=
  if 0 ≤ mF m i then (match ss[i]?, us[(mF m i).toNat]? with
    | some s, some u => some ⟨s.inc, s.kind, u.id, cF M i (mF m i).toNat⟩
    | _, _ => none) else none
def choTo (ss : List SlotP) (us : List UnitT) (M : List (List Int)) (m : List Int) (k : Nat) : List ChoT := (List.range k).filterMap (choP ss us M m)
theorem choTo_succ (ss : List SlotP) (us : List UnitT) (M : List (List Int)) (m : List Int) (k : Nat) : choTo ss us M m (k + 1) = choTo ss us M m k ++ (choP ss us M m k).toList := by
  unfold choTo
  rw [List.range_succ, List.filterMap_append]
  congr 1
/-- a unit is sent. -/
def sendU (us : List UnitT) (c : ChoT) : List UnitT := us.map (fun u => if u.id = c.unit then { u with state := 2, inc := c.inc } else u)
theorem sendU_len (us : List UnitT) (c : ChoT) : (sendU us c).length = us.length := by simp [sendU]
/-- one urgency. -/
def StepR (n : Nat) (E : List EdgeT) (ts : List Int) (xs : List IncT) (ps : List Plan) (rsv urg : Int) (us : List UnitT) (cs : List ChoT) (us' : List UnitT) : Prop :=
  ∃ M m, MatR n E ts (slotsU xs us ps urg) (candU n E ts (slotsU xs us ps urg) (spareR (effR urg rsv) us us.length)) M ∧ m.length = (slotsU xs us ps urg).length ∧
    Bst (cF M) (slotsU xs us ps urg).length (candU n E ts (slotsU xs us ps urg) (spareR (effR urg rsv) us us.length)).length (mF m) ∧
    cs = choTo (slotsU xs us ps urg) (candU n E ts (slotsU xs us ps urg) (spareR (effR urg rsv) us us.length)) M m (slotsU xs us ps urg).length ∧ us' = cs.foldl sendU us
section
variable {n : Nat} {E : List EdgeT} {ts : List Int} {xs : List IncT} {ps : List Plan} {rsv urg : Int}
theorem StepR.unique {us us1 us2 : List UnitT} {cs1 cs2 : List ChoT} (h : StepR n E ts xs ps rsv urg us cs1 us1) (h' : StepR n E ts xs ps rsv urg us cs2 us2) : cs1 = cs2 ∧ us1 = us2 := by
  obtain ⟨M, m, a1, a2, a3, a4, a5⟩ := h
  obtain ⟨M', m', b1, b2, b3, b4, b5⟩ := h'
  obtain rfl := a1.unique b1
  obtain rfl := Bst.list a3 b3 a2 b2
  have e : cs1 = cs2 := a4.trans b4.symm
  subst e
  exact ⟨rfl, a5.trans b5.symm⟩
theorem StepR.none {us : List UnitT} (h : slotsU xs us ps urg = []) : StepR n E ts xs ps rsv urg us [] us := by
  refine ⟨[], [], ?_, ?_, ?_, ?_, rfl⟩
  · rw [h]
    exact ⟨rfl, fun i s r hs => by simp at hs⟩
  · rw [h]
    rfl
  · rw [h]
    refine ⟨⟨fun i hi => absurd hi (by simp), fun i j hi => absurd hi (by simp)⟩, fun x _ hb => ?_⟩
    rcases hb with hb | ⟨_, hb | ⟨_, i, hi, _⟩⟩
    · exact absurd hb (by simp [cnA, sumTo])
    · exact absurd hb (by simp [smA, sumTo])
    · exact absurd hi (by simp)
  · rw [h]
    rfl
/-- one urgency after the other. -/
def RunR (n : Nat) (E : List EdgeT) (ts : List Int) (xs : List IncT) (ps : List Plan) (rsv : Int) : List Int → List UnitT → List ChoT → List UnitT → Prop
  | [], us, cs, us' => cs = [] ∧ us' = us
  | g :: r, us, cs, us' => ∃ c1 u1 c2, StepR n E ts xs ps rsv g us c1 u1 ∧ RunR n E ts xs ps rsv r u1 c2 us' ∧ cs = c1 ++ c2
theorem RunR.unique : ∀ {l : List Int} {us us1 us2 : List UnitT} {cs1 cs2 : List ChoT}, RunR n E ts xs ps rsv l us cs1 us1 → RunR n E ts xs ps rsv l us cs2 us2 → cs1 = cs2 ∧ us1 = us2
  | [], _, _, _, _, _, ⟨h1, h2⟩, ⟨k1, k2⟩ => ⟨h1.trans k1.symm, h2.trans k2.symm⟩
  | g :: r, _, _, _, _, _, ⟨a, b, c, h1, h2, h3⟩, ⟨a', b', c', k1, k2, k3⟩ => by
    obtain ⟨rfl, rfl⟩ := h1.unique k1
    obtain ⟨rfl, e⟩ := h2.unique k2
    exact ⟨h3.trans k3.symm, e⟩
theorem RunR.snoc {g : Int} : ∀ {l : List Int} {us u1 u2 : List UnitT} {c1 c2 : List ChoT}, RunR n E ts xs ps rsv l us c1 u1 → StepR n E ts xs ps rsv g u1 c2 u2 → RunR n E ts xs ps rsv (l ++ [g]) us (c1 ++ c2) u2
  | [], _, _, _, _, _, ⟨h1, h2⟩, h => by
    subst h1 h2
    exact ⟨_, _, [], h, ⟨rfl, rfl⟩, by simp⟩
  | g' :: r, _, _, _, _, _, ⟨a, b, c, h1, h2, h3⟩, h => by
    subst h3
    exact ⟨a, b, _, h1, h2.snoc h, by rw [List.append_assoc]⟩
end
end
section
open Go.RowKit Go.Maps

structure ChoWf (c : ChoT) : Prop where
  inc : -9223372036854775808 ≤ c.inc ∧ c.inc ≤ 9223372036854775807
  unit : -9223372036854775808 ≤ c.unit ∧ c.unit ≤ 9223372036854775807
  kind : -9223372036854775808 ≤ c.kind ∧ c.kind ≤ 9223372036854775807
/-- the text of a choice. -/
def choX (c : ChoT) : ByteArray := if kindB c.kind then (⟨#[105, 110, 99, 105, 100, 101, 110, 116, 32]⟩ : ByteArray) ++ bs (Lib.itoa c.inc) ++ (⟨#[58, 32]⟩ : ByteArray) ++ bs (kindName c.kind) ++ (⟨#[32, 117, 110, 105, 116, 32]⟩ : ByteArray) ++ bs (Lib.itoa c.unit) ++ (⟨#[32, 105, 110, 32]⟩ : ByteArray) ++ bs (span (hold c.time)) else ⟨#[]⟩
theorem itoa_size {n : Int} (h : -9223372036854775808 ≤ n ∧ n ≤ 9223372036854775807) : (bs (Lib.itoa n)).size ≤ 21 := by
  rw [bs_size]
  exact Lib.itoa_length_le n h.1 h.2
theorem kindName_size (k : Int) : (bs (kindName k)).size ≤ 6 := by
  rw [bs_size]
  unfold kindName
  split
  · decide
  · split
    · decide
    · split <;> decide
theorem span_size (t : Int) : (bs (span (hold t))).size ≤ 100 := by
  rw [bs_size]
  unfold span
  split
  · decide
  · exact join_parts_len _ (hold_ge t) (hold_le t)
theorem names_nat {w : World} (h : NamesAt w) {k : Int} (hk : kindB k = true) : w.cell? ⟨0, k.toNat - 1, none⟩ = some (.string (bs (kindName k))) := by
  have h1 := h.at hk
  unfold kindB at hk
  rw [decide_eq_true_eq] at hk
  rw [show (k - 1).toNat = k.toNat - 1 by omega] at h1
  exact h1
/-- the box of a choice. -/
def BoxC (n : Nat) (c : ChoT) (W : World) : Prop := W.cell? ⟨n, 0, none⟩ = some (.int .i64 c.inc) ∧ W.cell? ⟨n, 1, none⟩ = some (.int .i64 c.kind) ∧ W.cell? ⟨n, 2, none⟩ = some (.int .i64 c.unit) ∧ W.cell? ⟨n, 3, none⟩ = some (.int .i64 c.time)
theorem BoxC.below {n : Nat} {c : ChoT} {W W' : World} (h : BoxC n c W) (hl : n < W.heap.size) (hbi : Below W.heap.size W W') : BoxC n c W' :=
  ⟨(hbi.cell (p := ⟨n, 0, none⟩) hl).trans h.1, (hbi.cell (p := ⟨n, 1, none⟩) hl).trans h.2.1, (hbi.cell (p := ⟨n, 2, none⟩) hl).trans h.2.2.1, (hbi.cell (p := ⟨n, 3, none⟩) hl).trans h.2.2.2⟩
/-- what Format's calls leave. -/
def FHeld (n : Nat) (c : ChoT) (KN : ByteArray) (w1 W : World) : Prop :=
  W.cell? ⟨n, 0, none⟩ = some (.int .i64 c.inc) ∧ W.cell? ⟨n, 1, none⟩ = some (.int .i64 c.kind) ∧ W.cell? ⟨n, 2, none⟩ = some (.int .i64 c.unit) ∧ W.cell? ⟨n, 3, none⟩ = some (.int .i64 c.time) ∧ W.cell? ⟨0, c.kind.toNat - 1, none⟩ = some (.string KN) ∧ Ready W ∧ Below w1.heap.size w1 W
theorem FHeld.below {n : Nat} {c : ChoT} {KN : ByteArray} {w1 W W' : World} (h : FHeld n c KN w1 W) (hz : n < w1.heap.size) (hk : kindB c.kind = true) (hn : KN = bs (kindName c.kind)) (hbi : Below W.heap.size W W') : FHeld n c KN w1 W' := by
  obtain ⟨h0, h1, h2, h3, _, h5, h6⟩ := h
  have hl : n < W.heap.size := Nat.lt_of_lt_of_le hz h6.size
  have hb := BoxC.below ⟨h0, h1, h2, h3⟩ hl hbi
  exact ⟨hb.1, hb.2.1, hb.2.2.1, hb.2.2.2, by rw [hn]; exact names_nat (h5.below hbi).names hk, h5.below hbi, below_then h6 hbi⟩
theorem drew_below (w : World) (n : Nat) : Below w.heap.size w (w.drewN n) := ⟨rfl, rfl, rfl, Nat.le_refl _, fun _ _ => rfl⟩
set_option maxRecDepth 100000 in
set_option maxHeartbeats 8000000 in
theorem format38_any (c : ChoT) (w : World) (hw : ChoWf c) (hr : Ready w) :
    Calls Tryd.prog 11 #[.agg #[.int .i64 c.inc, .int .i64 c.kind, .int .i64 c.unit, .int .i64 c.time]] w fun e w' => e = .returned (.string (choX c)) ∧ Below w.heap.size w w' := by
  obtain ⟨W, hW⟩ : ∃ W, W = w.alloc (.cells #[.int .i64 c.inc, .int .i64 c.kind, .int .i64 c.unit, .int .i64 c.time] 46) := ⟨_, rfl⟩
  have hbel : Below w.heap.size w W := by rw [hW]; exact (Below.refl _ _).alloc (Nat.le_refl _) _
  have hz : w.heap.size < W.heap.size := by rw [hW]; simp
  have c0 : W.cell? ⟨w.heap.size, 0, none⟩ = some (.int .i64 c.inc) := by rw [hW, World.cell?_alloc_at (hn := rfl)]; rfl
  have c1 : W.cell? ⟨w.heap.size, 1, none⟩ = some (.int .i64 c.kind) := by rw [hW, World.cell?_alloc_at (hn := rfl)]; rfl
  have c2 : W.cell? ⟨w.heap.size, 2, none⟩ = some (.int .i64 c.unit) := by rw [hW, World.cell?_alloc_at (hn := rfl)]; rfl
  have c3 : W.cell? ⟨w.heap.size, 3, none⟩ = some (.int .i64 c.time) := by rw [hW, World.cell?_alloc_at (hn := rfl)]; rfl
  have HB := Lib.hid hbel
  have HRW := Lib.hid (hr.below hbel)
  have wi := hw.inc
  have wu := hw.unit
  have wk := hw.kind
  clear hbel hw hr
  go_enter Tryd.func11, Tryd.ntmps11
  go_upto_region 1 with fail
  rw [← hW]
  clear hW
  cases hk : kindB c.kind
  · have hk2 : c.kind < 1 ∨ 4 < c.kind := by unfold kindB at hk; rw [decide_eq_false_iff_not] at hk; omega
    have HX : Hid (choX c = ⟨#[]⟩) := Lib.hid (by unfold choX; rw [hk]; rfl)
    clear hk
    rcases hk2 with h | h
    · go_wp2_with fail
      go_ret
      exact ⟨ret_str HX.out.symm, HB.out⟩
    · have h1 : ¬ c.kind < 1 := by omega
      go_wp2_with fail
      go_ret
      exact ⟨ret_str HX.out.symm, HB.out⟩
  · have hk2 : 1 ≤ c.kind ∧ c.kind ≤ 4 := by unfold kindB at hk; rw [decide_eq_true_eq] at hk; exact hk
    have h1 : ¬ c.kind < 1 := by omega
    have h4 : ¬ 4 < c.kind := by omega
    obtain ⟨DA, hDA⟩ : ∃ D, D = bs (Lib.itoa c.inc) := ⟨_, rfl⟩
    obtain ⟨DB, hDB⟩ : ∃ D, D = bs (Lib.itoa c.unit) := ⟨_, rfl⟩
    obtain ⟨KN, hKN⟩ : ∃ D, D = bs (kindName c.kind) := ⟨_, rfl⟩
    obtain ⟨DT, hDT⟩ : ∃ D, D = bs (span (hold c.time)) := ⟨_, rfl⟩
    have s1 : DA.size ≤ 21 := by rw [hDA]; exact itoa_size wi
    have s2 : DB.size ≤ 21 := by rw [hDB]; exact itoa_size wu
    have s3 : KN.size ≤ 6 := by rw [hKN]; exact kindName_size c.kind
    have s4 : DT.size ≤ 100 := by rw [hDT]; exact span_size c.time
    obtain ⟨V1, hV1⟩ : ∃ V, V = (⟨#[105, 110, 99, 105, 100, 101, 110, 116, 32]⟩ : ByteArray) ++ DA := ⟨_, rfl⟩
    have zV1 : V1.size ≤ 30 := by rw [hV1, ByteArray.size_append]; first | omega | (show 9 + _ ≤ _; omega) | (show _ + 0 ≤ _; omega)
    have nV1 : ¬ 9223372036854775807 < 9 + DA.size := by omega
    replace hV1 := hV1.symm
    obtain ⟨V2, hV2⟩ : ∃ V, V = V1 ++ (⟨#[58, 32]⟩ : ByteArray) := ⟨_, rfl⟩
    have zV2 : V2.size ≤ 32 := by rw [hV2, ByteArray.size_append]; first | omega | (show 9 + _ ≤ _; omega) | (show _ + 2 ≤ _; omega)
    have nV2 : ¬ 9223372036854775807 < V1.size + 2 := by omega
    replace hV2 := hV2.symm
    obtain ⟨V3, hV3⟩ : ∃ V, V = V2 ++ KN := ⟨_, rfl⟩
    have zV3 : V3.size ≤ 38 := by rw [hV3, ByteArray.size_append]; first | omega | (show 9 + _ ≤ _; omega) | (show _ + 0 ≤ _; omega)
    have nV3 : ¬ 9223372036854775807 < V2.size + KN.size := by omega
    replace hV3 := hV3.symm
    obtain ⟨V4, hV4⟩ : ∃ V, V = V3 ++ (⟨#[32, 117, 110, 105, 116, 32]⟩ : ByteArray) := ⟨_, rfl⟩
    have zV4 : V4.size ≤ 44 := by rw [hV4, ByteArray.size_append]; first | omega | (show 9 + _ ≤ _; omega) | (show _ + 6 ≤ _; omega)
    have nV4 : ¬ 9223372036854775807 < V3.size + 6 := by omega
    replace hV4 := hV4.symm
    obtain ⟨V5, hV5⟩ : ∃ V, V = V4 ++ DB := ⟨_, rfl⟩
    have zV5 : V5.size ≤ 65 := by rw [hV5, ByteArray.size_append]; first | omega | (show 9 + _ ≤ _; omega) | (show _ + 0 ≤ _; omega)
    have nV5 : ¬ 9223372036854775807 < V4.size + DB.size := by omega
    replace hV5 := hV5.symm
    obtain ⟨V6, hV6⟩ : ∃ V, V = V5 ++ (⟨#[32, 105, 110, 32]⟩ : ByteArray) := ⟨_, rfl⟩
    have zV6 : V6.size ≤ 69 := by rw [hV6, ByteArray.size_append]; first | omega | (show 9 + _ ≤ _; omega) | (show _ + 4 ≤ _; omega)
    have nV6 : ¬ 9223372036854775807 < V5.size + 4 := by omega
    replace hV6 := hV6.symm
    obtain ⟨V7, hV7⟩ : ∃ V, V = V6 ++ DT := ⟨_, rfl⟩
    have zV7 : V7.size ≤ 169 := by rw [hV7, ByteArray.size_append]; first | omega | (show 9 + _ ≤ _; omega) | (show _ + 0 ≤ _; omega)
    have nV7 : ¬ 9223372036854775807 < V6.size + DT.size := by omega
    replace hV7 := hV7.symm
    have HX : Hid (choX c = V7) := Lib.hid (by unfold choX; rw [hk, if_pos rfl, ← hV7, ← hV6, ← hV5, ← hV4, ← hV3, ← hV2, ← hV1, hDA, hDB, hKN, hDT])
    have HFA : Hid (∀ X, Ready X → Calls Tryd.prog 16 #[.int .i64 c.inc, .int .i64 10] X fun e X' => e = .returned (.string DA) ∧ Below X.heap.size X X') := Lib.hid (fun X h => by rw [hDA]; exact formatInt_any _ wi.1 wi.2 X h)
    have HFB : Hid (∀ X, Ready X → Calls Tryd.prog 17 #[.int .i64 c.unit] X fun e X' => e = .returned (.string DB) ∧ Below X.heap.size X X') := Lib.hid (fun X h => by rw [hDB]; exact itoa_any _ wu.1 wu.2 X h)
    have HFT : Hid (∀ X, Ready X → Calls Tryd.prog 18 #[.int .i64 c.time] X fun e X' => e = .returned (.string DT) ∧ Below X.heap.size X X') := Lib.hid (fun X h => by rw [hDT]; exact formatDuration_any _ X h)
    have hh : FHeld w.heap.size c KN W W := ⟨c0, c1, c2, c3, by rw [hKN]; exact names_nat HRW.out.names hk, HRW.out, Below.refl _ _⟩
    have HNX := Lib.hid (fun (X X' : World) (h : FHeld w.heap.size c KN W X) (hb : Below X.heap.size X X') => FHeld.below h hz hk hKN hb)
    have HH := Lib.hid (HNX.out _ _ hh (drew_below W 1))
    have hw1 : IntKind.i64.wrap (c.kind - 1) = c.kind - 1 := IntWalk.i64_in _ (by omega)
    have hi0 : (0 : Int) ≤ c.kind - 1 := by omega
    have hi4 : c.kind - 1 < 4 := by omega
    have hi5 : (c.kind - 1).toNat = c.kind.toNat - 1 := by omega
    clear hDA hDB hKN hDT hh hk wi wu zV1 zV2 zV3 zV4 zV5 zV6 zV7 s1 s2 s3 s4
    go_upto_region 3 with fail
    go_region_held3 (fun w' => w'.cell? ⟨w.heap.size, 0, none⟩ = some (.int .i64 c.inc) ∧ w'.cell? ⟨w.heap.size, 1, none⟩ = some (.int .i64 c.kind) ∧ w'.cell? ⟨w.heap.size, 2, none⟩ = some (.int .i64 c.unit) ∧ w'.cell? ⟨w.heap.size, 3, none⟩ = some (.int .i64 c.time) ∧ w'.cell? ⟨0, c.kind.toNat - 1, none⟩ = some (.string KN) ∧ Ready w' ∧ Below W.heap.size W w')
      (first | exact HH.out | exact HNX.out _ _ (by assumption) hbi)
      (first | (go_at_call 16; refine (HFA.out _ ?_).mono ?_; (exact And.left (And.right (And.right (And.right (And.right (And.right ‹_ ∧ _ ∧ _ ∧ _ ∧ _ ∧ Ready _ ∧ _›)))))); rintro e w' ⟨rfl, hbi⟩) | (go_at_call 17; refine (HFB.out _ ?_).mono ?_; (exact And.left (And.right (And.right (And.right (And.right (And.right ‹_ ∧ _ ∧ _ ∧ _ ∧ _ ∧ Ready _ ∧ _›)))))); rintro e w' ⟨rfl, hbi⟩) | (go_at_call 18; refine (HFT.out _ ?_).mono ?_; (exact And.left (And.right (And.right (And.right (And.right (And.right ‹_ ∧ _ ∧ _ ∧ _ ∧ _ ∧ Ready _ ∧ _›)))))); rintro e w' ⟨rfl, hbi⟩))
    have hf : FHeld w.heap.size c KN W w' := by assumption
    have HF := Lib.hid hf.2.2.2.2.2.2
    clear hf hbi
    go_wp2_with fail
    go_ret
    exact ⟨ret_str HX.out.symm, below_then HB.out HF.out⟩
end
section
open Go.RowKit Go.Maps

/-- what Text's calls leave. -/
def THeld (n : Nat) (c : ChoT) (w1 W : World) : Prop :=
  W.cell? ⟨n, 0, none⟩ = some (.int .i64 c.inc) ∧ W.cell? ⟨n, 1, none⟩ = some (.int .i64 c.kind) ∧ W.cell? ⟨n, 2, none⟩ = some (.int .i64 c.unit) ∧ W.cell? ⟨n, 3, none⟩ = some (.int .i64 c.time) ∧ Below w1.heap.size w1 W
theorem THeld.below {n : Nat} {c : ChoT} {w1 W W' : World} (h : THeld n c w1 W) (hz : n < w1.heap.size) (hbi : Below W.heap.size W W') : THeld n c w1 W' := by
  obtain ⟨h0, h1, h2, h3, h6⟩ := h
  have hl : n < W.heap.size := Nat.lt_of_lt_of_le hz h6.size
  have hb := BoxC.below ⟨h0, h1, h2, h3⟩ hl hbi
  exact ⟨hb.1, hb.2.1, hb.2.2.1, hb.2.2.2, below_then h6 hbi⟩
theorem itoa_step {m : Nat} (h : ¬ m < 10) : Lib.itoa (-(m : Int)) = Lib.itoa (-((m / 10 : Nat) : Int)) ++ Lib.decDigits (m % 10) := by
  rw [Lib.itoa_neg m (by omega), Lib.itoa_neg (m / 10) (by omega), dec_big h, dec_small (n := m % 10) (by omega)]
  rfl
set_option maxRecDepth 100000 in
set_option maxHeartbeats 4000000 in
theorem rnum_any : ∀ (k : Nat) (n : Int) (_ : n.natAbs < k) (_ : -9223372036854775808 ≤ n) (_ : n ≤ 9223372036854775807) (w : World), Calls Tryd.prog 19 #[.int .i64 n] w fun e w' => e = .returned (.string (bs (Lib.itoa n))) ∧ Below w.heap.size w w' := by
  intro k
  induction k with
  | zero => intro n h; omega
  | succ k ih =>
    intro n hk h0 h1 w
    by_cases hn : n < 0
    · obtain ⟨m, rfl⟩ : ∃ m : Nat, n = -(m : Int) := ⟨n.natAbs, by omega⟩
      have hq : (-(m : Int)).tdiv 10 = -((m : Int) / 10) := by rw [Int.neg_tdiv]; rfl
      have hr : (-(m : Int)).tmod 10 = -((m : Int) % 10) := by rw [Int.neg_tmod]; rfl
      have w1 : IntKind.i64.wrap (-((m : Int) / 10)) = -((m : Int) / 10) := IntWalk.i64_in _ (by omega)
      have w2 : IntKind.i64.wrap (-((m : Int) % 10)) = -((m : Int) % 10) := IntWalk.i64_in _ (by omega)
      have w3 : IntKind.i64.wrap ((m : Int) % 10) = (m : Int) % 10 := IntWalk.i64_in _ (by omega)
      have w4 : - -((m : Int) % 10) = (m : Int) % 10 := by omega
      obtain ⟨D, hD⟩ : ∃ D, D = bs (Lib.decDigits (m % 10)) := ⟨_, rfl⟩
      have hz : D.size ≤ 20 := by rw [hD]; exact dec_len (m % 10 : Nat) (by omega)
      have HN := Lib.hid (fun W => num_any ((m : Int) % 10) (by omega) (by omega) W)
      rw [show ((m : Int) % 10).toNat = m % 10 by omega, ← hD] at HN
      by_cases hm : m < 10
      · have hres : (⟨#[45]⟩ : ByteArray) ++ D = bs (Lib.itoa (-(m : Int))) := by rw [Lib.itoa_neg m (by omega), hD, show m % 10 = m by omega]; exact bs_append [45] _
        have HR := Lib.hid hres
        have e0 : -((m : Int) / 10) = 0 := by omega
        rw [e0] at hq w1
        clear hD hres e0
        go_enter Tryd.func19, Tryd.ntmps19
        go_wp2_with fail
        ((with_reducible refine (HN.out _).mono ?_))
        rintro e w' ⟨rfl, hb⟩
        have HB := Lib.hid hb
        clear hb
        go_wp2_with fail
        go_ret
        exact ⟨ret_str HR.out, HB.out⟩
      · have e0 : ¬ (-((m : Int) / 10) = 0) := by omega
        have e1 : (-((m : Int) / 10) == 0) = false := beq_eq_false_iff_ne.2 e0
        have hres : bs (Lib.itoa (-((m : Int) / 10))) ++ D = bs (Lib.itoa (-(m : Int))) := by
          rw [itoa_step hm, hD, bs_append]
          rfl
        have HI := Lib.hid (fun W => ih (-((m : Int) / 10)) (by omega) (by omega) (by omega) W)
        have hz2 : (bs (Lib.itoa (-((m : Int) / 10)))).size ≤ 21 := itoa_size ⟨by omega, by omega⟩
        obtain ⟨C, hC⟩ : ∃ C, C = bs (Lib.itoa (-((m : Int) / 10))) := ⟨_, rfl⟩
        rw [← hC] at hres HI hz2
        have HR := Lib.hid hres
        clear hD hres hC e0
        go_enter Tryd.func19, Tryd.ntmps19
        go_wp2_with fail
        ((with_reducible refine (HI.out _).mono ?_))
        rintro e w1' ⟨rfl, hb1⟩
        have HB1 := Lib.hid hb1
        clear hb1
        go_wp2_with fail
        ((with_reducible refine (HN.out _).mono ?_))
        rintro e w' ⟨rfl, hb⟩
        have HB := Lib.hid hb
        clear hb
        go_wp2_with fail
        go_ret
        exact ⟨ret_str HR.out, below_then HB1.out HB.out⟩
    · have hn0 : 0 ≤ n := by omega
      have HN := Lib.hid (fun W => num_any n hn0 h1 W)
      have HR : Hid (bs (Lib.decDigits n.toNat) = bs (Lib.itoa n)) := Lib.hid (by unfold Lib.itoa; rw [if_neg hn])
      go_enter Tryd.func19, Tryd.ntmps19
      go_wp2_with fail
      ((with_reducible refine (HN.out _).mono ?_))
      rintro e w' ⟨rfl, hb⟩
      have HB := Lib.hid hb
      clear hb
      go_wp2_with fail
      go_ret
      exact ⟨ret_str HR.out, HB.out⟩
set_option maxRecDepth 100000 in
set_option maxHeartbeats 8000000 in
theorem text38_any (c : ChoT) (w : World) (hw : ChoWf c) :
    Calls Tryd.prog 12 #[.agg #[.int .i64 c.inc, .int .i64 c.kind, .int .i64 c.unit, .int .i64 c.time]] w fun e w' => e = .returned (.string (choX c)) ∧ Below w.heap.size w w' := by
  obtain ⟨W, hW⟩ : ∃ W, W = w.alloc (.cells #[.int .i64 c.inc, .int .i64 c.kind, .int .i64 c.unit, .int .i64 c.time] 46) := ⟨_, rfl⟩
  have hbel : Below w.heap.size w W := by rw [hW]; exact (Below.refl _ _).alloc (Nat.le_refl _) _
  have hz : w.heap.size < W.heap.size := by rw [hW]; simp
  have c0 : W.cell? ⟨w.heap.size, 0, none⟩ = some (.int .i64 c.inc) := by rw [hW, World.cell?_alloc_at (hn := rfl)]; rfl
  have c1 : W.cell? ⟨w.heap.size, 1, none⟩ = some (.int .i64 c.kind) := by rw [hW, World.cell?_alloc_at (hn := rfl)]; rfl
  have c2 : W.cell? ⟨w.heap.size, 2, none⟩ = some (.int .i64 c.unit) := by rw [hW, World.cell?_alloc_at (hn := rfl)]; rfl
  have c3 : W.cell? ⟨w.heap.size, 3, none⟩ = some (.int .i64 c.time) := by rw [hW, World.cell?_alloc_at (hn := rfl)]; rfl
  have HB := Lib.hid hbel
  have wi := hw.inc
  have wu := hw.unit
  have wk := hw.kind
  clear hbel hw
  go_enter Tryd.func12, Tryd.ntmps12
  go_upto_region 1 with fail
  rw [← hW]
  clear hW
  cases hk : kindB c.kind
  · have hk2 : c.kind < 1 ∨ 4 < c.kind := by unfold kindB at hk; rw [decide_eq_false_iff_not] at hk; omega
    have HX : Hid (choX c = ⟨#[]⟩) := Lib.hid (by unfold choX; rw [hk]; rfl)
    clear hk
    rcases hk2 with h | h
    · go_wp2_with fail
      go_ret
      exact ⟨ret_str HX.out.symm, HB.out⟩
    · have h1 : ¬ c.kind < 1 := by omega
      go_wp2_with fail
      go_ret
      exact ⟨ret_str HX.out.symm, HB.out⟩
  · have hk2 : 1 ≤ c.kind ∧ c.kind ≤ 4 := by unfold kindB at hk; rw [decide_eq_true_eq] at hk; exact hk
    have h1 : ¬ c.kind < 1 := by omega
    have h4 : ¬ 4 < c.kind := by omega
    obtain ⟨DA, hDA⟩ : ∃ D, D = bs (Lib.itoa c.inc) := ⟨_, rfl⟩
    obtain ⟨DB, hDB⟩ : ∃ D, D = bs (Lib.itoa c.unit) := ⟨_, rfl⟩
    obtain ⟨KN, hKN⟩ : ∃ D, D = bs (kindName c.kind) := ⟨_, rfl⟩
    obtain ⟨DT, hDT⟩ : ∃ D, D = bs (span (hold c.time)) := ⟨_, rfl⟩
    have s1 : DA.size ≤ 21 := by rw [hDA]; exact itoa_size wi
    have s2 : DB.size ≤ 21 := by rw [hDB]; exact itoa_size wu
    have s3 : KN.size ≤ 6 := by rw [hKN]; exact kindName_size c.kind
    have s4 : DT.size ≤ 100 := by rw [hDT]; exact span_size c.time
    obtain ⟨V1, hV1⟩ : ∃ V, V = (⟨#[105, 110, 99, 105, 100, 101, 110, 116, 32]⟩ : ByteArray) ++ DA := ⟨_, rfl⟩
    have zV1 : V1.size ≤ 30 := by rw [hV1, ByteArray.size_append]; first | omega | (show 9 + _ ≤ _; omega) | (show _ + 0 ≤ _; omega)
    have nV1 : ¬ 9223372036854775807 < 9 + DA.size := by omega
    replace hV1 := hV1.symm
    obtain ⟨V2, hV2⟩ : ∃ V, V = V1 ++ (⟨#[58, 32]⟩ : ByteArray) := ⟨_, rfl⟩
    have zV2 : V2.size ≤ 32 := by rw [hV2, ByteArray.size_append]; first | omega | (show 9 + _ ≤ _; omega) | (show _ + 2 ≤ _; omega)
    have nV2 : ¬ 9223372036854775807 < V1.size + 2 := by omega
    replace hV2 := hV2.symm
    obtain ⟨V3, hV3⟩ : ∃ V, V = V2 ++ KN := ⟨_, rfl⟩
    have zV3 : V3.size ≤ 38 := by rw [hV3, ByteArray.size_append]; first | omega | (show 9 + _ ≤ _; omega) | (show _ + 0 ≤ _; omega)
    have nV3 : ¬ 9223372036854775807 < V2.size + KN.size := by omega
    replace hV3 := hV3.symm
    obtain ⟨V4, hV4⟩ : ∃ V, V = V3 ++ (⟨#[32, 117, 110, 105, 116, 32]⟩ : ByteArray) := ⟨_, rfl⟩
    have zV4 : V4.size ≤ 44 := by rw [hV4, ByteArray.size_append]; first | omega | (show 9 + _ ≤ _; omega) | (show _ + 6 ≤ _; omega)
    have nV4 : ¬ 9223372036854775807 < V3.size + 6 := by omega
    replace hV4 := hV4.symm
    obtain ⟨V5, hV5⟩ : ∃ V, V = V4 ++ DB := ⟨_, rfl⟩
    have zV5 : V5.size ≤ 65 := by rw [hV5, ByteArray.size_append]; first | omega | (show 9 + _ ≤ _; omega) | (show _ + 0 ≤ _; omega)
    have nV5 : ¬ 9223372036854775807 < V4.size + DB.size := by omega
    replace hV5 := hV5.symm
    obtain ⟨V6, hV6⟩ : ∃ V, V = V5 ++ (⟨#[32, 105, 110, 32]⟩ : ByteArray) := ⟨_, rfl⟩
    have zV6 : V6.size ≤ 69 := by rw [hV6, ByteArray.size_append]; first | omega | (show 9 + _ ≤ _; omega) | (show _ + 4 ≤ _; omega)
    have nV6 : ¬ 9223372036854775807 < V5.size + 4 := by omega
    replace hV6 := hV6.symm
    obtain ⟨V7, hV7⟩ : ∃ V, V = V6 ++ DT := ⟨_, rfl⟩
    have zV7 : V7.size ≤ 169 := by rw [hV7, ByteArray.size_append]; first | omega | (show 9 + _ ≤ _; omega) | (show _ + 0 ≤ _; omega)
    have nV7 : ¬ 9223372036854775807 < V6.size + DT.size := by omega
    replace hV7 := hV7.symm
    have HX : Hid (choX c = V7) := Lib.hid (by unfold choX; rw [hk, if_pos rfl, ← hV7, ← hV6, ← hV5, ← hV4, ← hV3, ← hV2, ← hV1, hDA, hDB, hKN, hDT])
    have HFA : Hid (∀ X, Calls Tryd.prog 19 #[.int .i64 c.inc] X fun e X' => e = .returned (.string DA) ∧ Below X.heap.size X X') := Lib.hid (fun X => by rw [hDA]; exact rnum_any _ _ (Nat.lt_succ_self _) wi.1 wi.2 X)
    have HFB : Hid (∀ X, Calls Tryd.prog 19 #[.int .i64 c.unit] X fun e X' => e = .returned (.string DB) ∧ Below X.heap.size X X') := Lib.hid (fun X => by rw [hDB]; exact rnum_any _ _ (Nat.lt_succ_self _) wu.1 wu.2 X)
    have HFK : Hid (∀ X, Calls Tryd.prog 20 #[.int .i64 c.kind] X fun e X' => e = .returned (.string KN) ∧ Below X.heap.size X X') := Lib.hid (fun X => by rw [hKN]; exact (word_any _ X).mono (fun _ _ h => ⟨h.1, by rw [← h.2]; exact Below.refl _ _⟩))
    have HFT : Hid (∀ X, Calls Tryd.prog 21 #[.int .i64 c.time] X fun e X' => e = .returned (.string DT) ∧ Below X.heap.size X X') := Lib.hid (fun X => by rw [hDT]; exact span_any _ X)
    have hh : THeld w.heap.size c W W := ⟨c0, c1, c2, c3, Below.refl _ _⟩
    have HNX := Lib.hid (fun (X X' : World) (h : THeld w.heap.size c W X) (hb : Below X.heap.size X X') => THeld.below h hz hb)
    have HH := Lib.hid (HNX.out _ _ hh (drew_below W 1))
    clear hDA hDB hKN hDT hh hk wi wu zV1 zV2 zV3 zV4 zV5 zV6 zV7 s1 s2 s3 s4
    go_upto_region 3 with fail
    go_region_held3 (fun w' => w'.cell? ⟨w.heap.size, 0, none⟩ = some (.int .i64 c.inc) ∧ w'.cell? ⟨w.heap.size, 1, none⟩ = some (.int .i64 c.kind) ∧ w'.cell? ⟨w.heap.size, 2, none⟩ = some (.int .i64 c.unit) ∧ w'.cell? ⟨w.heap.size, 3, none⟩ = some (.int .i64 c.time) ∧ Below W.heap.size W w')
      (first | exact HH.out | exact HNX.out _ _ (by assumption) hbi)
      (first | (go_at_call 19; (with_reducible refine (HFA.out _).mono ?_); rintro e w' ⟨rfl, hbi⟩) | (go_at_call 19; (with_reducible refine (HFB.out _).mono ?_); rintro e w' ⟨rfl, hbi⟩) | (go_at_call 20; (with_reducible refine (HFK.out _).mono ?_); rintro e w' ⟨rfl, hbi⟩) | (go_at_call 21; (with_reducible refine (HFT.out _).mono ?_); rintro e w' ⟨rfl, hbi⟩))
    have hf : THeld w.heap.size c W w' := by assumption
    have HF := Lib.hid hf.2.2.2.2
    clear hf hbi
    go_wp2_with fail
    go_ret
    exact ⟨ret_str HX.out.symm, below_then HB.out HF.out⟩
end
section
open Go.RowKit Go.Maps

/-- the block b holds the cells cs. -/
def Blk (X : World) (b : Nat) (T : TypeId) (cs : List Value) : Prop := X.heap[b]? = some (.cells cs.toArray T (0, 0))
section
variable {X Y : World} {b g : Nat} {T : TypeId} {cs : List Value}
theorem Blk.lt (h : Blk X b T cs) : b < X.heap.size := (Array.getElem?_eq_some_iff.1 h).1
theorem Blk.cell (h : Blk X b T cs) {j : Nat} {u : Value} (hj : cs[j]? = some u) : X.cell? ⟨b, j, none⟩ = some u := by
  rw [Lib.cell_of_heap h]
  simpa using hj
theorem Blk.free (h : Blk X b T cs) (j : Nat) : X.frozen? ⟨b, j, none⟩ = false := Lib.frozen_of_heap h j
theorem Blk.set (h : Blk X b T cs) (j : Nat) (u : Value) : Blk (X.setCell ⟨b, j, none⟩ u) b T (cs.set j u) := by
  unfold Blk
  rw [heap_setCell_same X b j _ _ _ h]
  simp
theorem Blk.other (h : Blk X b T cs) (hg : b ≠ g) (j : Nat) (u : Value) : Blk (X.setCell ⟨g, j, none⟩ u) b T cs := (heap_setCell_other X ⟨g, j, none⟩ b u hg).trans h
theorem Blk.below {B : Nat} (h : Blk X b T cs) (hb : Below B X Y) (hlt : b < B) : Blk Y b T cs := (hb.block b hlt).trans h
theorem Blk.next (h : Blk X b T cs) (hb : Below X.heap.size X Y) : Blk Y b T cs := (hb.block b h.lt).trans h
theorem blk_new (w : World) (cs : List Value) (T : TypeId) : Blk (w.alloc (.cells cs.toArray T)) w.heap.size T cs := by
  show (w.heap.push _)[w.heap.size]? = _
  simp
end
/-- a block of numbers. -/
def BlkI (X : World) (b : Nat) (T : TypeId) (L : List Int) : Prop := Blk X b T (L.map (Value.int .i64))
section
variable {X Y : World} {b g : Nat} {T : TypeId} {L : List Int}
theorem BlkI.lt (h : BlkI X b T L) : b < X.heap.size := Blk.lt h
theorem BlkI.cell (h : BlkI X b T L) {j : Nat} (hj : j < L.length) : X.cell? ⟨b, j, none⟩ = some (.int .i64 (mF L j)) := Blk.cell h (by rw [List.getElem?_map, mF_lt hj]; rfl)
theorem BlkI.free (h : BlkI X b T L) (j : Nat) : X.frozen? ⟨b, j, none⟩ = false := Blk.free h j
theorem BlkI.set (h : BlkI X b T L) (j : Nat) (x : Int) : BlkI (X.setCell ⟨b, j, none⟩ (.int .i64 x)) b T (L.set j x) := by
  have := Blk.set h j (.int .i64 x)
  unfold BlkI
  rwa [List.map_set]
theorem BlkI.other (h : BlkI X b T L) (hg : b ≠ g) (j : Nat) (u : Value) : BlkI (X.setCell ⟨g, j, none⟩ u) b T L := Blk.other h hg j u
theorem BlkI.below {B : Nat} (h : BlkI X b T L) (hb : Below B X Y) (hlt : b < B) : BlkI Y b T L := Blk.below h hb hlt
theorem BlkI.next (h : BlkI X b T L) (hb : Below X.heap.size X Y) : BlkI Y b T L := Blk.next h hb
end
/-- a block of truth values. -/
def BlkB (X : World) (b : Nat) (T : TypeId) (L : List Bool) : Prop := Blk X b T (L.map Value.bool)
section
variable {X Y : World} {b g : Nat} {T : TypeId} {L : List Bool}
theorem BlkB.cell (h : BlkB X b T L) {j : Nat} (hj : j < L.length) : X.cell? ⟨b, j, none⟩ = some (.bool (bF L j)) := Blk.cell h (by rw [List.getElem?_map, bF_get hj]; rfl)
theorem BlkB.set (h : BlkB X b T L) (j : Nat) (x : Bool) : BlkB (X.setCell ⟨b, j, none⟩ (.bool x)) b T (L.set j x) := by
  have := Blk.set h j (.bool x)
  unfold BlkB
  rwa [List.map_set]
theorem BlkB.other (h : BlkB X b T L) (hg : b ≠ g) (j : Nat) (u : Value) : BlkB (X.setCell ⟨g, j, none⟩ u) b T L := Blk.other h hg j u
end

/-- a slice of slices of numbers. -/
def MatAt (w : World) (B : Nat) (A : Option Addr) (M : List (List Int)) : Prop :=
  ∃ vs : List Value, vs.length = M.length ∧ Sl w B A vs ∧ ∀ (i : Nat) (row : List Int), M[i]? = some row → ∃ A' c', vs[i]? = some (.slice A' row.length c') ∧ Sl w B A' (row.map (Value.int .i64))
section
variable {w w' : World} {B B' : Nat} {A : Option Addr} {M : List (List Int)}
theorem MatAt.below (h : MatAt w B A M) (hb : Below B w w') : MatAt w' B A M := by
  obtain ⟨vs, h1, h2, h3⟩ := h
  refine ⟨vs, h1, h2.below hb, fun i row hr => ?_⟩
  obtain ⟨A', c', h4, h5⟩ := h3 i row hr
  exact ⟨A', c', h4, h5.below hb⟩
theorem MatAt.more (h : MatAt w B A M) (hB : B ≤ B') : MatAt w B' A M := by
  obtain ⟨vs, h1, h2, h3⟩ := h
  refine ⟨vs, h1, h2.more hB, fun i row hr => ?_⟩
  obtain ⟨A', c', h4, h5⟩ := h3 i row hr
  exact ⟨A', c', h4, h5.more hB⟩
theorem MatAt.row (h : MatAt w B A M) {i : Nat} {row : List Int} (hr : M[i]? = some row) : ∃ b o A' c', A = some ⟨b, o, none⟩ ∧ b < B ∧ w.cell? ⟨b, o + i, none⟩ = some (.slice A' row.length c') ∧ Sl w B A' (row.map (Value.int .i64)) := by
  obtain ⟨vs, h1, h2, h3⟩ := h
  obtain ⟨A', c', h4, h5⟩ := h3 i row hr
  obtain ⟨b, o, e, hb, hc⟩ := h2 i _ h4
  exact ⟨b, o, A', c', e, hb, hc, h5⟩
theorem Sl.num {zs : List Int} (h : Sl w B A (zs.map (Value.int .i64))) {j : Nat} (hj : j < zs.length) : ∃ b o, A = some ⟨b, o, none⟩ ∧ b < B ∧ w.cell? ⟨b, o + j, none⟩ = some (.int .i64 (mF zs j)) :=
  h j _ (by rw [List.getElem?_map, mF_lt hj]; rfl)
end

/-- one number of a matrix. -/
theorem MatAt.num {w : World} {B ab ao : Nat} {M : List (List Int)} {N : Nat} (h : MatAt w B (some ⟨ab, ao, none⟩) M) (hN : ∀ l ∈ M, l.length = N) {i j : Nat} (hi : i < M.length) (hj : j < N) :
    ab < B ∧ ∃ b2 o2 c', b2 < B ∧ w.cell? ⟨ab, ao + i, none⟩ = some (.slice (some ⟨b2, o2, none⟩) N c') ∧ w.cell? ⟨b2, o2 + j, none⟩ = some (.int .i64 (cF M i j)) := by
  have hm := List.getElem_mem (l := M) hi
  have hl := hN _ hm
  obtain ⟨b, o, A', c', e, hb, hc, hs⟩ := h.row (List.getElem?_eq_getElem hi)
  injection e with e
  injection e with e1 e2
  subst e1 e2
  obtain ⟨b2, o2, rfl, hb2, hc2⟩ := hs.num (j := j) (by omega)
  rw [hl] at hc
  refine ⟨hb, b2, o2, c', hb2, hc, ?_⟩
  rw [hc2]
  unfold cF mF
  rw [List.getElem?_eq_getElem hi]
  rfl
/-- the square of a problem: its costs lie below B and are not written; the prices and the matching lie at bu, bv, bp. -/
structure Sq (X : World) (B q bu bv bp : Nat) (A : Option Addr) (c N : Nat) (C : List (List Int)) (U V P : List Int) : Prop where
  fld : Blk X q 127 [.slice A N c, .int .i64 N, .slice (some ⟨bp, 0, none⟩) N N, .slice (some ⟨bu, 0, none⟩) N N, .slice (some ⟨bv, 0, none⟩) N N]
  mat : MatAt X B A C
  cl : C.length = N
  rl : ∀ l ∈ C, l.length = N
  qB : q < B
  uB : B ≤ bu
  vB : B ≤ bv
  pB : B ≤ bp
  uv : bu ≠ bv
  up : bu ≠ bp
  vp : bv ≠ bp
  ru : BlkI X bu 2 U
  rv : BlkI X bv 2 V
  rp : BlkI X bp 3 P
  ul : U.length = N
  vl : V.length = N
  pl : P.length = N
section
variable {X Y : World} {B q bu bv bp : Nat} {A : Option Addr} {c N : Nat} {C : List (List Int)} {U V P : List Int}
theorem Sq.next (h : Sq X B q bu bv bp A c N C U V P) (hb : Below X.heap.size X Y) : Sq Y B q bu bv bp A c N C U V P :=
  { h with fld := h.fld.next hb, mat := h.mat.below (hb.mono (by have := h.ru.lt; have := h.uB; omega)), ru := h.ru.next hb, rv := h.rv.next hb, rp := h.rp.next hb }
theorem Sq.ge (h : Sq X B q bu bv bp A c N C U V P) : B ≤ X.heap.size := by have := h.ru.lt; have := h.uB; omega
theorem Sq.setU (h : Sq X B q bu bv bp A c N C U V P) (j : Nat) (x : Int) : Sq (X.setCell ⟨bu, j, none⟩ (.int .i64 x)) B q bu bv bp A c N C (U.set j x) V P :=
  { h with fld := h.fld.other (by have := h.qB; have := h.uB; omega) _ _, mat := h.mat.below ((Below.refl _ _).setCell (p := ⟨bu, j, none⟩) h.uB _), ru := h.ru.set j x, rv := h.rv.other (fun e => h.uv e.symm) _ _, rp := h.rp.other (fun e => h.up e.symm) _ _, ul := by rw [List.length_set]; exact h.ul }
theorem Sq.setV (h : Sq X B q bu bv bp A c N C U V P) (j : Nat) (x : Int) : Sq (X.setCell ⟨bv, j, none⟩ (.int .i64 x)) B q bu bv bp A c N C U (V.set j x) P :=
  { h with fld := h.fld.other (by have := h.qB; have := h.vB; omega) _ _, mat := h.mat.below ((Below.refl _ _).setCell (p := ⟨bv, j, none⟩) h.vB _), ru := h.ru.other h.uv _ _, rv := h.rv.set j x, rp := h.rp.other (fun e => h.vp e.symm) _ _, vl := by rw [List.length_set]; exact h.vl }
theorem Sq.setP (h : Sq X B q bu bv bp A c N C U V P) (j : Nat) (x : Int) : Sq (X.setCell ⟨bp, j, none⟩ (.int .i64 x)) B q bu bv bp A c N C U V (P.set j x) :=
  { h with fld := h.fld.other (by have := h.qB; have := h.pB; omega) _ _, mat := h.mat.below ((Below.refl _ _).setCell (p := ⟨bp, j, none⟩) h.pB _), ru := h.ru.other h.up _ _, rv := h.rv.other h.vp _ _, rp := h.rp.set j x, pl := by rw [List.length_set]; exact h.pl }
/-- a store into another block at or behind B. -/
theorem Sq.other (h : Sq X B q bu bv bp A c N C U V P) {g : Nat} (hg : B ≤ g) (h1 : bu ≠ g) (h2 : bv ≠ g) (h3 : bp ≠ g) (j : Nat) (v : Value) : Sq (X.setCell ⟨g, j, none⟩ v) B q bu bv bp A c N C U V P :=
  { h with fld := h.fld.other (by have := h.qB; omega) _ _, mat := h.mat.below ((Below.refl _ _).setCell (p := ⟨g, j, none⟩) hg _), ru := h.ru.other h1 _ _, rv := h.rv.other h2 _ _, rp := h.rp.other h3 _ _ }
end
end
end Go.Proofs.YtimijjhdgihobaaDoor
