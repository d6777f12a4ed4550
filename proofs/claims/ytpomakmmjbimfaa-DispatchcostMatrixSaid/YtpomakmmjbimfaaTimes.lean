/-
  shortestpath.travelTime, travelTimes; (*roadgraph.Graph).Edge, enumerate, OutEdges: what each returns.
-/
import Derived.Test.YtpomakmmjbimfaaQueue
namespace Go.Proofs.Ytpomakmmjbimfaa
open Go.RowKit Go.Maps

/-- the weight of an edge under the travel times ts: 2^62 where it is closed. -/
def wAt (ts : List Int) (i : Nat) : Int := match ts[i]? with
  | some z => if 1 ≤ z ∧ z ≤ 1048576 then z else 4611686018427387904
  | none => 4611686018427387904
theorem wAt_range (ts : List Int) (i : Nat) : 1 ≤ wAt ts i ∧ (wAt ts i ≤ 1048576 ∨ wAt ts i = 4611686018427387904) := by
  unfold wAt
  split
  · split
    · omega
    · omega
  · omega

set_option maxRecDepth 100000 in
theorem travelTime_any (A : Option Addr) (c : Nat) (ts : List Int) (i : Nat) (w : World) (B : Nat) (hs : Sl w B A (ts.map (Value.int .i64))) :
    Calls Try.prog 62 #[.slice A ts.length c, .int .i64 (i : Int)] w fun e w' => e = .returned (.int .i64 (wAt ts i)) ∧ w = w' := by
  have HW : Hid (wAt ts i = match ts[i]? with | some z => if 1 ≤ z ∧ z ≤ 1048576 then z else 4611686018427387904 | none => 4611686018427387904) := rfl
  generalize wAt ts i = r at *
  by_cases hlt : i < ts.length
  · obtain ⟨z, hz⟩ : ∃ z, ts[i]? = some z := ⟨ts[i], by simp⟩
    obtain ⟨b, o, rfl, _, hc⟩ := hs.int hz
    rw [hz] at HW
    have d1 : decide ((ts.length : Int) ≤ (i : Int)) = false := by simp; omega
    have d1' : decide (ts.length ≤ i) = false := by simp; omega
    clear hz
    by_cases h1 : z < 1
    · have HR : Hid (r = 4611686018427387904) := by show _ = _; rw [HW.out]; simp only; rw [if_neg (by omega)]
      have d2 : decide (z < 1) = true := by simpa using h1
      go_enter Try.func62, Try.ntmps62
      go_wp2_with fail
      go_ret
      exact ⟨ret_int HR.out.symm, rfl⟩
    · have d2 : decide (z < 1) = false := by simpa using h1
      by_cases h2 : 1048576 < z
      · have HR : Hid (r = 4611686018427387904) := by show _ = _; rw [HW.out]; simp only; rw [if_neg (by omega)]
        have d3 : decide (1048576 < z) = true := by simpa using h2
        go_enter Try.func62, Try.ntmps62
        go_wp2_with fail
        go_ret
        exact ⟨ret_int HR.out.symm, rfl⟩
      · have HR : Hid (r = z) := by show _ = _; rw [HW.out]; simp only; rw [if_pos (by omega)]
        have d3 : decide (1048576 < z) = false := by simpa using h2
        go_enter Try.func62, Try.ntmps62
        go_wp2_with fail
        go_ret
        exact ⟨ret_int HR.out.symm, rfl⟩
  · have HR : Hid (r = 4611686018427387904) := by show _ = _; rw [HW.out, List.getElem?_eq_none (by omega)]
    have d1 : decide ((ts.length : Int) ≤ (i : Int)) = true := by simp; omega
    have d1' : decide (ts.length ≤ i) = true := by simp; omega
    go_enter Try.func62, Try.ntmps62
    go_wp2_with fail
    go_ret
    exact ⟨ret_int HR.out.symm, rfl⟩

theorem make_i64 (w : World) (n : Nat) (h : n ≤ 16777216) : (Instr.makeSlice 25 (.int .i64 n) (.int .i64 n)).run Try.prog w = .ok (.slice (some ⟨w.heap.size, 0, none⟩) n n) (w.alloc (.cells (madeCells #[.int .i64 0] n) 2)) := by
  obtain ⟨i0, hi, hz1, hz2, hz3⟩ := info_parts i64_info
  have := run_makeSlice (P := Try.prog) w 25 2 i0 (.int .i64 0) Try.underlying25 hi hz1 .i64 .i64 n n (by omega) (by omega) (by rw [hz2]; simp; omega) (by rw [hz3]; omega) (by omega)
  rw [hz2] at this
  have e : (Value.int .i64 0).cells = #[Value.int .i64 0] := rfl
  rw [e] at this
  simpa using this
theorem made_own (w : World) (base n : Nat) (hb : base ≤ w.heap.size) (hn : n ≤ 16777216) : OwnI (w.alloc (.cells (madeCells #[.int .i64 0] n) 2)) base 2 (.slice (some ⟨w.heap.size, 0, none⟩) n n) (List.replicate n 0) := by
  have h := World.ownsRow_lit (base := base) (e := 2) (size := 1) w (madeCells #[.int .i64 0] n) n hb (by unfold maxLen; omega) (by simp [size_madeCells])
  unfold OwnI OwnV
  rw [List.length_replicate]
  have e : (madeCells #[.int .i64 0] n).toList = (List.replicate n 0).map (Value.int .i64) := by
    apply List.ext_getElem?
    intro i
    by_cases hi : i < n
    · simp [madeCells, hi, Nat.mod_one]
    · simp [madeCells, hi]
  rw [← e]
  simpa using h

def timesL (ts : List Int) (m : Nat) : List Int := (List.range m).map (wAt ts)
/-- the first k done. -/
def timesK (ts : List Int) (m k : Nat) : List Int := (List.range m).map (fun i => if i < k then wAt ts i else 0)
theorem timesK_zero (ts : List Int) (m : Nat) : timesK ts m 0 = List.replicate m 0 := by
  unfold timesK
  apply List.ext_getElem?
  intro i
  by_cases hi : i < m <;> simp [hi]
theorem timesK_all (ts : List Int) (m : Nat) : timesK ts m m = timesL ts m := by
  unfold timesK timesL
  refine List.map_congr_left fun i hi => ?_
  rw [if_pos (List.mem_range.1 hi)]
theorem timesK_succ {ts : List Int} {m k : Nat} (hk : k < m) : (timesK ts m k).set k (wAt ts k) = timesK ts m (k + 1) := by
  unfold timesK
  apply List.ext_getElem?
  intro i
  rw [List.getElem?_set]
  by_cases e : k = i
  · subst e
    simp [hk]
  · rw [if_neg e]
    by_cases hi : i < m
    · simp only [List.getElem?_map, List.getElem?_range hi, Option.map_some, Option.some.injEq]
      by_cases h1 : i < k
      · rw [if_pos h1, if_pos (by omega)]
      · rw [if_neg h1, if_neg (by omega)]
    · rw [List.getElem?_eq_none (by simp; omega), List.getElem?_eq_none (by simp; omega)]
theorem timesK_len (ts : List Int) (m k : Nat) : (timesK ts m k).length = m := by simp [timesK]

def RetTimes (w : World) (ts : List Int) (m : Nat) (e : Ending) (w' : World) : Prop := ∃ g, e = .returned (.slice (some ⟨g, 0, none⟩) m m) ∧ OwnI w' w.heap.size 2 (.slice (some ⟨g, 0, none⟩) m m) (timesL ts m) ∧ Below w.heap.size w w'
set_option maxRecDepth 100000 in
set_option maxHeartbeats 1000000 in
theorem travelTimes_any (p n : Nat) (E : List EdgeT) (A : Option Addr) (c : Nat) (ts : List Int) (w : World) (hg : GraphAt w w.heap.size p n E) (hE : E.length ≤ 16384) (hs : Sl w w.heap.size A (ts.map (Value.int .i64))) :
    Calls Try.prog 45 #[.pointer (some ⟨p, 0, none⟩), .slice A ts.length c] w (RetTimes w ts E.length) := by
  have hmk := make_i64 w E.length (by omega)
  have hed := edges_any w _ p n E hg
  have HED := Lib.hid hed
  have HS := Lib.hid hs
  have HB := Lib.hid ((Below.refl w.heap.size w).alloc (Nat.le_refl _) (.cells (madeCells #[.int .i64 0] E.length) 2))
  have HO := Lib.hid (made_own w w.heap.size E.length (Nat.le_refl _) (by omega))
  clear hg hed hs
  go_enter Try.func45, Try.ntmps45
  go_wp2_with fail
  refine HED.out.mono ?_
  rintro e w' ⟨rfl, rfl⟩
  go_wp2_with fail
  obtain ⟨m, hm⟩ : ∃ m, m = E.length := ⟨_, rfl⟩
  have HM := Lib.hid hm
  rw [← hm] at HO HB hE ⊢
  obtain ⟨g, hg⟩ : ∃ g, g = w.heap.size := ⟨_, rfl⟩
  have hst : OwnI (w.alloc (.cells (madeCells #[.int .i64 0] m) 2)) w.heap.size 2 (.slice (some ⟨g, 0, none⟩) m m) (timesK ts m 0) := by rw [timesK_zero, hg]; exact HO.out
  have HST := Lib.hid hst
  rw [← hg]
  have hgz : w.heap.size ≤ g := by omega
  clear hmk HO HED hst hm hg
  go_loopw [12] (fun iv wr => ∃ k : Nat, k ≤ m ∧ iv = .int .i64 k ∧ OwnI wr w.heap.size 2 (.slice (some ⟨g, 0, none⟩) m m) (timesK ts m k) ∧ Below w.heap.size w wr) (fun i _ => m - (intOf i).toNat)
  case atStart => exact ⟨0, Nat.zero_le _, rfl, HST.out, HB.out⟩
  case round =>
    obtain ⟨k, hk, rfl, hown, hb⟩ := hrel
    have HOW := Lib.hid hown
    have HBR := Lib.hid hb
    by_cases hlt : k < m
    · obtain ⟨z, hz⟩ : ∃ z, (timesK ts m k)[k]? = some z := ⟨(timesK ts m k)[k]'(by rw [timesK_len]; exact hlt), by simp⟩
      obtain ⟨cz, fz⟩ := hown.read hz
      clear hown hb hz
      go_wp2_with fail
      refine (travelTime_any A c ts k wr _ (HS.out.below HBR.out)).mono ?_
      rintro e w' ⟨rfl, rfl⟩
      go_wp2_with fail
      go_roundw
      case rel =>
        refine ⟨k + 1, by omega, by go_num, ?_, HBR.out.setCell (p := ⟨g, k, none⟩) hgz _⟩
        have := HOW.out.stored k (wAt ts k)
        rw [timesK_succ hlt] at this
        exact this
      case measure => simp [intOf]; omega
    · have hkk : k = m := by omega
      subst hkk
      clear hown hb
      go_wp2_with fail
      go_ret
      obtain rfl := HM.out
      refine ⟨g, rfl, ?_, HBR.out⟩
      rw [← timesK_all]
      exact HOW.out

/-- Edge at a number of an edge. -/
def RetEdge (w : World) (ed : EdgeT) (e : Ending) (w' : World) : Prop := e = .returned (.tuple #[.agg #[.int .i64 ed.frm, .int .i64 ed.to, .int .i64 ed.tm], .bool true]) ∧ Below w.heap.size w w'
set_option maxRecDepth 100000 in
theorem edge_any (p n : Nat) (E : List EdgeT) (w : World) (hg : GraphAt w w.heap.size p n E) (i : Nat) (ed : EdgeT) (hi : E[i]? = some ed) :
    Calls Try.prog 60 #[.pointer (some ⟨p, 0, none⟩), .int .i64 (i : Int)] w (RetEdge w ed) := by
  obtain ⟨A, c, c0, hed, hc1, hc2⟩ := hg.edges
  obtain ⟨b, o, rfl, hb, e0, e1, e2⟩ := hed.at hi
  have hil := (List.getElem?_eq_some_iff.1 hi).1
  have hpz := hg.lt
  have d1 : decide ((i : Int) < 0) = false := by simp
  have d2 : decide ((E.length : Int) ≤ (i : Int)) = false := by simp; omega
  have d2' : decide (E.length ≤ i) = false := by simp; omega
  have hpe : ¬ p = w.heap.size := by omega
  have hbe : ¬ b = w.heap.size := by omega
  obtain ⟨frm, too, tm⟩ := ed
  simp only at e0 e1 e2
  clear hi hed hg
  go_enter Try.func60, Try.ntmps60
  go_wp2_with fail
  refine bodyPost_ret (v := .tuple #[.agg #[.int .i64 frm, .int .i64 too, .int .i64 tm], .bool true]) (by simp [results, Try.results60, go_sem]) rfl ⟨rfl, ?_⟩
  exact (Below.refl _ _).alloc (Nat.le_refl _) _
end Go.Proofs.Ytpomakmmjbimfaa
