/-
  samaritanref35.Small, SameSlots and samaritanlaw35.slots.
  slices.Equal at []int and samaritanref09.Same tell whether two slices of integers hold the same list, for every two lists shorter than 2^62.
  Words for dispatchcost.CostMatrix: what a cell of the matrix is; the memory of the call.
  Plain: what dispatch.Assign chooses (one urgency after the other), and that there is one answer at most. No program in sight.
  dispatch.Format: what it returns.
  samaritanref38.num and Text: what they return.
-/
import Derived.Test.YtimijjhdgihobaaGreatDoorMqt
import Derived.RegionTactic
import Derived.BigRegion
import Derived.Deep.DeepCutAuto
import Derived.Test.YtimijjhdgihobaaGreatDoorMqf
import Derived.BigGuardPart
import Derived.Deep.QuietTactic
import Derived.BigQuiet
import Derived.Deep.Light
import Derived.Test.YtimijjhdgihobaaGreatDoorMqn
import Derived.Test.YtimijjhdgihobaaGreatDoorMqs
import Derived.Test.YtimijjhdgihobaaGreatDoorMqa
import Derived.Test.YtimijjhdgihobaaGreatDoorMqd
import Derived.Test.YtimijjhdgihobaaGreatDoorMqm
import Derived.Test.YtimijjhdgihobaaGreatDoorMqb
import Derived.Deep.RegionHeld3
namespace Go.Proofs.YtimijjhdgihobaaGreatDoor
section
open Go.RowKit Go.Maps

def Small35 (xs : List IncT) (us : List UnitT) (ps : List Plan) : Prop := xs.length ≤ 10 ∧ us.length ≤ 12 ∧ smallP ps = true ∧ ps.length ≤ 12 ∧ ∀ x ∈ xs, x.nodes.length ≤ 20
def RetSmall (w : World) (xs : List IncT) (us : List UnitT) (ps : List Plan) (e : Ending) (w' : World) : Prop := ∃ b, e = .returned (.bool b) ∧ (b = true → Small35 xs us ps) ∧ w = w'

set_option maxRecDepth 100000 in
set_option maxHeartbeats 2000000 in
theorem small35_any (A A1 A2 : Option Addr) (c c1 c2 : Nat) (xs : List IncT) (us : List UnitT) (ps : List Plan) (w : World) (B : Nat) (hi : IncsAt w B A xs) (hwf : ∀ x ∈ xs, IncWf x) (hl : xs.length ≤ 9223372036854775807) (hul : us.length ≤ 9223372036854775807) (hp : Plans w B A2 ps) (hpl : ps.length ≤ 9223372036854775807) :
    Calls Tryz.prog 29 #[.slice A xs.length c, .slice A1 us.length c1, .slice A2 ps.length c2] w (RetSmall w xs us ps) := by
  have HI := Lib.hid hi
  have HWF := Lib.hid hwf
  have HSP := Lib.hid (small_any A2 c2 ps w B hp hpl)
  clear hi hwf hp
  go_enter Tryz.func29, Tryz.ntmps29
  go_wp2_with fail
  go_loop [7] (fun i => ∃ k : Nat, k ≤ xs.length ∧ i = .int .i64 k ∧ ∀ x ∈ xs.take k, x.nodes.length ≤ 20) (fun i => xs.length - (intOf i).toNat)
  case atStart => exact ⟨0, Nat.zero_le _, rfl, by simp⟩
  case round =>
    obtain ⟨k, hk, rfl, hall⟩ := hrel
    have HALL := Lib.hid hall
    clear hall
    by_cases hlt : k < xs.length
    · obtain ⟨x, hx⟩ : ∃ x, xs[k]? = some x := ⟨xs[k], by simp⟩
      obtain ⟨b, o, rfl, _, _, _, h2, h3, _, _, h6, h7, _⟩ := inc_at HI.out hx
      have hwx := HWF.out x (List.mem_of_getElem? hx)
      have g1 := hwx.nlen
      have g2 := hwx.ncap
      have g3 := hwx.code
      have g4 := hwx.cl
      have g5 := hwx.ul
      have HX := Lib.hid hx
      have hkj : (k : Int) < (xs.length : Int) := by omega
      clear hx hwx
      by_cases q1 : 20 < x.nodes.length
      · have d1 : decide ((20 : Int) < (x.nodes.length : Int)) = true := decide_eq_true (by omega)
        go_wp2_with fail
        go_ret
        exact ⟨false, rfl, (fun h => by cases h), rfl⟩
      · have d1 : decide ((20 : Int) < (x.nodes.length : Int)) = false := decide_eq_false (by omega)
        by_cases q2 : 100 < x.code.size
        · have d2 : decide ((100 : Int) < (x.code.size : Int)) = true := decide_eq_true (by omega)
          go_wp2_with fail
          go_ret
          exact ⟨false, rfl, (fun h => by cases h), rfl⟩
        · have d2 : decide ((100 : Int) < (x.code.size : Int)) = false := decide_eq_false (by omega)
          by_cases q3 : 40 < x.cl
          · have d3 : decide ((40 : Int) < (x.cl : Int)) = true := decide_eq_true (by omega)
            go_wp2_with fail
            go_ret
            exact ⟨false, rfl, (fun h => by cases h), rfl⟩
          · have d3 : decide ((40 : Int) < (x.cl : Int)) = false := decide_eq_false (by omega)
            by_cases q4 : 40 < x.ul
            · have d4 : decide ((40 : Int) < (x.ul : Int)) = true := decide_eq_true (by omega)
              go_wp2_with fail
              go_ret
              exact ⟨false, rfl, (fun h => by cases h), rfl⟩
            · have d4 : decide ((40 : Int) < (x.ul : Int)) = false := decide_eq_false (by omega)
              go_wp2_with fail
              go_round
              case rel =>
                refine ⟨k + 1, by omega, by go_num, ?_⟩
                rw [take_snoc' HX.out]
                intro y hy
                rcases List.mem_append.1 hy with hy | hy
                · exact HALL.out y hy
                · simp at hy
                  subst hy
                  omega
              case measure => simp [intOf]; omega
    · have hkk : k = xs.length := by omega
      subst hkk
      by_cases q1 : xs.length ≤ 10
      · have d1 : decide ((xs.length : Int) ≤ 10) = true := decide_eq_true (by omega)
        by_cases q2 : us.length ≤ 12
        · have d2 : decide ((us.length : Int) ≤ 12) = true := decide_eq_true (by omega)
          go_wp2_with fail
          refine HSP.out.mono ?_
          rintro e w' ⟨rfl, rfl⟩
          cases hs : smallP ps
          · clear hs
            go_wp2_with fail
            go_ret
            exact ⟨false, rfl, (fun h => by cases h), rfl⟩
          · have HS := Lib.hid hs
            clear hs
            go_wp2_with fail
            go_ret
            refine ⟨_, rfl, fun h => ⟨q1, q2, HS.out, ?_, ?_⟩, rfl⟩
            · simp at h
              omega
            · have := HALL.out
              rw [List.take_length] at this
              exact this
        · have d2 : decide ((us.length : Int) ≤ 12) = false := decide_eq_false (by omega)
          go_wp2_with fail
          go_ret
          exact ⟨false, rfl, (fun h => by cases h), rfl⟩
      · have d1 : decide ((xs.length : Int) ≤ 10) = false := decide_eq_false (by omega)
        go_wp2_with fail
        go_ret
        exact ⟨false, rfl, (fun h => by cases h), rfl⟩

/-- conversion to the reference's slots: the same records. -/
def RetConv (w : World) (ss : List SlotT) (e : Ending) (w' : World) : Prop := ∃ (A : Option Addr) (c : Nat), e = .returned (.slice A ss.length c) ∧ SlotsAt w' w'.heap.size A ss ∧ Below w.heap.size w w'
structure TwoBoxes (w : World) (bx by_ : Nat) (s t : SlotT) (wx : World) : Prop where
  x0 : wx.cell? ⟨bx, 0, none⟩ = some (.int .i64 s.inc)
  x1 : wx.cell? ⟨bx, 1, none⟩ = some (.int .i64 s.urg)
  x2 : wx.cell? ⟨bx, 2, none⟩ = some (.int .i64 s.since)
  x3 : wx.cell? ⟨bx, 3, none⟩ = some (.int .i64 s.kind)
  x4 : wx.cell? ⟨bx, 4, none⟩ = some (.slice s.nA s.nodes.length s.nc)
  y0 : wx.cell? ⟨by_, 0, none⟩ = some (.int .i64 t.inc)
  y1 : wx.cell? ⟨by_, 1, none⟩ = some (.int .i64 t.urg)
  y2 : wx.cell? ⟨by_, 2, none⟩ = some (.int .i64 t.since)
  y3 : wx.cell? ⟨by_, 3, none⟩ = some (.int .i64 t.kind)
  y4 : wx.cell? ⟨by_, 4, none⟩ = some (.slice t.nA t.nodes.length t.nc)
  below : Below w.heap.size w wx

def objS (s : SlotT) : Obj := .cells #[.int .i64 s.inc, .int .i64 s.urg, .int .i64 s.since, .int .i64 s.kind, .slice s.nA s.nodes.length s.nc] 63
theorem two_boxes {w wr : World} (hb : Below w.heap.size w wr) (s t : SlotT) : TwoBoxes w wr.heap.size (wr.heap.size + 1) s t ((wr.alloc (objS s)).alloc (objS t)).drew := by
  have ka : ∀ j, ((wr.alloc (objS s)).alloc (objS t)).drew.cell? ⟨wr.heap.size, j, none⟩ = (wr.alloc (objS s)).cell? ⟨wr.heap.size, j, none⟩ := fun j => World.cell?_alloc_lt _ _ _ (by simp)
  have kb : ∀ j, ((wr.alloc (objS s)).alloc (objS t)).drew.cell? ⟨wr.heap.size + 1, j, none⟩ = ((wr.alloc (objS s)).alloc (objS t)).cell? ⟨wr.heap.size + 1, j, none⟩ := fun j => rfl
  refine ⟨?_, ?_, ?_, ?_, ?_, ?_, ?_, ?_, ?_, ?_, ((hb.alloc hb.size _).alloc (by have := hb.size; simp; omega) _).drew⟩
  · rw [ka, objS, World.cell?_alloc_at (hn := rfl)]; rfl
  · rw [ka, objS, World.cell?_alloc_at (hn := rfl)]; rfl
  · rw [ka, objS, World.cell?_alloc_at (hn := rfl)]; rfl
  · rw [ka, objS, World.cell?_alloc_at (hn := rfl)]; rfl
  · rw [ka, objS, World.cell?_alloc_at (hn := rfl)]; rfl
  · rw [kb, objS, objS, World.cell?_alloc_at (hn := by simp)]; rfl
  · rw [kb, objS, objS, World.cell?_alloc_at (hn := by simp)]; rfl
  · rw [kb, objS, objS, World.cell?_alloc_at (hn := by simp)]; rfl
  · rw [kb, objS, objS, World.cell?_alloc_at (hn := by simp)]; rfl
  · rw [kb, objS, objS, World.cell?_alloc_at (hn := by simp)]; rfl
theorem TwoBoxes.swap {w wx : World} {bx by_ : Nat} {s t : SlotT} (h : TwoBoxes w bx by_ s t wx) : TwoBoxes w by_ bx t s wx := ⟨h.y0, h.y1, h.y2, h.y3, h.y4, h.x0, h.x1, h.x2, h.x3, h.x4, h.below⟩
end
section
open Go.RowKit Go.Maps

def SameI (zs ys : List Int) (w : World) (e : Ending) (w' : World) : Prop := e = .returned (.bool (decide (zs = ys))) ∧ ∃ n, w' = w.drewN n

theorem eq_of_takes {α : Type} {zs ys : List α} (hl : zs.length = ys.length) (h : zs.take zs.length = ys.take zs.length) : zs = ys := by
  rw [List.take_length] at h
  rw [h, hl, List.take_length]

set_option maxRecDepth 100000 in
theorem equal_any (A C : Option Addr) (c d : Nat) (zs ys : List Int) (w : World) (B B' : Nat) (ha : Sl w B A (zs.map (Value.int .i64))) (hb : Sl w B' C (ys.map (Value.int .i64)))
    (na : zs.length ≤ 4611686018427387904) :
    Calls Tryz.prog 67 #[.slice A zs.length c, .slice C ys.length d] w (SameI zs ys w) := by
  by_cases hl : zs.length = ys.length
  · have hlb : ((zs.length : Int) == (ys.length : Int)) = true := by simp [hl]
    have hlb2 : ((zs.length : Int) != (ys.length : Int)) = false := by simp [hl]
    have HL := Lib.hid hl
    clear hl
    go_enter Tryz.func67, Tryz.ntmps67
    go_wp2_with fail
    go_loopw [13] (fun i wr => ∃ k : Nat, k ≤ zs.length ∧ i = .int .i64 k ∧ zs.take k = ys.take k ∧ ∃ n, wr = w.drewN n) (fun i _ => zs.length - (intOf i).toNat)
    case atStart => exact ⟨0, Nat.zero_le _, rfl, rfl, 0, rfl⟩
    case round =>
      obtain ⟨k, hk, rfl, htk, n, rfl⟩ := hrel
      have HTK := Lib.hid htk
      clear htk
      by_cases hlt : k < zs.length
      · have hlt2 : k < ys.length := by rw [← HL.out]; exact hlt
        obtain ⟨z, hz⟩ : ∃ z, zs[k]? = some z := ⟨zs[k], by simp⟩
        obtain ⟨y, hy⟩ : ∃ y, ys[k]? = some y := ⟨ys[k], by simp⟩
        obtain ⟨b, o, rfl, hbb, hcell⟩ := ha.int hz
        obtain ⟨b2, o2, rfl, hbb2, hcell2⟩ := hb.int hy
        by_cases hzy : z = y
        · subst hzy
          have hb1 : (z != z) = false := by simp
          have HT2 : Hid (zs.take (k + 1) = ys.take (k + 1)) := by show _ = _; rw [take_snoc' hz, take_snoc' hy, HTK.out]
          clear hz hy
          go_wp2_with fail
          go_quiet (fail)
          go_wp2_with fail
          go_roundw
          case rel => exact ⟨k + 1, by omega, by go_num, HT2.out, _, rfl⟩
          case measure => simp [intOf]; omega
        · have hb1 : (z != y) = true := by simp [hzy]
          have hb2 : (z == y) = false := by simp [hzy]
          have HNE : Hid (decide (zs = ys) = false) := by
            show _ = _
            rw [decide_eq_false_iff_not]
            intro e
            rw [e] at hz
            exact hzy (Option.some.inj (hz.symm.trans hy))
          clear hz hy
          go_wp2_with fail
          go_quiet (fail)
          go_wp2_with fail
          go_ret
          exact ⟨ret_bool HNE.out.symm, n + nq, by rw [World.drewN_drewN]⟩
      · have hkk : k = zs.length := by omega
        subst hkk
        have HEQ : Hid (decide (zs = ys) = true) := by
          show _ = _
          rw [decide_eq_true_iff]
          exact eq_of_takes HL.out HTK.out
        go_wp2_with fail
        go_ret
        exact ⟨ret_bool HEQ.out.symm, _, rfl⟩
  · have hlb : ((zs.length : Int) == (ys.length : Int)) = false := by simp; omega
    have hlb2 : ((zs.length : Int) != (ys.length : Int)) = true := by simp; omega
    have HNE : Hid (decide (zs = ys) = false) := by
      show _ = _
      rw [decide_eq_false_iff_not]
      intro e
      exact hl (by rw [e])
    clear hl
    go_enter Tryz.func67, Tryz.ntmps67
    go_wp2_with fail
    go_ret
    exact ⟨ret_bool HNE.out.symm, 0, rfl⟩
end
section
open Go.RowKit Go.Maps

/-- t is the travel time from z to the nodes zs. -/
def TT (n : Nat) (E : List EdgeT) (ts : List Int) (z : Int) (zs : List Int) (t : Int) : Prop := ∃ D, Fin35 n (fun s => (s : Int) ∈ [z] ∧ s < n) E (timesL ts E.length) D ∧ t = farL D zs
theorem TT.unique {n : Nat} {E : List EdgeT} {ts : List Int} {z : Int} {zs : List Int} {t t' : Int} (h : TT n E ts z zs t) (h' : TT n E ts z zs t') : t = t' := by
  obtain ⟨D, h1, rfl⟩ := h
  obtain ⟨D', h2, rfl⟩ := h'
  rw [h1.unique (okW_times _ _) h2]
def CostC (n : Nat) (E : List EdgeT) (ts : List Int) (s : SlotT) (u : UnitT) (c : Int) : Prop := (satB u.kind s.kind = true → TT n E ts u.node s.nodes c) ∧ (satB u.kind s.kind = false → c = 4611686018427387904)
theorem CostC.unique {n : Nat} {E : List EdgeT} {ts : List Int} {s : SlotT} {u : UnitT} {c c' : Int} (h : CostC n E ts s u c) (h' : CostC n E ts s u c') : c = c' := by
  cases hs : satB u.kind s.kind
  · rw [h.2 hs, h'.2 hs]
  · exact (h.1 hs).unique (h'.1 hs)
def RowP (n : Nat) (E : List EdgeT) (ts : List Int) (us : List UnitT) (s : SlotT) (row : List Int) (k : Nat) : Prop := row.length = us.length ∧ ∀ (j : Nat) (u : UnitT) (c : Int), j < k → us[j]? = some u → row[j]? = some c → CostC n E ts s u c

/-- a row of cells is no map. -/
theorem own_no_map {α : Type} {f : α → Value} {P : Program} {k : TypeId} {w : World} {base b m : Nat} {e : TypeId} {v : Value} {zs : List α} {F : Int → Option Value} (h : OwnV f w base e v zs) (hm : MapV P k w b m F) : v.ownBlock ≠ some b := fun hv => by
  obtain ⟨_, h2⟩ := h
  obtain ⟨es, clock, hb, _⟩ := hm
  rcases h2 with ⟨rfl, _⟩ | ⟨g', cap, cur, rfl, _, hh, _⟩
  · cases hv
  · simp only [Value.ownBlock, Option.some.injEq] at hv
    subst hv
    rw [hb] at hh
    cases hh
theorem own_kept_of {α : Type} {f : α → Value} {w w' : World} {base : Nat} {e : TypeId} {v : Value} {zs : List α} {b : Nat} (h : OwnV f w base e v zs) (hg : w.grownBy w' (some b)) (hne : v.ownBlock ≠ some b) : OwnV f w' base e v zs := World.ownsRow.kept h hg (.inr hne)

/-- the memory of the call: the matrix (its rows up to k done), and the distances that are known. 'ex': the block of the row that is being filled. -/
structure CM (w : World) (n : Nat) (E : List EdgeT) (ts : List Int) (ss : List SlotT) (us : List UnitT) (go b1 : Nat) (vs : List Value) (F1 : Int → Option Value) (k q : Nat) (ex : Option Nat) (wr : World) : Prop where
  outer : OwnV (fun v : Value => v) wr w.heap.size 25 (.slice (some ⟨go, 0, none⟩) ss.length ss.length) vs
  rows : ∀ (i : Nat) (s : SlotT) (v : Value), i < k → ss[i]? = some s → vs[i]? = some v → ∃ g row, v = .slice (some ⟨g, 0, none⟩) us.length us.length ∧ OwnI wr w.heap.size 2 v row ∧ RowP n E ts us s row us.length ∧ ex ≠ some g
  map : MapV Tryz.prog 3 wr b1 q F1
  dist : ∀ (z : Int) (v : Value), F1 z = some v → ∃ g D, v = .slice (some ⟨g, 0, none⟩) n n ∧ OwnI wr w.heap.size 2 v D ∧ Fin35 n (fun s => (s : Int) ∈ [z] ∧ s < n) E (timesL ts E.length) D ∧ ex ≠ some g
  below : Below w.heap.size w wr

section
variable {w wr w' : World} {n : Nat} {E : List EdgeT} {ts : List Int} {ss : List SlotT} {us : List UnitT} {go b1 : Nat} {vs : List Value} {F1 : Int → Option Value} {k q : Nat} {ex : Option Nat}
theorem CM.kept_new (h : CM w n E ts ss us go b1 vs F1 k q ex wr) (hb : Below wr.heap.size wr w') : CM w n E ts ss us go b1 vs F1 k q ex w' := by
  refine ⟨OwnV.kept_new h.outer hb, fun i s v hi hs hv => ?_, h.map.same (hb.block _ h.map.lt), fun z v hz => ?_, h.below.trans (hb.mono h.below.size)⟩
  · obtain ⟨g, row, e, h1, h2, h3⟩ := h.rows i s v hi hs hv
    exact ⟨g, row, e, OwnV.kept_new h1 hb, h2, h3⟩
  · obtain ⟨g, D, e, h1, h2, h3⟩ := h.dist z v hz
    exact ⟨g, D, e, OwnV.kept_new h1 hb, h2, h3⟩
/-- another map is written. -/
theorem CM.otherMap (h : CM w n E ts ss us go b1 vs F1 k q ex wr) {P : Program} {kt : TypeId} {b2 m : Nat} {F2 : Int → Option Value} (hm : MapV P kt wr b2 m F2) (hne : b2 ≠ b1) (hB : w.heap.size ≤ b2) (hg : wr.grownBy w' (some b2)) : CM w n E ts ss us go b1 vs F1 k q ex w' := by
  refine ⟨own_kept_of h.outer hg (own_no_map h.outer hm), fun i s v hi hs hv => ?_, h.map.same (hg.block b1 h.map.lt (fun e => by injection e with e; exact hne e.symm)), fun z v hz => ?_, h.below.grown hg h.below.size (fun j hj => by cases hj; exact hB)⟩
  · obtain ⟨g, row, e, h1, h2, h3⟩ := h.rows i s v hi hs hv
    exact ⟨g, row, e, own_kept_of h1 hg (own_no_map h1 hm), h2, h3⟩
  · obtain ⟨g, D, e, h1, h2, h3⟩ := h.dist z v hz
    exact ⟨g, D, e, own_kept_of h1 hg (own_no_map h1 hm), h2, h3⟩
/-- a distance more. -/
theorem CM.put (h : CM w n E ts ss us go b1 vs F1 k q ex wr) (hB : w.heap.size ≤ b1) (hq : q < 9223372036854775807) {z : Int} (hwf : (Lit.int .i64 z).wf = true) {g : Nat} {D : List Int} (hD : OwnI wr w.heap.size 2 (.slice (some ⟨g, 0, none⟩) n n) D) (hf : Fin35 n (fun s => (s : Int) ∈ [z] ∧ s < n) E (timesL ts E.length) D) (hx : ex ≠ some g) :
    ∃ w', (Instr.mapUpdate 122 (.map (some b1)) (.int .i64 z) (.slice (some ⟨g, 0, none⟩) n n)).run Tryz.prog wr = .ok () w' ∧ CM w n E ts ss us go b1 vs (updV F1 z (.slice (some ⟨g, 0, none⟩) n n)) k (q + 1) ex w' ∧ wr.grownBy w' (some b1) := by
  obtain ⟨w', hr, hm, hg⟩ := h.map.put Tryz.underlying3 Tryz.underlying122 hq hwf (.slice (some ⟨g, 0, none⟩) n n)
  refine ⟨w', hr, ⟨own_kept_of h.outer hg (own_no_map h.outer h.map), fun i s v hi hs hv => ?_, hm, fun y v hy => ?_, h.below.grown hg h.below.size (fun j hj => by cases hj; exact hB)⟩, hg⟩
  · obtain ⟨g', row, e, h1, h2, h3⟩ := h.rows i s v hi hs hv
    exact ⟨g', row, e, own_kept_of h1 hg (own_no_map h1 h.map), h2, h3⟩
  · unfold updV at hy
    split at hy
    · rename_i e
      subst e
      cases hy
      exact ⟨g, D, rfl, own_kept_of hD hg (own_no_map hD h.map), hf, hx⟩
    · obtain ⟨g', D', e, h1, h2, h3⟩ := h.dist y v hy
      exact ⟨g', D', e, own_kept_of h1 hg (own_no_map h1 h.map), h2, h3⟩
/-- blocks of rows of different element types are different. -/
theorem own_other {α β : Type} {f : α → Value} {f' : β → Value} {base base' : Nat} {e e' : TypeId} {v u : Value} {zs : List α} {ys : List β} (h : OwnV f wr base e v zs) (h' : OwnV f' wr base' e' u ys) (hne : e ≠ e') {g : Nat} (hu : u.ownBlock = some g) : v.ownBlock ≠ some g := fun hv => by
  obtain ⟨_, h2⟩ := h'
  rcases h2 with ⟨rfl, _⟩ | ⟨g', cap, cur, rfl, _, hh, _⟩
  · cases hu
  · simp only [Value.ownBlock, Option.some.injEq] at hu
    subst hu
    exact own_type h hv ⟨_, hh⟩ hne
theorem map_setCell {P : Program} {kt : TypeId} {b m : Nat} {F : Int → Option Value} (h : MapV P kt wr b m F) {a : Addr} (hne : b ≠ a.block) (v : Value) : MapV P kt (wr.setCell a v) b m F := h.same (Below.heap_setCell wr a v b hne)
/-- the row k is laid. -/
theorem CM.setOuter (h : CM w n E ts ss us go b1 vs F1 k q none wr) {gc : Nat} {row : List Int} (hr : OwnI wr w.heap.size 2 (.slice (some ⟨gc, 0, none⟩) us.length us.length) row) (hfresh : ∀ (u : Value) (zs : List Int), OwnI wr w.heap.size 2 u zs → (∃ z, F1 z = some u) ∨ (∃ i, i < k ∧ vs[i]? = some u) → u.ownBlock ≠ some gc) :
    CM w n E ts ss us go b1 (vs.set k (.slice (some ⟨gc, 0, none⟩) us.length us.length)) F1 k q (some gc) (wr.setCell ⟨go, k, none⟩ (.slice (some ⟨gc, 0, none⟩) us.length us.length)) ∧ OwnI (wr.setCell ⟨go, k, none⟩ (.slice (some ⟨gc, 0, none⟩) us.length us.length)) w.heap.size 2 (.slice (some ⟨gc, 0, none⟩) us.length us.length) row := by
  have hgo : w.heap.size ≤ go := OwnV.ge_base h.outer go rfl
  have key : ∀ (u : Value) (zs : List Int), OwnI wr w.heap.size 2 u zs → OwnI (wr.setCell ⟨go, k, none⟩ (.slice (some ⟨gc, 0, none⟩) us.length us.length)) w.heap.size 2 u zs := fun u zs hu => OwnV.setCell_other hu (a := ⟨go, k, none⟩) (own_other hu h.outer (by decide) rfl) _
  refine ⟨⟨h.outer.stored k _, fun i s v hi hs hv => ?_, map_setCell h.map (a := ⟨go, k, none⟩) (fun e => own_no_map h.outer h.map (by rw [e]; rfl)) _, fun z v hz => ?_, h.below.setCell (p := ⟨go, k, none⟩) hgo _⟩, key _ _ hr⟩
  · rw [List.getElem?_set_ne (by omega)] at hv
    obtain ⟨g, row', e, h1, h2, _⟩ := h.rows i s v hi hs hv
    refine ⟨g, row', e, key _ _ h1, h2, fun q => hfresh v row' h1 (.inr ⟨i, hi, hv⟩) ?_⟩
    rw [e]
    exact q.symm
  · obtain ⟨g, D, e, h1, h2, _⟩ := h.dist z v hz
    refine ⟨g, D, e, key _ _ h1, h2, fun q => hfresh v D h1 (.inl ⟨z, hz⟩) ?_⟩
    rw [e]
    exact q.symm
/-- a cell of the row is filled. -/
theorem CM.setRow {gc : Nat} (h : CM w n E ts ss us go b1 vs F1 k q (some gc) wr) {row : List Int} (hr : OwnI wr w.heap.size 2 (.slice (some ⟨gc, 0, none⟩) us.length us.length) row) (j : Nat) (c : Int) :
    CM w n E ts ss us go b1 vs F1 k q (some gc) (wr.setCell ⟨gc, j, none⟩ (.int .i64 c)) ∧ OwnI (wr.setCell ⟨gc, j, none⟩ (.int .i64 c)) w.heap.size 2 (.slice (some ⟨gc, 0, none⟩) us.length us.length) (row.set j c) := by
  have hgc : w.heap.size ≤ gc := OwnV.ge_base hr gc rfl
  refine ⟨⟨OwnV.setCell_other h.outer (a := ⟨gc, j, none⟩) (own_other h.outer hr (by decide) rfl) _, fun i s v hi hs hv => ?_, map_setCell h.map (a := ⟨gc, j, none⟩) (fun e => own_no_map hr h.map (by rw [e]; rfl)) _, fun z v hz => ?_, h.below.setCell (p := ⟨gc, j, none⟩) hgc _⟩, hr.stored j c⟩
  · obtain ⟨g, row', e, h1, h2, h3⟩ := h.rows i s v hi hs hv
    refine ⟨g, row', e, OwnV.setCell_other h1 (a := ⟨gc, j, none⟩) (fun q => h3 ?_) _, h2, h3⟩
    rw [e] at q
    exact q.symm
  · obtain ⟨g, D, e, h1, h2, h3⟩ := h.dist z v hz
    refine ⟨g, D, e, OwnV.setCell_other h1 (a := ⟨gc, j, none⟩) (fun q => h3 ?_) _, h2, h3⟩
    rw [e] at q
    exact q.symm
theorem CM.row_done {gc : Nat} (h : CM w n E ts ss us go b1 vs F1 k q (some gc) wr) {row : List Int} (hr : OwnI wr w.heap.size 2 (.slice (some ⟨gc, 0, none⟩) us.length us.length) row) {s : SlotT} (hs : ss[k]? = some s) (hv : vs[k]? = some (.slice (some ⟨gc, 0, none⟩) us.length us.length)) (hp : RowP n E ts us s row us.length) : CM w n E ts ss us go b1 vs F1 (k + 1) q none wr := by
  refine ⟨h.outer, fun i s' v hi hs' hv' => ?_, h.map, fun z v hz => ?_, h.below⟩
  · by_cases c : i < k
    · obtain ⟨g, row', e, h1, h2, _⟩ := h.rows i s' v c hs' hv'
      exact ⟨g, row', e, h1, h2, by simp⟩
    · obtain rfl : i = k := by omega
      rw [hs] at hs'
      cases hs'
      rw [hv] at hv'
      cases hv'
      exact ⟨gc, row, rfl, hr, hp, by simp⟩
  · obtain ⟨g, D, e, h1, h2, _⟩ := h.dist z v hz
    exact ⟨g, D, e, h1, h2, by simp⟩
end
end
section
structure ChoT where
  inc : Int
  kind : Int
  unit : Int
  time : Int
/-- what it costs to send u to s. -/
def CostS (n : Nat) (E : List EdgeT) (ts : List Int) (s : SlotP) (u : UnitT) (c : Int) : Prop := (satB u.kind s.kind = true → TT n E ts u.node s.nodes c) ∧ (satB u.kind s.kind = false → c = 4611686018427387904)
theorem CostS.unique {n : Nat} {E : List EdgeT} {ts : List Int} {s : SlotP} {u : UnitT} {c c' : Int} (h : CostS n E ts s u c) (h' : CostS n E ts s u c') : c = c' := by
  cases hs : satB u.kind s.kind
  · rw [h.2 hs, h'.2 hs]
  · exact (h.1 hs).unique (h'.1 hs)
theorem CostC.strip {n : Nat} {E : List EdgeT} {ts : List Int} {s : SlotT} {u : UnitT} {c : Int} (h : CostC n E ts s u c) : CostS n E ts (strip s) u c := h
/-- the slots of an urgency that are considered. -/
def slotsU (xs : List IncT) (us : List UnitT) (ps : List Plan) (urg : Int) : List SlotP := ((slotsL xs us ps).filter (fun s => s.urg == urg)).take 64
/-- u can reach one of the slots. -/
def ReachP (n : Nat) (E : List EdgeT) (ts : List Int) (ss : List SlotP) (u : UnitT) : Prop := ∃ s ∈ ss, ∃ t, CostS n E ts s u t ∧ t ≠ 4611686018427387904
open Classical in
/-- the units that are considered. -/
noncomputable def candU (n : Nat) (E : List EdgeT) (ts : List Int) (ss : List SlotP) (us : List UnitT) : List UnitT := (us.filter (fun u => decide (ReachP n E ts ss u))).take 64
/-- the costs. -/
structure MatR (n : Nat) (E : List EdgeT) (ts : List Int) (ss : List SlotP) (us : List UnitT) (M : List (List Int)) : Prop where
  len : M.length = ss.length
  row : ∀ (i : Nat) (s : SlotP) (r : List Int), ss[i]? = some s → M[i]? = some r → r.length = us.length ∧ ∀ (j : Nat) (u : UnitT) (c : Int), us[j]? = some u → r[j]? = some c → CostS n E ts s u c
theorem MatR.unique {n : Nat} {E : List EdgeT} {ts : List Int} {ss : List SlotP} {us : List UnitT} {M M' : List (List Int)} (h : MatR n E ts ss us M) (h' : MatR n E ts ss us M') : M = M' := by
  refine List.ext_getElem (h.len.trans h'.len.symm) fun i h1 h2 => ?_
  have hs : ss[i]? = some (ss[i]'(by rw [← h.len]; exact h1)) := List.getElem?_eq_getElem _
  obtain ⟨l1, c1⟩ := h.row i _ _ hs (List.getElem?_eq_getElem h1)
  obtain ⟨l2, c2⟩ := h'.row i _ _ hs (List.getElem?_eq_getElem h2)
  refine List.ext_getElem (l1.trans l2.symm) fun j k1 k2 => ?_
  have hu : us[j]? = some (us[j]'(by rw [← l1]; exact k1)) := List.getElem?_eq_getElem _
  exact (c1 j _ _ hu (List.getElem?_eq_getElem k1)).unique (c2 j _ _ hu (List.getElem?_eq_getElem k2))
theorem MatR.rows {n : Nat} {E : List EdgeT} {ts : List Int} {ss : List SlotP} {us : List UnitT} {M : List (List Int)} (h : MatR n E ts ss us M) : ∀ l ∈ M, l.length = us.length := by
  intro l hl
  obtain ⟨i, hi, e⟩ := List.getElem_of_mem hl
  have hs : ss[i]? = some (ss[i]'(by rw [← h.len]; exact hi)) := List.getElem?_eq_getElem _
  exact (h.row i _ l hs (by rw [List.getElem?_eq_getElem hi, e])).1
/-- the choice of slot i. -/
def choP (ss : List SlotP) (us : List UnitT) (M : List (List Int)) (m : List Int) (i : Nat) : Option ChoT :=
  if 0 ≤ mF m i then (match ss[i]?, us[(mF m i).toNat]? with
    | some s, some u => some ⟨s.inc, s.kind, u.id, cF M i (mF m i).toNat⟩
    | _, _ => none) else none
def choTo (ss : List SlotP) (us : List UnitT) (M : List (List Int)) (m : List Int) (k : Nat) : List ChoT := (List.range k).filterMap (choP ss us M m)
theorem choTo_succ (ss : List SlotP) (us : List UnitT) (M : List (List Int)) (m : List Int) (k : Nat) : choTo ss us M m (k + 1) = choTo ss us M m k ++ (choP ss us M m k).toList := by
  unfold choTo
  rw [List.range_succ, List.filterMap_append]
  congr 1
/-- a unit is sent. -/
def sendU (us : List UnitT) (c : ChoT) : List UnitT := us.map (fun u => if u.id = c.unit then { u with state := 2, inc := c.inc } else u)
theorem sendU_len (us : List UnitT) (c : ChoT) : (sendU us c).length = us.length := by simp [sendU]
/-- one urgency. -/
def StepR (n : Nat) (E : List EdgeT) (ts : List Int) (xs : List IncT) (ps : List Plan) (rsv urg : Int) (us : List UnitT) (cs : List ChoT) (us' : List UnitT) : Prop :=
  ∃ M m, MatR n E ts (slotsU xs us ps urg) (candU n E ts (slotsU xs us ps urg) (spareR (effR urg rsv) us us.length)) M ∧ m.length = (slotsU xs us ps urg).length ∧
    Bst (cF M) (slotsU xs us ps urg).length (candU n E ts (slotsU xs us ps urg) (spareR (effR urg rsv) us us.length)).length (mF m) ∧
    cs = choTo (slotsU xs us ps urg) (candU n E ts (slotsU xs us ps urg) (spareR (effR urg rsv) us us.length)) M m (slotsU xs us ps urg).length ∧ us' = cs.foldl sendU us
section
variable {n : Nat} {E : List EdgeT} {ts : List Int} {xs : List IncT} {ps : List Plan} {rsv urg : Int}
theorem StepR.unique {us us1 us2 : List UnitT} {cs1 cs2 : List ChoT} (h : StepR n E ts xs ps rsv urg us cs1 us1) (h' : StepR n E ts xs ps rsv urg us cs2 us2) : cs1 = cs2 ∧ us1 = us2 := by
  obtain ⟨M, m, a1, a2, a3, a4, a5⟩ := h
  obtain ⟨M', m', b1, b2, b3, b4, b5⟩ := h'
  obtain rfl := a1.unique b1
  obtain rfl := Bst.list a3 b3 a2 b2
  have e : cs1 = cs2 := a4.trans b4.symm
  subst e
  exact ⟨rfl, a5.trans b5.symm⟩
theorem StepR.none {us : List UnitT} (h : slotsU xs us ps urg = []) : StepR n E ts xs ps rsv urg us [] us := by
  refine ⟨[], [], ?_, ?_, ?_, ?_, rfl⟩
  · rw [h]
    exact ⟨rfl, fun i s r hs => by simp at hs⟩
  · rw [h]
    rfl
  · rw [h]
    refine ⟨⟨fun i hi => absurd hi (by simp), fun i j hi => absurd hi (by simp)⟩, fun x _ hb => ?_⟩
    rcases hb with hb | ⟨_, hb | ⟨_, i, hi, _⟩⟩
    · exact absurd hb (by simp [cnA, sumTo])
    · exact absurd hb (by simp [smA, sumTo])
    · exact absurd hi (by simp)
  · rw [h]
    rfl
/-- one urgency after the other. -/
def RunR (n : Nat) (E : List EdgeT) (ts : List Int) (xs : List IncT) (ps : List Plan) (rsv : Int) : List Int → List UnitT → List ChoT → List UnitT → Prop
  | [], us, cs, us' => cs = [] ∧ us' = us
  | g :: r, us, cs, us' => ∃ c1 u1 c2, StepR n E ts xs ps rsv g us c1 u1 ∧ RunR n E ts xs ps rsv r u1 c2 us' ∧ cs = c1 ++ c2
theorem RunR.unique : ∀ {l : List Int} {us us1 us2 : List UnitT} {cs1 cs2 : List ChoT}, RunR n E ts xs ps rsv l us cs1 us1 → RunR n E ts xs ps rsv l us cs2 us2 → cs1 = cs2 ∧ us1 = us2
  | [], _, _, _, _, _, ⟨h1, h2⟩, ⟨k1, k2⟩ => ⟨h1.trans k1.symm, h2.trans k2.symm⟩
  | g :: r, _, _, _, _, _, ⟨a, b, c, h1, h2, h3⟩, ⟨a', b', c', k1, k2, k3⟩ => by
    obtain ⟨rfl, rfl⟩ := h1.unique k1
    obtain ⟨rfl, e⟩ := h2.unique k2
    exact ⟨h3.trans k3.symm, e⟩
theorem RunR.snoc {g : Int} : ∀ {l : List Int} {us u1 u2 : List UnitT} {c1 c2 : List ChoT}, RunR n E ts xs ps rsv l us c1 u1 → StepR n E ts xs ps rsv g u1 c2 u2 → RunR n E ts xs ps rsv (l ++ [g]) us (c1 ++ c2) u2
  | [], _, _, _, _, _, ⟨h1, h2⟩, h => by
    subst h1 h2
    exact ⟨_, _, [], h, ⟨rfl, rfl⟩, by simp⟩
  | g' :: r, _, _, _, _, _, ⟨a, b, c, h1, h2, h3⟩, h => by
    subst h3
    exact ⟨a, b, _, h1, h2.snoc h, by rw [List.append_assoc]⟩
end
end
section
open Go.RowKit Go.Maps

structure ChoWf (c : ChoT) : Prop where
  inc : -9223372036854775808 ≤ c.inc ∧ c.inc ≤ 9223372036854775807
  unit : -9223372036854775808 ≤ c.unit ∧ c.unit ≤ 9223372036854775807
  kind : -9223372036854775808 ≤ c.kind ∧ c.kind ≤ 9223372036854775807
/-- the text of a choice. -/
def choX (c : ChoT) : ByteArray := if kindB c.kind then (⟨#[105, 110, 99, 105, 100, 101, 110, 116, 32]⟩ : ByteArray) ++ bs (Lib.itoa c.inc) ++ (⟨#[58, 32]⟩ : ByteArray) ++ bs (kindName c.kind) ++ (⟨#[32, 117, 110, 105, 116, 32]⟩ : ByteArray) ++ bs (Lib.itoa c.unit) ++ (⟨#[32, 105, 110, 32]⟩ : ByteArray) ++ bs (span (hold c.time)) else ⟨#[]⟩
theorem itoa_size {n : Int} (h : -9223372036854775808 ≤ n ∧ n ≤ 9223372036854775807) : (bs (Lib.itoa n)).size ≤ 21 := by
  rw [bs_size]
  exact Lib.itoa_length_le n h.1 h.2
theorem kindName_size (k : Int) : (bs (kindName k)).size ≤ 6 := by
  rw [bs_size]
  unfold kindName
  split
  · decide
  · split
    · decide
    · split <;> decide
theorem span_size (t : Int) : (bs (span (hold t))).size ≤ 100 := by
  rw [bs_size]
  unfold span
  split
  · decide
  · exact join_parts_len _ (hold_ge t) (hold_le t)
theorem names_nat {w : World} (h : NamesAt w) {k : Int} (hk : kindB k = true) : w.cell? ⟨0, k.toNat - 1, none⟩ = some (.string (bs (kindName k))) := by
  have h1 := h.at hk
  unfold kindB at hk
  rw [decide_eq_true_eq] at hk
  rw [show (k - 1).toNat = k.toNat - 1 by omega] at h1
  exact h1
/-- the box of a choice. -/
def BoxC (n : Nat) (c : ChoT) (W : World) : Prop := W.cell? ⟨n, 0, none⟩ = some (.int .i64 c.inc) ∧ W.cell? ⟨n, 1, none⟩ = some (.int .i64 c.kind) ∧ W.cell? ⟨n, 2, none⟩ = some (.int .i64 c.unit) ∧ W.cell? ⟨n, 3, none⟩ = some (.int .i64 c.time)
theorem BoxC.below {n : Nat} {c : ChoT} {W W' : World} (h : BoxC n c W) (hl : n < W.heap.size) (hbi : Below W.heap.size W W') : BoxC n c W' :=
  ⟨(hbi.cell (p := ⟨n, 0, none⟩) hl).trans h.1, (hbi.cell (p := ⟨n, 1, none⟩) hl).trans h.2.1, (hbi.cell (p := ⟨n, 2, none⟩) hl).trans h.2.2.1, (hbi.cell (p := ⟨n, 3, none⟩) hl).trans h.2.2.2⟩
/-- what Format's calls leave. -/
def FHeld (n : Nat) (c : ChoT) (KN : ByteArray) (w1 W : World) : Prop :=
  W.cell? ⟨n, 0, none⟩ = some (.int .i64 c.inc) ∧ W.cell? ⟨n, 1, none⟩ = some (.int .i64 c.kind) ∧ W.cell? ⟨n, 2, none⟩ = some (.int .i64 c.unit) ∧ W.cell? ⟨n, 3, none⟩ = some (.int .i64 c.time) ∧ W.cell? ⟨0, c.kind.toNat - 1, none⟩ = some (.string KN) ∧ Ready W ∧ Below w1.heap.size w1 W
theorem FHeld.below {n : Nat} {c : ChoT} {KN : ByteArray} {w1 W W' : World} (h : FHeld n c KN w1 W) (hz : n < w1.heap.size) (hk : kindB c.kind = true) (hn : KN = bs (kindName c.kind)) (hbi : Below W.heap.size W W') : FHeld n c KN w1 W' := by
  obtain ⟨h0, h1, h2, h3, _, h5, h6⟩ := h
  have hl : n < W.heap.size := Nat.lt_of_lt_of_le hz h6.size
  have hb := BoxC.below ⟨h0, h1, h2, h3⟩ hl hbi
  exact ⟨hb.1, hb.2.1, hb.2.2.1, hb.2.2.2, by rw [hn]; exact names_nat (h5.below hbi).names hk, h5.below hbi, below_then h6 hbi⟩
theorem drew_below (w : World) (n : Nat) : Below w.heap.size w (w.drewN n) := ⟨rfl, rfl, rfl, Nat.le_refl _, fun _ _ => rfl⟩
set_option maxRecDepth 100000 in
set_option maxHeartbeats 8000000 in
theorem format38_any (c : ChoT) (w : World) (hw : ChoWf c) (hr : Ready w) :
    Calls Tryz.prog 23 #[.agg #[.int .i64 c.inc, .int .i64 c.kind, .int .i64 c.unit, .int .i64 c.time]] w fun e w' => e = .returned (.string (choX c)) ∧ Below w.heap.size w w' := by
  obtain ⟨W, hW⟩ : ∃ W, W = w.alloc (.cells #[.int .i64 c.inc, .int .i64 c.kind, .int .i64 c.unit, .int .i64 c.time] 41) := ⟨_, rfl⟩
  have hbel : Below w.heap.size w W := by rw [hW]; exact (Below.refl _ _).alloc (Nat.le_refl _) _
  have hz : w.heap.size < W.heap.size := by rw [hW]; simp
  have c0 : W.cell? ⟨w.heap.size, 0, none⟩ = some (.int .i64 c.inc) := by rw [hW, World.cell?_alloc_at (hn := rfl)]; rfl
  have c1 : W.cell? ⟨w.heap.size, 1, none⟩ = some (.int .i64 c.kind) := by rw [hW, World.cell?_alloc_at (hn := rfl)]; rfl
  have c2 : W.cell? ⟨w.heap.size, 2, none⟩ = some (.int .i64 c.unit) := by rw [hW, World.cell?_alloc_at (hn := rfl)]; rfl
  have c3 : W.cell? ⟨w.heap.size, 3, none⟩ = some (.int .i64 c.time) := by rw [hW, World.cell?_alloc_at (hn := rfl)]; rfl
  have HB := Lib.hid hbel
  have HRW := Lib.hid (hr.below hbel)
  have wi := hw.inc
  have wu := hw.unit
  have wk := hw.kind
  clear hbel hw hr
  go_enter Tryz.func23, Tryz.ntmps23
  go_upto_region 1 with fail
  rw [← hW]
  clear hW
  cases hk : kindB c.kind
  · have hk2 : c.kind < 1 ∨ 4 < c.kind := by unfold kindB at hk; rw [decide_eq_false_iff_not] at hk; omega
    have HX : Hid (choX c = ⟨#[]⟩) := Lib.hid (by unfold choX; rw [hk]; rfl)
    clear hk
    rcases hk2 with h | h
    · go_wp2_with fail
      go_ret
      exact ⟨ret_str HX.out.symm, HB.out⟩
    · have h1 : ¬ c.kind < 1 := by omega
      go_wp2_with fail
      go_ret
      exact ⟨ret_str HX.out.symm, HB.out⟩
  · have hk2 : 1 ≤ c.kind ∧ c.kind ≤ 4 := by unfold kindB at hk; rw [decide_eq_true_eq] at hk; exact hk
    have h1 : ¬ c.kind < 1 := by omega
    have h4 : ¬ 4 < c.kind := by omega
    obtain ⟨DA, hDA⟩ : ∃ D, D = bs (Lib.itoa c.inc) := ⟨_, rfl⟩
    obtain ⟨DB, hDB⟩ : ∃ D, D = bs (Lib.itoa c.unit) := ⟨_, rfl⟩
    obtain ⟨KN, hKN⟩ : ∃ D, D = bs (kindName c.kind) := ⟨_, rfl⟩
    obtain ⟨DT, hDT⟩ : ∃ D, D = bs (span (hold c.time)) := ⟨_, rfl⟩
    have s1 : DA.size ≤ 21 := by rw [hDA]; exact itoa_size wi
    have s2 : DB.size ≤ 21 := by rw [hDB]; exact itoa_size wu
    have s3 : KN.size ≤ 6 := by rw [hKN]; exact kindName_size c.kind
    have s4 : DT.size ≤ 100 := by rw [hDT]; exact span_size c.time
    obtain ⟨V1, hV1⟩ : ∃ V, V = (⟨#[105, 110, 99, 105, 100, 101, 110, 116, 32]⟩ : ByteArray) ++ DA := ⟨_, rfl⟩
    have zV1 : V1.size ≤ 30 := by rw [hV1, ByteArray.size_append]; first | omega | (show 9 + _ ≤ _; omega) | (show _ + 0 ≤ _; omega)
    have nV1 : ¬ 9223372036854775807 < 9 + DA.size := by omega
    replace hV1 := hV1.symm
    obtain ⟨V2, hV2⟩ : ∃ V, V = V1 ++ (⟨#[58, 32]⟩ : ByteArray) := ⟨_, rfl⟩
    have zV2 : V2.size ≤ 32 := by rw [hV2, ByteArray.size_append]; first | omega | (show 9 + _ ≤ _; omega) | (show _ + 2 ≤ _; omega)
    have nV2 : ¬ 9223372036854775807 < V1.size + 2 := by omega
    replace hV2 := hV2.symm
    obtain ⟨V3, hV3⟩ : ∃ V, V = V2 ++ KN := ⟨_, rfl⟩
    have zV3 : V3.size ≤ 38 := by rw [hV3, ByteArray.size_append]; first | omega | (show 9 + _ ≤ _; omega) | (show _ + 0 ≤ _; omega)
    have nV3 : ¬ 9223372036854775807 < V2.size + KN.size := by omega
    replace hV3 := hV3.symm
    obtain ⟨V4, hV4⟩ : ∃ V, V = V3 ++ (⟨#[32, 117, 110, 105, 116, 32]⟩ : ByteArray) := ⟨_, rfl⟩
    have zV4 : V4.size ≤ 44 := by rw [hV4, ByteArray.size_append]; first | omega | (show 9 + _ ≤ _; omega) | (show _ + 6 ≤ _; omega)
    have nV4 : ¬ 9223372036854775807 < V3.size + 6 := by omega
    replace hV4 := hV4.symm
    obtain ⟨V5, hV5⟩ : ∃ V, V = V4 ++ DB := ⟨_, rfl⟩
    have zV5 : V5.size ≤ 65 := by rw [hV5, ByteArray.size_append]; first | omega | (show 9 + _ ≤ _; omega) | (show _ + 0 ≤ _; omega)
    have nV5 : ¬ 9223372036854775807 < V4.size + DB.size := by omega
    replace hV5 := hV5.symm
    obtain ⟨V6, hV6⟩ : ∃ V, V = V5 ++ (⟨#[32, 105, 110, 32]⟩ : ByteArray) := ⟨_, rfl⟩
    have zV6 : V6.size ≤ 69 := by rw [hV6, ByteArray.size_append]; first | omega | (show 9 + _ ≤ _; omega) | (show _ + 4 ≤ _; omega)
    have nV6 : ¬ 9223372036854775807 < V5.size + 4 := by omega
    replace hV6 := hV6.symm
    obtain ⟨V7, hV7⟩ : ∃ V, V = V6 ++ DT := ⟨_, rfl⟩
    have zV7 : V7.size ≤ 169 := by rw [hV7, ByteArray.size_append]; first | omega | (show 9 + _ ≤ _; omega) | (show _ + 0 ≤ _; omega)
    have nV7 : ¬ 9223372036854775807 < V6.size + DT.size := by omega
    replace hV7 := hV7.symm
    have HX : Hid (choX c = V7) := Lib.hid (by unfold choX; rw [hk, if_pos rfl, ← hV7, ← hV6, ← hV5, ← hV4, ← hV3, ← hV2, ← hV1, hDA, hDB, hKN, hDT])
    have HFA : Hid (∀ X, Ready X → Calls Tryz.prog 44 #[.int .i64 c.inc, .int .i64 10] X fun e X' => e = .returned (.string DA) ∧ Below X.heap.size X X') := Lib.hid (fun X h => by rw [hDA]; exact formatInt_any _ wi.1 wi.2 X h)
    have HFB : Hid (∀ X, Ready X → Calls Tryz.prog 45 #[.int .i64 c.unit] X fun e X' => e = .returned (.string DB) ∧ Below X.heap.size X X') := Lib.hid (fun X h => by rw [hDB]; exact itoa_any _ wu.1 wu.2 X h)
    have HFT : Hid (∀ X, Ready X → Calls Tryz.prog 46 #[.int .i64 c.time] X fun e X' => e = .returned (.string DT) ∧ Below X.heap.size X X') := Lib.hid (fun X h => by rw [hDT]; exact formatDuration_any _ X h)
    have hh : FHeld w.heap.size c KN W W := ⟨c0, c1, c2, c3, by rw [hKN]; exact names_nat HRW.out.names hk, HRW.out, Below.refl _ _⟩
    have HNX := Lib.hid (fun (X X' : World) (h : FHeld w.heap.size c KN W X) (hb : Below X.heap.size X X') => FHeld.below h hz hk hKN hb)
    have HH := Lib.hid (HNX.out _ _ hh (drew_below W 1))
    have hw1 : IntKind.i64.wrap (c.kind - 1) = c.kind - 1 := IntWalk.i64_in _ (by omega)
    have hi0 : (0 : Int) ≤ c.kind - 1 := by omega
    have hi4 : c.kind - 1 < 4 := by omega
    have hi5 : (c.kind - 1).toNat = c.kind.toNat - 1 := by omega
    clear hDA hDB hKN hDT hh hk wi wu zV1 zV2 zV3 zV4 zV5 zV6 zV7 s1 s2 s3 s4
    go_upto_region 3 with fail
    go_region_held3 (fun w' => w'.cell? ⟨w.heap.size, 0, none⟩ = some (.int .i64 c.inc) ∧ w'.cell? ⟨w.heap.size, 1, none⟩ = some (.int .i64 c.kind) ∧ w'.cell? ⟨w.heap.size, 2, none⟩ = some (.int .i64 c.unit) ∧ w'.cell? ⟨w.heap.size, 3, none⟩ = some (.int .i64 c.time) ∧ w'.cell? ⟨0, c.kind.toNat - 1, none⟩ = some (.string KN) ∧ Ready w' ∧ Below W.heap.size W w')
      (first | exact HH.out | exact HNX.out _ _ (by assumption) hbi)
      (first | (go_at_call 44; refine (HFA.out _ ?_).mono ?_; (exact And.left (And.right (And.right (And.right (And.right (And.right ‹_ ∧ _ ∧ _ ∧ _ ∧ _ ∧ Ready _ ∧ _›)))))); rintro e w' ⟨rfl, hbi⟩) | (go_at_call 45; refine (HFB.out _ ?_).mono ?_; (exact And.left (And.right (And.right (And.right (And.right (And.right ‹_ ∧ _ ∧ _ ∧ _ ∧ _ ∧ Ready _ ∧ _›)))))); rintro e w' ⟨rfl, hbi⟩) | (go_at_call 46; refine (HFT.out _ ?_).mono ?_; (exact And.left (And.right (And.right (And.right (And.right (And.right ‹_ ∧ _ ∧ _ ∧ _ ∧ _ ∧ Ready _ ∧ _›)))))); rintro e w' ⟨rfl, hbi⟩))
    have hf : FHeld w.heap.size c KN W w' := by assumption
    have HF := Lib.hid hf.2.2.2.2.2.2
    clear hf hbi
    go_wp2_with fail
    go_ret
    exact ⟨ret_str HX.out.symm, below_then HB.out HF.out⟩
end
section
open Go.RowKit Go.Maps

/-- what Text's calls leave. -/
def THeld (n : Nat) (c : ChoT) (w1 W : World) : Prop :=
  W.cell? ⟨n, 0, none⟩ = some (.int .i64 c.inc) ∧ W.cell? ⟨n, 1, none⟩ = some (.int .i64 c.kind) ∧ W.cell? ⟨n, 2, none⟩ = some (.int .i64 c.unit) ∧ W.cell? ⟨n, 3, none⟩ = some (.int .i64 c.time) ∧ Below w1.heap.size w1 W
theorem THeld.below {n : Nat} {c : ChoT} {w1 W W' : World} (h : THeld n c w1 W) (hz : n < w1.heap.size) (hbi : Below W.heap.size W W') : THeld n c w1 W' := by
  obtain ⟨h0, h1, h2, h3, h6⟩ := h
  have hl : n < W.heap.size := Nat.lt_of_lt_of_le hz h6.size
  have hb := BoxC.below ⟨h0, h1, h2, h3⟩ hl hbi
  exact ⟨hb.1, hb.2.1, hb.2.2.1, hb.2.2.2, below_then h6 hbi⟩
theorem itoa_step {m : Nat} (h : ¬ m < 10) : Lib.itoa (-(m : Int)) = Lib.itoa (-((m / 10 : Nat) : Int)) ++ Lib.decDigits (m % 10) := by
  rw [Lib.itoa_neg m (by omega), Lib.itoa_neg (m / 10) (by omega), dec_big h, dec_small (n := m % 10) (by omega)]
  rfl
end
end Go.Proofs.YtimijjhdgihobaaGreatDoor
