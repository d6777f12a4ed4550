/-
  samaritanlaw35.DispatchcostMatrix returns true for every input, and the arguments read afterwards as before.
  No condition beyond those of the given row.
-/
import Derived.Test.YtpomakmmjbimfaaRows
import Derived.Test.YtpomakmmjbimfaaNetB
import Derived.Test.YtpomakmmjbimfaaCase
import Derived.Test.YtpomakmmjbimfaaLift
namespace Go.Proofs.Ytpomakmmjbimfaa.l35Matrix
open Go.ChangeShapes Go.WideShapes Go.ChangeAt Go.RowKit Go.Maps
open Go.ChangeMaps (open_string shut_string)

theorem own : ownKnob Try.prog.godebug = none := by kernel_rfl
theorem laidOut : laidOutB Try.prog = true := by kernel_rfl

set_option maxRecDepth 100000 in
theorem boxes (w : World) (z : Int) (A : Option Addr) (E : List EdgeT) (c : Nat) (A1 : Option Addr) (ts : List Int) (c1 : Nat) (fr : Int) (A2 : Option Addr) (ss : List SlotT) (c2 : Nat) (A3 : Option Addr) (us : List UnitT) (c3 : Nat) (W0 : World) (hW0 : W0 = (w.alloc (.cells #[.int .i64 z, .slice A E.length c, .slice A1 ts.length c1, .int .i64 fr] 27)).alloc (.cells #[.slice A2 ss.length c2, .slice A3 us.length c3] 43)) (W : World) (hb : Below W0.heap.size W0 W) :
    Below w.heap.size w W ∧ W.cell? ⟨w.heap.size, 0, none⟩ = some (.int .i64 z) ∧ W.cell? ⟨w.heap.size, 1, none⟩ = some (.slice A E.length c) ∧ W.cell? ⟨w.heap.size, 2, none⟩ = some (.slice A1 ts.length c1) ∧ W.cell? ⟨w.heap.size, 3, none⟩ = some (.int .i64 fr) ∧ W.cell? ⟨w.heap.size + 1, 0, none⟩ = some (.slice A2 ss.length c2) ∧ W.cell? ⟨w.heap.size + 1, 1, none⟩ = some (.slice A3 us.length c3) := by
  have hsz : W0.heap.size = w.heap.size + 2 := by rw [hW0]; simp
  have hc : ∀ j, W.cell? ⟨w.heap.size, j, none⟩ = (w.alloc (.cells #[.int .i64 z, .slice A E.length c, .slice A1 ts.length c1, .int .i64 fr] 27)).cell? ⟨w.heap.size, j, none⟩ := fun j => by
    rw [hb.cell (p := ⟨w.heap.size, j, none⟩) (by simp only; omega), hW0]
    exact World.cell?_alloc_lt _ _ _ (by simp)
  have hc2 : ∀ j, W.cell? ⟨w.heap.size + 1, j, none⟩ = W0.cell? ⟨w.heap.size + 1, j, none⟩ := fun j => hb.cell (p := ⟨w.heap.size + 1, j, none⟩) (by simp only; omega)
  have h0 : Below w.heap.size w W0 := by
    rw [hW0]
    exact ((Below.refl w.heap.size w).alloc (Nat.le_refl _) _).alloc (by simp) _
  refine ⟨h0.trans (hb.mono h0.size), ?_, ?_, ?_, ?_, ?_, ?_⟩
  · rw [hc, World.cell?_alloc_at (hn := rfl)]; rfl
  · rw [hc, World.cell?_alloc_at (hn := rfl)]; rfl
  · rw [hc, World.cell?_alloc_at (hn := rfl)]; rfl
  · rw [hc, World.cell?_alloc_at (hn := rfl)]; rfl
  · rw [hc2, hW0, World.cell?_alloc_at (hn := by simp)]; rfl
  · rw [hc2, hW0, World.cell?_alloc_at (hn := by simp)]; rfl

/-- the two matrices agree, row by row. -/
theorem twins {n : Nat} {E : List EdgeT} {ts : List Int} {ss : List SlotT} {us : List UnitT} {w : World} {vs ys : List Value} (hul : us.length ≤ 8) (lv : vs.length = ss.length) (_ly : ys.length = ss.length)
    (hv : ∀ (i : Nat) (s : SlotT) (v : Value), ss[i]? = some s → vs[i]? = some v → ∃ g row, v = .slice (some ⟨g, 0, none⟩) us.length us.length ∧ Sl w w.heap.size (some ⟨g, 0, none⟩) (row.map (Value.int .i64)) ∧ RowP n E ts us s row us.length)
    (hy : ∀ (i : Nat) (s : SlotT) (v : Value), ss[i]? = some s → ys[i]? = some v → ∃ B d row, v = .slice B us.length d ∧ Sl w w.heap.size B (row.map (Value.int .i64)) ∧ RowP n E ts us s row us.length) :
    ∀ (i : Nat) (v u : Value), vs[i]? = some v → ys[i]? = some u → Twin w v u := by
  intro i v u h1 h2
  have hi := (List.getElem?_eq_some_iff.1 h1).1
  obtain ⟨s, hs⟩ : ∃ s, ss[i]? = some s := ⟨ss[i]'(by omega), by simp⟩
  obtain ⟨g, row, rfl, s1, p1⟩ := hv i s v hs h1
  obtain ⟨B, d, row', rfl, s2, p2⟩ := hy i s u hs h2
  obtain rfl : row = row' := by
    apply List.ext_getElem?
    intro j
    by_cases c : j < us.length
    · have e1 : row[j]? = some (row[j]'(by rw [p1.1]; exact c)) := by simp
      have e2 : row'[j]? = some (row'[j]'(by rw [p2.1]; exact c)) := by simp
      have e3 : us[j]? = some us[j] := by simp
      rw [e1, e2, (p1.2 j _ _ c e3 e1).unique (p2.2 j _ _ c e3 e2)]
    · rw [List.getElem?_eq_none (by rw [p1.1]; omega), List.getElem?_eq_none (by rw [p2.1]; omega)]
  refine ⟨some ⟨g, 0, none⟩, B, us.length, d, _, _, row, ?_, ?_, s1, s2, by rw [p1.1]; omega⟩ <;> rw [p1.1]

/-- a table for every pair that fits. -/
theorem tables {n : Nat} {E : List EdgeT} {ts : List Int} {ss : List SlotT} {us : List UnitT} {w : World} {vs : List Value} (lv : vs.length = ss.length)
    (hv : ∀ (i : Nat) (s : SlotT) (v : Value), ss[i]? = some s → vs[i]? = some v → ∃ g row, v = .slice (some ⟨g, 0, none⟩) us.length us.length ∧ Sl w w.heap.size (some ⟨g, 0, none⟩) (row.map (Value.int .i64)) ∧ RowP n E ts us s row us.length) :
    ∀ s ∈ ss, ∀ u ∈ us, satB u.kind s.kind = true → ∃ D, Fin35 n (fun s => (s : Int) ∈ [u.node] ∧ s < n) E (timesL ts E.length) D := by
  intro s hs u hu hsat
  obtain ⟨i, hi⟩ := List.mem_iff_getElem?.1 hs
  obtain ⟨j, hj⟩ := List.mem_iff_getElem?.1 hu
  have hil := (List.getElem?_eq_some_iff.1 hi).1
  have hjl := (List.getElem?_eq_some_iff.1 hj).1
  obtain ⟨v, hvi⟩ : ∃ v, vs[i]? = some v := ⟨vs[i]'(by omega), by simp⟩
  obtain ⟨g, row, _, _, p1⟩ := hv i s v hi hvi
  have e1 : row[j]? = some (row[j]'(by rw [p1.1]; exact hjl)) := by simp
  obtain ⟨D, hD, _⟩ := (p1.2 j u _ hjl hj e1).1 hsat
  exact ⟨D, hD⟩

set_option maxRecDepth 100000 in
set_option maxHeartbeats 3000000 in
theorem walk (w : World) (z : Int) (A : Option Addr) (E : List EdgeT) (c : Nat) (A1 : Option Addr) (ts : List Int) (c1 : Nat) (fr : Int) (he : EdgesAt w w.heap.size A E) (hE : E.length ≤ 9223372036854775807) (hnil : A = none → c = 0) (hs : Sl w w.heap.size A1 (ts.map (Value.int .i64))) (hts : ts.length ≤ 9223372036854775807)
    (A2 : Option Addr) (ss : List SlotT) (c2 : Nat) (A3 : Option Addr) (us : List UnitT) (c3 : Nat) (hss : SlotsAt w w.heap.size A2 ss) (hsn : SNodes w w.heap.size ss) (hsl : ss.length ≤ 9223372036854775807) (hnl : ∀ s ∈ ss, s.nodes.length ≤ 9223372036854775807) (hu : UnitsAt w w.heap.size A3 us) (huw : ∀ u ∈ us, UnitWf u) (hul : us.length ≤ 9223372036854775807) :
    Calls Try.prog 5 #[.agg #[.int .i64 z, .slice A E.length c, .slice A1 ts.length c1, .int .i64 fr], .agg #[.slice A2 ss.length c2, .slice A3 us.length c3]] w fun e w' => e = .returned (.bool true) ∧ Below w.heap.size w w' := by
  obtain ⟨W0, hW0⟩ : ∃ W0, W0 = (w.alloc (.cells #[.int .i64 z, .slice A E.length c, .slice A1 ts.length c1, .int .i64 fr] 27)).alloc (.cells #[.slice A2 ss.length c2, .slice A3 us.length c3] 43) := ⟨_, rfl⟩
  have HBOX := Lib.hid (boxes w z A E c A1 ts c1 fr A2 ss c2 A3 us c3 W0 hW0)
  have HE := Lib.hid he
  have HNIL := Lib.hid hnil
  have HS := Lib.hid hs
  have HSS := Lib.hid hss
  have HSN := Lib.hid hsn
  have HNL := Lib.hid hnl
  have HU := Lib.hid hu
  have HUW := Lib.hid huw
  clear he hnil hs hss hsn hnl hu huw
  go_enter Try.func5, Try.ntmps5
  go_wp2_with fail
  rw [← hW0]
  clear hW0
  refine (wakes35_any _).mono ?_
  rintro e w1 ⟨rfl, hb⟩
  have HB1 := Lib.hid hb
  obtain ⟨hbw, k0, k1, k2, k3, k4, k5⟩ := HBOX.out w1 hb
  have hnet := net_any z A c E w1 ((HE.out.below hbw).more hbw.size) hE HNIL.out
  have HNET := Lib.hid hnet
  clear hb hbw hnet
  go_wp2_with fail
  ((with_reducible refine HNET.out.mono ?_))
  clear HNET k0 k1 k2 k3 k4 k5
  rintro e w2 (⟨n, p, rfl, hrp, rfl, hg, hp, hb2⟩ | ⟨rfl, hb2⟩)
  · have HB2 := Lib.hid (HB1.out.trans (hb2.mono HB1.out.size))
    obtain ⟨hbw, k0, k1, k2, k3, k4, k5⟩ := HBOX.out w2 HB2.out
    have HBW2 := Lib.hid hbw
    have hn12 := hrp.2.1
    have hE40 := hrp.2.2.1
    have HOK : Hid (∀ e ∈ E, 0 ≤ e.frm ∧ e.frm < (n : Int) ∧ 0 ≤ e.to ∧ e.to < (n : Int)) := Lib.hid (fun e he => ⟨(hrp.2.2.2 e he).1, (hrp.2.2.2 e he).2.1, (hrp.2.2.2 e he).2.2.1, (hrp.2.2.2 e he).2.2.2.1⟩)
    have HG2 := Lib.hid hg
    clear hg hb2 hbw hrp
    by_cases ht60 : 60 < ts.length
    · have d1 : decide ((60 : Int) < (ts.length : Int)) = true := decide_eq_true (by omega)
      go_wp2_with fail
      go_ret
      exact ⟨rfl, HBW2.out⟩
    have d1 : decide ((60 : Int) < (ts.length : Int)) = false := decide_eq_false (by omega)
    by_cases hs8 : 8 < ss.length
    · have d2 : decide ((8 : Int) < (ss.length : Int)) = true := decide_eq_true (by omega)
      go_wp2_with fail
      go_ret
      exact ⟨rfl, HBW2.out⟩
    have d2 : decide ((8 : Int) < (ss.length : Int)) = false := decide_eq_false (by omega)
    by_cases hu8 : 8 < us.length
    · have d3 : decide ((8 : Int) < (us.length : Int)) = true := decide_eq_true (by omega)
      go_wp2_with fail
      go_ret
      exact ⟨rfl, HBW2.out⟩
    have d3 : decide ((8 : Int) < (us.length : Int)) = false := decide_eq_false (by omega)
    go_wp2_with fail
    clear k0 k1 k2 k3 k4 k5 d1 d2 d3
    go_loopw [7, 41] (fun v i wr => ∃ k : Nat, k ≤ ss.length ∧ i = .int .i64 k ∧ OwnSlot wr w2.heap.size 48 v (ss.take k) ∧ Below w2.heap.size w2 wr ∧ Hid (∀ (j : Nat) (s : SlotT), j < k → ss[j]? = some s → s.nodes.length ≤ 12)) (fun _ i _ => ss.length - (intOf i).toNat)
    case atStart => exact ⟨0, Nat.zero_le _, rfl, OwnR.nil _ _ _, Below.refl _ _, Lib.hid (fun j s h => absurd h (by omega))⟩
    case round =>
      obtain ⟨k, hk, rfl, hown, hb, H12⟩ := hrel
      have hmb := hb.size
      have HBWr := Lib.hid (HBW2.out.trans (hb.mono HBW2.out.size))
      have htl : (ss.take k).length ≤ k := List.length_take_le _ _
      by_cases hlt : k < ss.length
      · obtain ⟨s, hx⟩ : ∃ s, ss[k]? = some s := ⟨ss[k], by simp⟩
        obtain ⟨bu, ou, rfl, hbu, c0, c1', c2', c3', c4⟩ := slot_at (HSS.out.below HBWr.out) hx
        have hbur : bu < wr.heap.size := Nat.lt_of_lt_of_le hbu HBWr.out.size
        have hsnl : s.nodes.length ≤ 9223372036854775807 := HNL.out s (List.mem_of_getElem? hx)
        by_cases h12 : 12 < s.nodes.length
        · have d4 : decide ((12 : Int) < (s.nodes.length : Int)) = true := decide_eq_true (by omega)
          clear hx
          go_wp2_with fail
          go_ret
          exact ⟨rfl, HBWr.out.alloc HBWr.out.size _⟩
        · have d4 : decide ((12 : Int) < (s.nodes.length : Int)) = false := decide_eq_false (by omega)
          have HT : Hid (ss.take (k + 1) = ss.take k ++ [s]) := Lib.hid (take_snoc' hx)
          have H12' : Hid (∀ (j : Nat) (s : SlotT), j < k + 1 → ss[j]? = some s → s.nodes.length ≤ 12) := Lib.hid (fun j s' hj hs' => by
            by_cases e : j = k
            · subst e
              rw [hx] at hs'
              cases hs'
              omega
            · exact H12.out j s' (by omega) hs')
          have HBA := Lib.hid (hb.alloc hmb (.cells #[.int .i64 s.inc, .int .i64 s.urg, .int .i64 s.since, .int .i64 s.kind, .slice s.nA s.nodes.length s.nc] 46))
          replace hown := hown.alloc (.cells #[.int .i64 s.inc, .int .i64 s.urg, .int .i64 s.since, .int .i64 s.kind, .slice s.nA s.nodes.length s.nc] 46)
          clear hx hb
          go_wp2_with (at_builtin; refine wpList_append_rec _ rfl _ _ 44 rfl w2.heap.size 48 Try.underlying44 slot_info rfl (by omega) (by omega) cellsS_len _ _ (wr.alloc (.cells #[.int .i64 s.inc, .int .i64 s.urg, .int .i64 s.since, .int .i64 s.kind, .slice s.nA s.nodes.length s.nc] 46)) s (cellsS_one _) _ rfl rfl rfl hown _ rfl (by simp) (by omega) (by simp; omega) ?_; intro v1 w1 hown1 hg1)
          go_roundw
          case rel =>
            refine ⟨k + 1, by omega, by go_num, ?_, HBA.out.grown hg1 HBA.out.size (fun j hj => hown.ge_base _ hj), H12'⟩
            rw [HT.out]
            exact hown1
          case measure => simp [intOf]; omega
      · have hkk : k = ss.length := by omega
        subst hkk
        rw [List.take_length] at hown
        obtain ⟨A9, c9, rfl, hsl9⟩ := hown.sl
        have HF := Lib.hid hsl9
        have HWR := Lib.hid hb
        have HGR := Lib.hid ((HG2.out.below hb).more hb.size)
        have HBR := Lib.hid (HB2.out.trans (hb.mono HB2.out.size))
        have HN12 : Hid (∀ s ∈ ss, s.nodes.length ≤ 12) := Lib.hid (fun s hs => by
          obtain ⟨i, hi⟩ := List.mem_iff_getElem?.1 hs
          exact H12.out i s (List.getElem?_eq_some_iff.1 hi).1 hi)
        clear hown hsl9 hb H12 htl
        go_wp2_with fail
        obtain ⟨wd, hwd⟩ : ∃ wd, wd = wr.drew := ⟨_, rfl⟩
        have HDW : Hid (Below wr.heap.size wr wd) := Lib.hid (by rw [hwd]; exact (Below.refl _ _).drew)
        have HLD : Hid (∀ W, Below wr.heap.size wr W → W.cell? ⟨w.heap.size, 0, none⟩ = some (.int .i64 n) ∧ W.cell? ⟨w.heap.size, 1, none⟩ = some (.slice A E.length c) ∧ W.cell? ⟨w.heap.size, 2, none⟩ = some (.slice A1 ts.length c1) ∧ W.cell? ⟨w.heap.size + 1, 0, none⟩ = some (.slice A2 ss.length c2) ∧ W.cell? ⟨w.heap.size + 1, 1, none⟩ = some (.slice A3 us.length c3)) := Lib.hid (fun W h => by
          obtain ⟨_, k0, k1, k2, _, k4, k5⟩ := HBOX.out W (HBR.out.trans (h.mono HBR.out.size))
          exact ⟨k0, k1, k2, k4, k5⟩)
        have HC1 : Hid (∀ W, Below wr.heap.size wr W → Calls Try.prog 17 #[.pointer (some ⟨p, 0, none⟩), .slice A1 ts.length c1, .slice A9 ss.length c9, .slice A3 us.length c3] W (RetCost W n E ts ss us)) := Lib.hid (fun W hb => by
          have hbw := HBWr.out.trans (hb.mono HBWr.out.size)
          exact cost_any p n E A1 A9 A3 c1 c9 c3 ts ss us W ((HGR.out.below hb).more hb.size) (by omega) (by omega) (fun e he => (HOK.out e he).2.2) ((HS.out.below hbw).more hbw.size) ((HF.out.below hb).more hb.size) (fun s hs => ((HSN.out s hs).below hbw).more hbw.size) (fun s hs => by have := HN12.out s hs; omega) (by omega) ((HU.out.below hbw).more hbw.size) HUW.out (by omega))
        have HC2 : Hid (∀ W, Below wr.heap.size wr W → (∀ s ∈ ss, ∀ u ∈ us, satB u.kind s.kind = true → ∃ D, Fin35 n (fun s => (s : Int) ∈ [u.node] ∧ s < n) E (timesL ts E.length) D) → Calls Try.prog 18 #[.agg #[.int .i64 n, .slice A E.length c], .slice A1 ts.length c1, .slice A2 ss.length c2, .slice A3 us.length c3] W (RetMat W n E ts ss us)) := Lib.hid (fun W hb hex => by
          have hbw := HBWr.out.trans (hb.mono HBWr.out.size)
          exact matrix_any n E A A1 A2 A3 c c1 c2 c3 ts ss us W (by omega) (by omega) ((HE.out.below hbw).more hbw.size) HOK.out ((HS.out.below hbw).more hbw.size) ((HSS.out.below hbw).more hbw.size) (fun s hs => ((HSN.out s hs).below hbw).more hbw.size) (fun s hs => by have := HN12.out s hs; omega) (by omega) ((HU.out.below hbw).more hbw.size) (by omega) hex)
        refine wp_region_held_drew (S := fun W => Below wr.heap.size wr W) (by kernel_rfl) (by rw [← hwd]; exact HDW.out) (fun hHeld => ?_)
        rw [← hwd]
        clear hwd hHeld
        have hHeld := HDW.out
        refine wpAnyH_take (i := 0) (v := .pointer (some ⟨p, 0, none⟩)) rfl (by kernel_rfl) (by kernel_rfl) (by kernel_rfl) (fun _ _ _ h => h) (Or.inl ⟨by rfl, ?_⟩) (by assumption) ?_
        · intro w hSw
          go_simp
        show wpAnyH _ _ _ _ _ _ _ (Act.put _ (some 64) _) _
        simp only [Act.put, List.setIfInBounds_toArray, List.set_cons_zero, List.set_cons_succ]
        refine wpAnyH_take (i := 1) (v := .pointer (some ⟨w.heap.size, 2, none⟩)) rfl (by kernel_rfl) (by kernel_rfl) (by kernel_rfl) (fun _ _ _ h => h) (Or.inl ⟨by rfl, ?_⟩) (by assumption) ?_
        · intro w hSw
          go_simp
        show wpAnyH _ _ _ _ _ _ _ (Act.put _ (some 65) _) _
        simp only [Act.put, List.setIfInBounds_toArray, List.set_cons_zero, List.set_cons_succ]
        refine wpAnyH_take (i := 2) (v := .slice A1 ts.length c1) rfl (by kernel_rfl) (by kernel_rfl) (by kernel_rfl) (fun _ _ _ h => h) (Or.inl ⟨by rfl, ?_⟩) (by assumption) ?_
        · intro w hSw
          obtain ⟨s0, s1, s2, s3, s4⟩ := HLD.out w hSw
          go_simp
        show wpAnyH _ _ _ _ _ _ _ (Act.put _ (some 66) _) _
        simp only [Act.put, List.setIfInBounds_toArray, List.set_cons_zero, List.set_cons_succ]
        refine wpAnyH_take (i := 3) (v := .slice A9 ss.length c9) rfl (by kernel_rfl) (by kernel_rfl) (by kernel_rfl) (fun _ _ _ h => h) (Or.inl ⟨by rfl, ?_⟩) (by assumption) ?_
        · intro w hSw
          go_simp
        show wpAnyH _ _ _ _ _ _ _ (Act.put _ (some 67) _) _
        simp only [Act.put, List.setIfInBounds_toArray, List.set_cons_zero, List.set_cons_succ]
        refine wpAnyH_take (i := 4) (v := .pointer (some ⟨w.heap.size + 1, 1, none⟩)) rfl (by kernel_rfl) (by kernel_rfl) (by kernel_rfl) (fun _ _ _ h => h) (Or.inl ⟨by rfl, ?_⟩) (by assumption) ?_
        · intro w hSw
          go_simp
        show wpAnyH _ _ _ _ _ _ _ (Act.put _ (some 68) _) _
        simp only [Act.put, List.setIfInBounds_toArray, List.set_cons_zero, List.set_cons_succ]
        refine wpAnyH_take (i := 5) (v := .slice A3 us.length c3) rfl (by kernel_rfl) (by kernel_rfl) (by kernel_rfl) (fun _ _ _ h => h) (Or.inl ⟨by rfl, ?_⟩) (by assumption) ?_
        · intro w hSw
          obtain ⟨s0, s1, s2, s3, s4⟩ := HLD.out w hSw
          go_simp
        show wpAnyH _ _ _ _ _ _ _ (Act.put _ (some 69) _) _
        simp only [Act.put, List.setIfInBounds_toArray, List.set_cons_zero, List.set_cons_succ]
        refine wpAnyH_take (i := 7) (v := .pointer (some ⟨w.heap.size, 0, none⟩)) rfl (by kernel_rfl) (by kernel_rfl) (by kernel_rfl) (fun _ _ _ h => h) (Or.inl ⟨by rfl, ?_⟩) (by assumption) ?_
        · intro w hSw
          go_simp
        show wpAnyH _ _ _ _ _ _ _ (Act.put _ (some 71) _) _
        simp only [Act.put, List.setIfInBounds_toArray, List.set_cons_zero, List.set_cons_succ]
        refine wpAnyH_take (i := 8) (v := .agg #[.int .i64 n, .slice A E.length c]) rfl (by kernel_rfl) (by kernel_rfl) (by kernel_rfl) (fun _ _ _ h => h) (Or.inl ⟨by rfl, ?_⟩) (by assumption) ?_
        · intro w hSw
          obtain ⟨s0, s1, s2, s3, s4⟩ := HLD.out w hSw
          go_simp
        show wpAnyH _ _ _ _ _ _ _ (Act.put _ (some 72) _) _
        simp only [Act.put, List.setIfInBounds_toArray, List.set_cons_zero, List.set_cons_succ]
        refine wpAnyH_take (i := 9) (v := .pointer (some ⟨w.heap.size, 2, none⟩)) rfl (by kernel_rfl) (by kernel_rfl) (by kernel_rfl) (fun _ _ _ h => h) (Or.inl ⟨by rfl, ?_⟩) (by assumption) ?_
        · intro w hSw
          go_simp
        show wpAnyH _ _ _ _ _ _ _ (Act.put _ (some 73) _) _
        simp only [Act.put, List.setIfInBounds_toArray, List.set_cons_zero, List.set_cons_succ]
        refine wpAnyH_take (i := 10) (v := .slice A1 ts.length c1) rfl (by kernel_rfl) (by kernel_rfl) (by kernel_rfl) (fun _ _ _ h => h) (Or.inl ⟨by rfl, ?_⟩) (by assumption) ?_
        · intro w hSw
          obtain ⟨s0, s1, s2, s3, s4⟩ := HLD.out w hSw
          go_simp
        show wpAnyH _ _ _ _ _ _ _ (Act.put _ (some 74) _) _
        simp only [Act.put, List.setIfInBounds_toArray, List.set_cons_zero, List.set_cons_succ]
        refine wpAnyH_take (i := 11) (v := .pointer (some ⟨w.heap.size + 1, 0, none⟩)) rfl (by kernel_rfl) (by kernel_rfl) (by kernel_rfl) (fun _ _ _ h => h) (Or.inl ⟨by rfl, ?_⟩) (by assumption) ?_
        · intro w hSw
          go_simp
        show wpAnyH _ _ _ _ _ _ _ (Act.put _ (some 75) _) _
        simp only [Act.put, List.setIfInBounds_toArray, List.set_cons_zero, List.set_cons_succ]
        refine wpAnyH_take (i := 12) (v := .slice A2 ss.length c2) rfl (by kernel_rfl) (by kernel_rfl) (by kernel_rfl) (fun _ _ _ h => h) (Or.inl ⟨by rfl, ?_⟩) (by assumption) ?_
        · intro w hSw
          obtain ⟨s0, s1, s2, s3, s4⟩ := HLD.out w hSw
          go_simp
        show wpAnyH _ _ _ _ _ _ _ (Act.put _ (some 76) _) _
        simp only [Act.put, List.setIfInBounds_toArray, List.set_cons_zero, List.set_cons_succ]
        refine wpAnyH_take (i := 13) (v := .pointer (some ⟨w.heap.size + 1, 1, none⟩)) rfl (by kernel_rfl) (by kernel_rfl) (by kernel_rfl) (fun _ _ _ h => h) (Or.inl ⟨by rfl, ?_⟩) (by assumption) ?_
        · intro w hSw
          go_simp
        show wpAnyH _ _ _ _ _ _ _ (Act.put _ (some 77) _) _
        simp only [Act.put, List.setIfInBounds_toArray, List.set_cons_zero, List.set_cons_succ]
        refine wpAnyH_take (i := 14) (v := .slice A3 us.length c3) rfl (by kernel_rfl) (by kernel_rfl) (by kernel_rfl) (fun _ _ _ h => h) (Or.inl ⟨by rfl, ?_⟩) (by assumption) ?_
        · intro w hSw
          obtain ⟨s0, s1, s2, s3, s4⟩ := HLD.out w hSw
          go_simp
        show wpAnyH _ _ _ _ _ _ _ (Act.put _ (some 78) _) _
        simp only [Act.put, List.setIfInBounds_toArray, List.set_cons_zero, List.set_cons_succ]
        refine wpAnyH_ready (rs := [6]) (by kernel_rfl) (by simp) ?_
        refine AllReadyH.cons rfl (fun K hK => ?_) AllReadyH.nil
        go_simp
        ((with_reducible refine (HC1.out _ hHeld).mono ?_))
        rintro e w5 ⟨go, vs, rfl, hsv, lv, hrv, hb5⟩
        have HB5 := Lib.hid (hHeld.trans (hb5.mono hHeld.size))
        have HSV := Lib.hid hsv
        have HLV := Lib.hid lv
        have HRV := Lib.hid hrv
        have HEX := Lib.hid (tables lv hrv)
        clear hsv lv hrv hb5
        go_simp
        refine hK.out _ _ HB5.out (fun hHeld => ?_)
        clear hK K
        refine wpAnyH_ready (rs := [15]) (by kernel_rfl) (by simp) ?_
        refine AllReadyH.cons rfl (fun K hK => ?_) AllReadyH.nil
        go_simp
        ((with_reducible refine (HC2.out _ HB5.out HEX.out).mono ?_))
        rintro e w6 ⟨A6, c6, ys, rfl, hsy, ly, hry, hb6⟩
        have HB6 := Lib.hid (HB5.out.trans (hb6.mono HB5.out.size))
        have hsr := sameRows_any (some ⟨go, 0, none⟩) A6 ss.length c6 ss.length vs ys w6 _ _ (HSV.out.below hb6) hsy HLV.out ly (by omega) (twins (by omega) HLV.out ly (fun i s v hs hv => by
            obtain ⟨g, row, e, q1, q2⟩ := HRV.out i s v hs hv
            exact ⟨g, row, e, (q1.below hb6).more hb6.size, q2⟩) hry)
        have HSR := Lib.hid hsr
        clear hsr hsy ly hry hb6
        go_simp
        refine hK.out _ _ HB6.out (fun hHeld => ?_)
        clear hK K
        refine wpAnyH_ready (rs := [16]) (by kernel_rfl) (by simp) ?_
        refine AllReadyH.cons rfl (fun K hK => ?_) AllReadyH.nil
        go_simp
        ((with_reducible refine HSR.out.mono ?_))
        rintro e w7 ⟨rfl, n7, e7⟩
        have HB7 : Hid (Below wr.heap.size wr w7) := Lib.hid (by rw [e7]; exact below_drewN HB6.out _)
        clear e7
        go_simp
        refine hK.out _ _ HB7.out (fun hHeld => ?_)
        clear hK K
        refine wpAnyH_take (i := 17) (v := .bool true) rfl (by kernel_rfl) (by kernel_rfl) (by kernel_rfl) (fun _ _ _ h => h) (Or.inl ⟨by rfl, ?_⟩) (by assumption) ?_
        · intro w hSw
          go_simp
        show wpAnyH _ _ _ _ _ _ _ (Act.put _ (some 4) _) _
        simp only [Act.put, List.setIfInBounds_toArray, List.set_cons_zero, List.set_cons_succ]
        refine wpAnyH_done (by kernel_rfl) ?_ _
        go_wp2_with fail
        go_ret
        exact ⟨rfl, HBWr.out.trans (HB7.out.mono HBWr.out.size)⟩
  · have HB2 := Lib.hid (HB1.out.trans (hb2.mono HB1.out.size))
    obtain ⟨hbw, k0, k1, k2, k3, k4, k5⟩ := HBOX.out w2 HB2.out
    go_wp2_with fail
    go_ret
    exact ⟨rfl, hbw⟩

set_option maxRecDepth 100000 in
theorem lifted (os : Os) (started : os.Started) (H : Type) (enc : TypeId × Value → H) :
    ReturnsInHanded {} Try.checked os 5 .any (Rows.dispatchcostMatrixSpec.pre6 enc Try.prog Try.f5 Rows.dispatchcostMatrixRow.domain false) (Rows.dispatchcostMatrixSpec.post enc Try.prog Try.f5 false true false false) := by
  refine returnsInHanded_of_change (C := Try.checked) own started (by kernel_rfl) Try.func5
    (ChangeSpec.witness6 (enc := enc) (C := Try.checked) false ⟨#[], #[.agg #[.int .i64 0, .slice none 0 0, .slice none 0 0, .int .i64 0], .agg #[.slice none 0 0, .slice none 0 0]], []⟩ 8 (by kernel_rfl) (by kernel_rfl) (by kernel_rfl) (by kernel_rfl)) ?_
  intro W base args ds gs before hval0 hW hcnd _
  have hval : ∀ (j : Nat) t v, Try.f5.params[j]? = some t → args[j]? = some v → Value.okWide Try.prog W .any base t v := hval0
  have hW' := hW
  obtain ⟨p, q, hA0, hV, rfl, hfz, hnd⟩ := hW
  have hA : DataW.TrodAll enc Try.prog W 0 (fun _ => true) true Try.f5.params.toList args.toList ds p := hA0
  rw [Try.params5] at hA hval
  obtain ⟨v0, vs0, d0, ds0, p0, q0, hargs, rfl, rfl, h0, r0⟩ := trodAll_cons hA
  obtain ⟨v1, vs1, d1, ds1, p1, q1, rfl, rfl, rfl, h1, r1⟩ := trodAll_cons r0
  obtain ⟨rfl, rfl, rfl⟩ := trodAll_nil r1
  obtain rfl : args = #[v0, v1] := by cases args; simp_all
  obtain ⟨rfl, rfl⟩ := trodVars_none hV
  obtain ⟨z0, A0, E0, c0, T0, t0, d0, fr0, rfl, he0, hE0, hnil0, hs0, hts0⟩ := open_way (hval 0 27 v0 rfl rfl) h0
  obtain ⟨A1, s1, c1, B1, u1, d1, rfl, hs1, hn1, hl1, hk1, hu1, hw1, hm1⟩ := open_case (hval 1 43 v1 rfl rfl) h1
  clear hA0 hval0
  refine (walk W z0 A0 E0 c0 T0 t0 d0 fr0 he0 hE0 hnil0 hs0 hts0 A1 s1 c1 B1 u1 d1 hs1 hn1 hl1 hk1 hu1 hw1 hm1).mono fun e W' ⟨he, hb⟩ => ?_
  subst he
  exact ⟨_, rfl, law_post laidOut (by kernel_rfl) rfl Try.underlying4 rfl hW' rfl rfl rfl hb⟩

theorem over : Rows.dispatchcostMatrixRow.holds Try.pinned (OpenSpec.ofChange Rows.dispatchcostMatrixSpec) :=
  OpenClaim.holds_of_wide 5 Try.f5 rfl rfl rfl rfl rfl rfl rfl ⟨rfl, rfl, rfl, rfl, rfl⟩ rfl rfl rfl rfl rfl (by kernel_rfl) Try.func5 (by kernel_rfl)
    (of_decide_eq_true (by kernel_rfl)) (by unfold Func.isWrapper; first | (rw [if_pos (by decide +kernel)]; kernel_rfl) | (rw [if_neg (by decide +kernel)]; exact ⟨rfl, rfl⟩))
    (fun os started H enc _ => lifted os started H enc)

theorem proved : Rows.DispatchcostMatrixSaid := over
#print axioms proved
end Go.Proofs.Ytpomakmmjbimfaa.l35Matrix
