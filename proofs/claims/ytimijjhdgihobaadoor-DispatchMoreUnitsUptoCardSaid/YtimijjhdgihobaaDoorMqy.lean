/-
  dispatchcost.CostMatrix.
-/
import Derived.Test.YtimijjhdgihobaaDoorMqr
namespace Go.Proofs.YtimijjhdgihobaaDoor
section
open Go.RowKit Go.Shelf Go.Maps

theorem row_info : (Tryd.prog.info? 25).map (fun i => (i.zero, i.size, i.bytes)) = some (some (.slice none 0 0), 1, 24) := by kernel_rfl
theorem make_rows64 (w : World) (n : Nat) (h : n ≤ 4096) : (Instr.makeSlice 68 (.int .i64 n) (.int .i64 n)).run Tryd.prog w = .ok (.slice (some ⟨w.heap.size, 0, none⟩) n n) (w.alloc (.cells (madeCells #[.slice none 0 0] n) 25)) := by
  obtain ⟨i0, hi, hz1, hz2, hz3⟩ := info_parts row_info
  have := run_makeSlice (P := Tryd.prog) w 68 25 i0 (.slice none 0 0) Tryd.underlying68 hi hz1 .i64 .i64 n n (by omega) (by omega) (by rw [hz2]; simp; omega) (by rw [hz3]; omega) (by omega)
  rw [hz2] at this
  have e : (Value.slice none 0 0).cells = #[Value.slice none 0 0] := rfl
  rw [e] at this
  simpa using this
theorem made_rows64 (w : World) (base n : Nat) (hb : base ≤ w.heap.size) (hn : n ≤ 4096) : OwnV (fun v : Value => v) (w.alloc (.cells (madeCells #[.slice none 0 0] n) 25)) base 25 (.slice (some ⟨w.heap.size, 0, none⟩) n n) (List.replicate n (.slice none 0 0)) := by
  have h := World.ownsRow_lit (base := base) (e := 25) (size := 1) w (madeCells #[.slice none 0 0] n) n hb (by unfold maxLen; omega) (by simp [size_madeCells])
  unfold OwnV
  rw [List.length_replicate]
  have e : (madeCells #[.slice none 0 0] n).toList = (List.replicate n (Value.slice none 0 0)).map (fun v => v) := by
    apply List.ext_getElem?
    intro i
    by_cases hi : i < n
    · simp [madeCells, hi, Nat.mod_one]
    · simp [madeCells, hi]
  rw [← e]
  simpa using h
/-- the travel times that are known for the current slot. -/
def Reach (w : World) (n : Nat) (E : List EdgeT) (ts : List Int) (b1 : Nat) (zs : List Int) (q : Nat) (rv : Value) (wr : World) : Prop :=
  ∃ b2 F2, rv = .map (some b2) ∧ MapV Tryd.prog 3 wr b2 q F2 ∧ b2 ≠ b1 ∧ w.heap.size ≤ b2 ∧ ∀ z v, F2 z = some v → ∃ t, v = .int .i64 t ∧ TT n E ts z zs t
section
variable {w wr w' : World} {n : Nat} {E : List EdgeT} {ts : List Int} {b1 : Nat} {zs : List Int} {q : Nat} {rv : Value}
theorem Reach.kept_new (h : Reach w n E ts b1 zs q rv wr) (hb : Below wr.heap.size wr w') : Reach w n E ts b1 zs q rv w' := by
  obtain ⟨b2, F2, e, h1, h2, h3, h4⟩ := h
  exact ⟨b2, F2, e, h1.same (hb.block _ h1.lt), h2, h3, h4⟩
theorem Reach.mono (h : Reach w n E ts b1 zs q rv wr) {m : Nat} (hm : q ≤ m) : Reach w n E ts b1 zs m rv wr := by
  obtain ⟨b2, F2, e, h1, h2, h3, h4⟩ := h
  exact ⟨b2, F2, e, h1.mono hm, h2, h3, h4⟩
theorem Reach.setCell (h : Reach w n E ts b1 zs q rv wr) {α : Type} {f : α → Value} {base g : Nat} {e : TypeId} {v : Value} {ys : List α} (ho : OwnV f wr base e v ys) (hv : v.ownBlock = some g) (j : Nat) (u : Value) : Reach w n E ts b1 zs q rv (wr.setCell ⟨g, j, none⟩ u) := by
  obtain ⟨b2, F2, e, h1, h2, h3, h4⟩ := h
  refine ⟨b2, F2, e, map_setCell h1 (a := ⟨g, j, none⟩) (fun q => own_no_map ho h1 ?_) _, h2, h3, h4⟩
  rw [hv, q]
theorem Reach.other (h : Reach w n E ts b1 zs q rv wr) (hg : wr.grownBy w' (some b1)) : Reach w n E ts b1 zs q rv w' := by
  obtain ⟨b2, F2, e, h1, h2, h3, h4⟩ := h
  exact ⟨b2, F2, e, h1.same (hg.block b2 h1.lt (fun q => by injection q with q; exact h2 q)), h2, h3, h4⟩
theorem cell_no_map {P : Program} {kt : TypeId} {b m bx j : Nat} {F : Int → Option Value} {v : Value} (hc : wr.cell? ⟨bx, j, none⟩ = some v) (h : MapV P kt wr b m F) : some bx ≠ some b := fun e => by
  injection e with e
  subst e
  obtain ⟨es, clock, hb, _⟩ := h
  simp [World.cell?, hb] at hc
end

/-- the call while a row is being filled: gc the row's block, bx the block of the slot's copy. -/
structure ST (w : World) (n : Nat) (E : List EdgeT) (ts : List Int) (ss : List SlotT) (us : List UnitT) (go b1 gc bx : Nat) (s : SlotT) (vs : List Value) (F1 : Int → Option Value) (k q : Nat) (row : List Int) (rv : Value) (wr : World) : Prop where
  cm : CM w n E ts ss us go b1 vs F1 k q (some gc) wr
  row : OwnI wr w.heap.size 2 (.slice (some ⟨gc, 0, none⟩) us.length us.length) row
  reach : Reach w n E ts b1 s.nodes q rv wr
  x3 : wr.cell? ⟨bx, 3, none⟩ = some (.int .i64 s.kind)
  x4 : wr.cell? ⟨bx, 4, none⟩ = some (.slice s.nA s.nodes.length s.nc)
  ne : bx ≠ gc
section
variable {w wr w' : World} {n : Nat} {E : List EdgeT} {ts : List Int} {ss : List SlotT} {us : List UnitT} {go b1 gc bx : Nat} {s : SlotT} {vs : List Value} {F1 : Int → Option Value} {k q : Nat} {row : List Int} {rv : Value}
theorem ST.kept_new (h : ST w n E ts ss us go b1 gc bx s vs F1 k q row rv wr) (hb : Below wr.heap.size wr w') : ST w n E ts ss us go b1 gc bx s vs F1 k q row rv w' :=
  ⟨h.cm.kept_new hb, OwnV.kept_new h.row hb, h.reach.kept_new hb, (hb.cell (p := ⟨bx, 3, none⟩) (World.block_lt_of_cell? wr _ h.x3)).trans h.x3, (hb.cell (p := ⟨bx, 4, none⟩) (World.block_lt_of_cell? wr _ h.x4)).trans h.x4, h.ne⟩
theorem ST.setRow (h : ST w n E ts ss us go b1 gc bx s vs F1 k q row rv wr) (j : Nat) (c : Int) : ST w n E ts ss us go b1 gc bx s vs F1 k q (row.set j c) rv (wr.setCell ⟨gc, j, none⟩ (.int .i64 c)) := by
  obtain ⟨h1, h2⟩ := h.cm.setRow h.row j c
  refine ⟨h1, h2, h.reach.setCell h.row rfl j _, ?_, ?_, h.ne⟩
  · exact (World.cell?_setCell_other wr _ _ _ (fun e => by injection e with e; exact h.ne e.symm)).trans h.x3
  · exact (World.cell?_setCell_other wr _ _ _ (fun e => by injection e with e; exact h.ne e.symm)).trans h.x4
theorem ST.putDist (h : ST w n E ts ss us go b1 gc bx s vs F1 k q row rv wr) (hB : w.heap.size ≤ b1) (hq : q < 9223372036854775807) {z : Int} (hwf : (Lit.int .i64 z).wf = true) {g : Nat} {D : List Int} (hD : OwnI wr w.heap.size 2 (.slice (some ⟨g, 0, none⟩) n n) D) (hf : Fin35 n (fun s => (s : Int) ∈ [z] ∧ s < n) E (timesL ts E.length) D) (hx : gc ≠ g) :
    ∃ w', (Instr.mapUpdate 115 (.map (some b1)) (.int .i64 z) (.slice (some ⟨g, 0, none⟩) n n)).run Tryd.prog wr = .ok () w' ∧ ST w n E ts ss us go b1 gc bx s vs (updV F1 z (.slice (some ⟨g, 0, none⟩) n n)) k (q + 1) row rv w' ∧ ∀ (b' j : Nat) (v : Value), wr.cell? ⟨b', j, none⟩ = some v → w'.cell? ⟨b', j, none⟩ = some v := by
  obtain ⟨w', hr, h1, hg⟩ := h.cm.put hB hq hwf hD hf (fun e => by injection e with e; exact hx e)
  exact ⟨w', hr, ⟨h1, own_kept_of h.row hg (own_no_map h.row h.cm.map), (h.reach.other hg).mono (by omega), hg.cell h.x3 (cell_no_map h.x3 h.cm.map), hg.cell h.x4 (cell_no_map h.x4 h.cm.map), h.ne⟩, fun b' j v hc => hg.cell hc (cell_no_map hc h.cm.map)⟩
theorem ST.mono (h : ST w n E ts ss us go b1 gc bx s vs F1 k q row rv wr) {m : Nat} (hm : q ≤ m) : ST w n E ts ss us go b1 gc bx s vs F1 k m row rv wr :=
  ⟨⟨h.cm.outer, h.cm.rows, h.cm.map.mono hm, h.cm.dist, h.cm.below⟩, h.row, h.reach.mono hm, h.x3, h.x4, h.ne⟩
theorem ST.putReach (h : ST w n E ts ss us go b1 gc bx s vs F1 k q row rv wr) (hq : q < 9223372036854775807) {z t : Int} (hwf : (Lit.int .i64 z).wf = true) (ht : TT n E ts z s.nodes t) :
    ∃ b2 w', rv = .map (some b2) ∧ (Instr.mapUpdate 116 (.map (some b2)) (.int .i64 z) (.int .i64 t)).run Tryd.prog wr = .ok () w' ∧ ST w n E ts ss us go b1 gc bx s vs F1 k (q + 1) row rv w' ∧ ∀ (b' j : Nat) (v : Value), wr.cell? ⟨b', j, none⟩ = some v → w'.cell? ⟨b', j, none⟩ = some v := by
  obtain ⟨b2, F2, e, h1, h2, h3, h4⟩ := h.reach
  obtain ⟨w', hr, hm, hg⟩ := h1.put Tryd.underlying3 Tryd.underlying116 hq hwf (.int .i64 t)
  have hcm := h.cm.otherMap h1 h2 h3 hg
  refine ⟨b2, w', e, hr, ⟨⟨hcm.outer, hcm.rows, hcm.map.mono (by omega), hcm.dist, hcm.below⟩, own_kept_of h.row hg (own_no_map h.row h1), ⟨b2, _, e, hm, h2, h3, fun y v hy => ?_⟩, hg.cell h.x3 (cell_no_map h.x3 h1), hg.cell h.x4 (cell_no_map h.x4 h1), h.ne⟩, fun b' j v hc => hg.cell hc (cell_no_map hc h1)⟩
  unfold updV at hy
  split at hy
  · rename_i e
    subst e
    cases hy
    exact ⟨t, rfl, ht⟩
  · exact h4 y v hy
end

theorem i64_zero (w : World) : (zeroValue 2).run Tryd.prog w = .ok (.int .i64 0) w := by kernel_rfl
theorem rows64_zero (w : World) : (zeroValue 25).run Tryd.prog w = .ok (.slice none 0 0) w := by kernel_rfl
theorem RowP.set {n : Nat} {E : List EdgeT} {ts : List Int} {us : List UnitT} {s : SlotT} {row : List Int} {j : Nat} (h : RowP n E ts us s row j) {u : UnitT} (hu : us[j]? = some u) {c : Int} (hc : CostC n E ts s u c) : RowP n E ts us s (row.set j c) (j + 1) := by
  obtain ⟨h1, h2⟩ := h
  refine ⟨by rw [List.length_set]; exact h1, fun i u' c' hi hu' hc' => ?_⟩
  by_cases e : j = i
  · subst e
    have hl := (List.getElem?_eq_some_iff.1 hu).1
    rw [List.getElem?_set_self (by omega)] at hc'
    cases hc'
    rw [hu] at hu'
    cases hu'
    exact hc
  · rw [List.getElem?_set_ne e] at hc'
    exact h2 i u' c' (by omega) hu' hc'

def RetCost (w : World) (n : Nat) (E : List EdgeT) (ts : List Int) (ss : List SlotT) (us : List UnitT) (e : Ending) (w' : World) : Prop :=
  ∃ go vs, e = .returned (.slice (some ⟨go, 0, none⟩) ss.length ss.length) ∧ Sl w' w'.heap.size (some ⟨go, 0, none⟩) vs ∧ vs.length = ss.length ∧ (∀ (i : Nat) (s : SlotT) (v : Value), ss[i]? = some s → vs[i]? = some v → ∃ g row, v = .slice (some ⟨g, 0, none⟩) us.length us.length ∧ Sl w' w'.heap.size (some ⟨g, 0, none⟩) (row.map (Value.int .i64)) ∧ RowP n E ts us s row us.length) ∧ Below w.heap.size w w'

set_option maxRecDepth 100000 in
set_option maxHeartbeats 4000000 in
theorem cost_any (p n : Nat) (E : List EdgeT) (A1 A2 A3 : Option Addr) (c1 c2 c3 : Nat) (ts : List Int) (ss : List SlotT) (us : List UnitT) (w : World) (hg : GraphAt w w.heap.size p n E) (hn : n ≤ 256) (hE : E.length ≤ 16384) (hok : ∀ e ∈ E, 0 ≤ e.dst ∧ e.dst < n) (hs : Sl w w.heap.size A1 (ts.map (Value.int .i64)))
    (hss : SlotsAt w w.heap.size A2 ss) (hsn : SNodes w w.heap.size ss) (hnl : ∀ s ∈ ss, s.nodes.length ≤ 16384) (hl : ss.length ≤ 64) (hu : UnitsAt w w.heap.size A3 us) (huw : ∀ u ∈ us, UnitWf u) (hul : us.length ≤ 64) :
    Calls Tryd.prog 43 #[.pointer (some ⟨p, 0, none⟩), .slice A1 ts.length c1, .slice A2 ss.length c2, .slice A3 us.length c3] w (RetCost w n E ts ss us) := by
  have hmm := @run_makeMap Tryd.prog
  have hmk := make_rows64 (w.alloc (.map #[] 0)) ss.length (by omega)
  have HSTART : Hid (∀ b1 go, b1 = w.heap.size → go = w.heap.size + 1 → CM w n E ts ss us go b1 (List.replicate ss.length (.slice none 0 0)) (fun _ => none) 0 0 none ((w.alloc (.map #[] 0)).alloc (.cells (madeCells #[.slice none 0 0] ss.length) 25))) := Lib.hid (by
    rintro b1 go rfl rfl
    have hb1 : Below w.heap.size w (w.alloc (.map #[] 0)) := (Below.refl _ _).alloc (Nat.le_refl _) _
    have h1 := made_rows64 (w.alloc (.map #[] 0)) w.heap.size ss.length (by simp) (by omega)
    have hz : (w.alloc (.map #[] 0)).heap.size = w.heap.size + 1 := by simp
    rw [hz] at h1
    have hb2 : Below (w.alloc (.map #[] 0)).heap.size (w.alloc (.map #[] 0)) ((w.alloc (.map #[] 0)).alloc (.cells (madeCells #[.slice none 0 0] ss.length) 25)) := (Below.refl _ _).alloc (Nat.le_refl _) _
    exact ⟨h1, fun i s v hi => by omega, (MapV.made (P := Tryd.prog) (k := 3) (w := w)).same (hb2.block _ (by simp)), (fun z v hz => by cases hz), hb1.trans (hb2.mono (by simp))⟩)
  have HG := Lib.hid hg
  have HOK := Lib.hid hok
  have HS := Lib.hid hs
  have HSS := Lib.hid hss
  have HSN := Lib.hid hsn
  have HNL := Lib.hid hnl
  have HU := Lib.hid hu
  have HUW := Lib.hid huw
  clear hg hok hs hss hsn hnl hu huw
  go_enter Tryd.func43, Tryd.ntmps43
  go_wp2_with fail
  obtain ⟨b1, hb1⟩ : ∃ b1, b1 = w.heap.size := ⟨_, rfl⟩
  obtain ⟨go, hgo⟩ : ∃ go, go = w.heap.size + 1 := ⟨_, rfl⟩
  have HST := Lib.hid (HSTART.out b1 go hb1 hgo)
  have hbz : w.heap.size ≤ b1 := by omega
  rw [← hgo, ← hb1]
  clear hmm hmk HSTART hgo hb1
  go_loopw [11, 26] (fun rv iv wr => ∃ (k : Nat) (vs : List Value) (F1 : Int → Option Value), k ≤ ss.length ∧ iv = .int .i64 k ∧ CM w n E ts ss us go b1 vs F1 k (128 * k) none wr ∧ (0 < k → ∃ s, ss[k - 1]? = some s ∧ Reach w n E ts b1 s.nodes (128 * k) rv wr)) (fun _ i _ => ss.length - (intOf i).toNat)
  case atStart => exact ⟨0, _, _, Nat.zero_le _, rfl, HST.out, fun h => by omega⟩
  case round =>
    clear HST
    obtain ⟨k, vs, F1, hk, rfl, hcm, hre⟩ := hrel
    have HCM := Lib.hid hcm
    have HRE := Lib.hid hre
    have hb := hcm.below
    have HB := Lib.hid hb
    have hmb := hb.size
    clear hcm hre
    by_cases hlt : k < ss.length
    · obtain ⟨s, hsk⟩ : ∃ s, ss[k]? = some s := ⟨ss[k], by simp⟩
      obtain ⟨bs, os, rfl, hbs, q0, q1, q2, q3, q4⟩ := slot_at (HSS.out.below hb) hsk
      have HSK := Lib.hid hsk
      have HNS : Hid (Sl w w.heap.size s.nA (s.nodes.map (Value.int .i64))) := Lib.hid (HSN.out s (List.mem_of_getElem? hsk))
      have hsnl : s.nodes.length ≤ 16384 := HNL.out s (List.mem_of_getElem? hsk)
      obtain ⟨wx, hwx⟩ : ∃ wx, wx = wr.alloc (.cells #[.int .i64 s.inc, .int .i64 s.urg, .int .i64 s.since, .int .i64 s.kind, .slice s.nA s.nodes.length s.nc] 75) := ⟨_, rfl⟩
      have hxb : Below wr.heap.size wr wx := by rw [hwx]; exact (Below.refl _ _).alloc (Nat.le_refl _) _
      have HXC : Hid (∀ W, Below wx.heap.size wx W → W.cell? ⟨wr.heap.size, 3, none⟩ = some (.int .i64 s.kind) ∧ W.cell? ⟨wr.heap.size, 4, none⟩ = some (.slice s.nA s.nodes.length s.nc)) := Lib.hid (by
        intro W hbW
        have hlt : wr.heap.size < wx.heap.size := by rw [hwx]; simp
        have key : ∀ j, W.cell? ⟨wr.heap.size, j, none⟩ = wx.cell? ⟨wr.heap.size, j, none⟩ := fun j => hbW.cell (p := ⟨wr.heap.size, j, none⟩) hlt
        refine ⟨?_, ?_⟩ <;> rw [key, hwx, World.cell?_alloc_at (hn := rfl)] <;> rfl)
      have hxz : wr.heap.size < wx.heap.size := by rw [hwx]; simp
      have HCX := Lib.hid (HCM.out.kept_new hxb)
      have HRX : Hid (0 < k → ∃ s, ss[k - 1]? = some s ∧ Reach w n E ts b1 s.nodes (128 * k) u11 wx) := Lib.hid (fun h => by
        obtain ⟨s', e, b2, F2, e2, h1, h2, h3, h4⟩ := HRE.out h
        exact ⟨s', e, b2, F2, e2, h1.same (hxb.block _ h1.lt), h2, h3, h4⟩)
      have HBX := Lib.hid (HB.out.trans (hxb.mono hmb))
      have hkj : (k : Int) < (ss.length : Int) := by omega
      have hgow : go < wr.heap.size := OwnV.lt_size HCM.out.outer go rfl
      clear hsk hb hxb HCM HRE
      go_upto_region 7 with (fail)
      rw [← hwx]
      clear hwx q0 q1 q2 q3 q4
      obtain ⟨bx, hbx⟩ : ∃ bx, bx = wr.heap.size := ⟨_, rfl⟩
      rw [← hbx] at HXC hxz hgow ⊢
      clear hbx
      obtain ⟨x3, x4⟩ := HXC.out wx (Below.refl _ _)
      go_cut [44] (fun v wx2 => ∃ (bb : Bool) (nn : Nat), v = .bool bb ∧ wx2 = wx.drewN nn ∧ (bb = false → 0 < k ∧ ∀ s', ss[k - 1]? = some s' → s'.nodes = s.nodes))
      case first =>
        cases k with
        | zero =>
          have d0 : (((0 : Nat) : Int) == 0) = true := by simp
          go_quiet (fail)
          go_wp2_with fail
          go_meet
          case rel => exact ⟨true, nq, rfl, rfl, fun h => by cases h⟩
        | succ m =>
          obtain ⟨s', hs'⟩ : ∃ s', ss[m]? = some s' := ⟨ss[m]'(by omega), by simp⟩
          obtain ⟨b', o', e', _, _, _, _, _, p4⟩ := slot_at (HSS.out.below HBX.out) hs'
          cases e'
          have HNS' : Hid (Sl w w.heap.size s'.nA (s'.nodes.map (Value.int .i64))) := Lib.hid (HSN.out s' (List.mem_of_getElem? hs'))
          have HS' := Lib.hid hs'
          have d0 : (((m + 1 : Nat) : Int) == 0) = false := beq_eq_false_iff_ne.2 (by omega)
          have d0' : (((m : Int) + 1) == 0) = false := beq_eq_false_iff_ne.2 (by omega)
          have hwm : IntKind.i64.wrap (((m + 1 : Nat) : Int) - 1) = (m : Int) := by rw [show (((m + 1 : Nat) : Int) - 1) = (m : Int) from by omega]; exact IntWalk.i64_in _ (by omega)
          have hwm' : IntKind.i64.wrap ((m : Int) + 1 - 1) = (m : Int) := by rw [show ((m : Int) + 1 - 1) = (m : Int) from by omega]; exact IntWalk.i64_in _ (by omega)
          have hwm2 : IntKind.i64.wrap (m : Int) = (m : Int) := IntWalk.i64_in _ (by omega)
          have hmn : m < ss.length := by omega
          have hmj : (m : Int) < (ss.length : Int) := by omega
          clear hs'
          go_quiet ((go_at_call 58; refine Calls.quiet_of ((equal_any s.nA s'.nA s.nc s'.nc s.nodes s'.nodes _ w.heap.size w.heap.size ((HNS.out.below HBX.out).drewN _) ((HNS'.out.below HBX.out).drewN _) (by omega)).mono fun _ _ q => ⟨q.1, q.2⟩)))
          go_wp2_with fail
          go_meet
          case rel =>
            refine ⟨!(decide (s.nodes = s'.nodes)), nq, rfl, rfl, fun h => ⟨by omega, fun s2 h2 => ?_⟩⟩
            rw [Nat.add_sub_cancel, HS'.out] at h2
            cases h2
            simp at h
            exact h.symm
      case rest =>
        obtain ⟨bb, nn, rfl, rfl, hbb⟩ := hcut
        have HBB := Lib.hid hbb
        have hbn : Below wx.heap.size wx (wx.drewN nn) := ⟨rfl, rfl, rfl, Nat.le_refl _, fun _ _ => rfl⟩
        have HCN := Lib.hid (HCX.out.kept_new hbn)
        have HRN : Hid (0 < k → ∃ s, ss[k - 1]? = some s ∧ Reach w n E ts b1 s.nodes (128 * k) u11 (wx.drewN nn)) := Lib.hid (fun h => by
          obtain ⟨s', e, b2, F2, e2, h1, h2, h3, h4⟩ := HRX.out h
          exact ⟨s', e, b2, F2, e2, h1.same rfl, h2, h3, h4⟩)
        have HXN : Hid (∀ W, Below (wx.drewN nn).heap.size (wx.drewN nn) W → W.cell? ⟨bx, 3, none⟩ = some (.int .i64 s.kind) ∧ W.cell? ⟨bx, 4, none⟩ = some (.slice s.nA s.nodes.length s.nc)) := Lib.hid (fun W h => HXC.out W (hbn.trans h))
        have hxn : bx < (wx.drewN nn).heap.size := hxz
        clear hbb hbn HCX HRX HXC hxz x3 x4 HBX
        generalize wx.drewN nn = wn at *
        have hmm := @run_makeMap Tryd.prog
        go_upto_if 44 with (fail)
        go_cut [11] (fun rv wc => CM w n E ts ss us go b1 vs F1 k (128 * k) none wc ∧ Reach w n E ts b1 s.nodes (128 * k) rv wc ∧ Below wn.heap.size wn wc)
        case first =>
          cases bb
          · go_wp2_with fail
            go_meet
            case rel =>
              obtain ⟨hk0, hnod⟩ := HBB.out (by first | rfl | trivial)
              obtain ⟨s', e, hr⟩ := HRN.out hk0
              rw [hnod s' e] at hr
              exact ⟨HCN.out, hr, Below.refl _ _⟩
          · go_wp2_with fail
            go_meet
            case rel =>
              have hba : Below wn.heap.size wn (wn.alloc (.map #[] 0)) := (Below.refl _ _).alloc (Nat.le_refl _) _
              have hlt1 := HCN.out.map.lt
              exact ⟨HCN.out.kept_new hba, ⟨_, fun _ => none, rfl, MapV.made.mono (Nat.zero_le _), by omega, HCN.out.below.size, (fun z v h => by cases h)⟩, hba⟩
        case rest =>
        obtain ⟨hcm, hre, hbc⟩ := hcut
        clear hmm HCN HRN HBB
        have hmk := make_i64 wc us.length (by omega)
        have hba : Below wc.heap.size wc (wc.alloc (.cells (madeCells #[.int .i64 0] us.length) 2)) := (Below.refl _ _).alloc (Nat.le_refl _) _
        have hvl : vs.length = ss.length := by
          rcases hcm.outer.2 with ⟨e, _⟩ | ⟨g', cap, cur, e, _⟩
          · cases e
          · injection e with _ e _
            exact e.symm
        obtain ⟨vk, hvk⟩ : ∃ vk, vs[k]? = some vk := ⟨vs[k]'(by omega), by simp⟩
        have hcmA := hcm.kept_new hba
        obtain ⟨oc, of_⟩ := OwnV.read hcmA.outer hvk
        have hst0 := hcmA.setOuter (gc := wc.heap.size) (made_own wc w.heap.size us.length hcm.below.size (by omega)) (by
          intro u zs _ hu hub
          rcases hu with ⟨z, hz⟩ | ⟨i, hi, hv⟩
          · obtain ⟨g, D, e, h1, _⟩ := hcm.dist z u hz
            have := OwnV.lt_size h1 _ hub
            omega
          · obtain ⟨si, hsi⟩ : ∃ si, ss[i]? = some si := ⟨ss[i]'(by omega), by simp⟩
            obtain ⟨g, row, e, h1, _⟩ := hcm.rows i si u hi hsi hv
            have := OwnV.lt_size h1 _ hub
            omega)
        have hgoz : go < wc.heap.size := OwnV.lt_size hcm.outer go rfl
        have hgoe : ¬ go = wc.heap.size := by omega
        obtain ⟨x3, x4⟩ := HXN.out _ (hbc.trans (hba.mono hbc.size))
        have hbxc : bx < wc.heap.size := Nat.lt_of_lt_of_le hxn hbc.size
        obtain ⟨vs', hvs'⟩ : ∃ vs', vs' = vs.set k (.slice (some ⟨wc.heap.size, 0, none⟩) us.length us.length) := ⟨_, rfl⟩
        have hvk' : vs'[k]? = some (.slice (some ⟨wc.heap.size, 0, none⟩) us.length us.length) := by rw [hvs', List.getElem?_set_self (by omega)]
        rw [← hvs'] at hst0
        have hbxgo : bx ≠ go := by
          intro e
          omega
        have HSTI : Hid (ST w n E ts ss us go b1 wc.heap.size bx s vs' F1 k (128 * k) (List.replicate us.length 0) u11 ((wc.alloc (.cells (madeCells #[.int .i64 0] us.length) 2)).setCell ⟨go, k, none⟩ (.slice (some ⟨wc.heap.size, 0, none⟩) us.length us.length))) := Lib.hid ⟨hst0.1, hst0.2, (hre.kept_new hba).setCell hcmA.outer rfl k _, (World.cell?_setCell_other _ _ _ _ (fun e => by injection e with e; exact hbxgo e.symm)).trans x3, (World.cell?_setCell_other _ _ _ _ (fun e => by injection e with e; exact hbxgo e.symm)).trans x4, by omega⟩
        have HVK := Lib.hid hvk'
        clear hcm hre hbc hba hvl hvk hcmA hst0 x3 x4 hvs' hvk' hbxgo
        go_upto_region 10 with (fail)
        obtain ⟨wg, hwg⟩ : ∃ wg, wg = (wc.setCell ⟨go, k, none⟩ (.slice (some ⟨wc.heap.size, 0, none⟩) us.length us.length)).alloc (.cells (madeCells #[.int .i64 0] us.length) 2) := ⟨_, rfl⟩
        rw [World.setCell_alloc_past _ _ _ _ hgoz, ← hwg] at HSTI
        rw [← hwg]
        obtain ⟨gc, hgc⟩ : ∃ gc, gc = wc.heap.size := ⟨_, rfl⟩
        rw [← hgc] at HSTI HVK
        clear hwg hgc hmk oc of_ hgoz hgoe hbxc HXN hxn
        obtain ⟨b2, hb2⟩ : ∃ b2, u11 = .map (some b2) := by
          obtain ⟨b2, _, e, _⟩ := HSTI.out.reach
          exact ⟨b2, e⟩
        subst hb2
        go_wp2_with fail
        go_loopw [54] (fun jv wr => ∃ (j : Nat) (F : Int → Option Value) (row : List Int), j ≤ us.length ∧ jv = .int .i64 j ∧ ST w n E ts ss us go b1 gc bx s vs' F k (128 * k + 2 * j) row (.map (some b2)) wr ∧ RowP n E ts us s row j) (fun i _ => us.length - (intOf i).toNat)
        case atStart => exact ⟨0, F1, _, Nat.zero_le _, rfl, HSTI.out, ⟨by simp, fun i u c hi => by omega⟩⟩
        case round =>
          clear HSTI
          obtain ⟨j, F, row, hj, rfl, hst, hrp⟩ := hrel
          have HST := Lib.hid hst
          have HRP := Lib.hid hrp
          by_cases hjl : j < us.length
          · obtain ⟨u, hu⟩ : ∃ u, us[j]? = some u := ⟨us[j], by simp⟩
            obtain ⟨b3, o3, rfl, hb3, y0, y1, y2, y3, y4, y5, y6, y7, y8, y9⟩ := unit_at (HU.out.below hst.cm.below) hu
            have hwn : (Lit.int .i64 u.node).wf = true := (HUW.out u (List.mem_of_getElem? hu)).node
            have HUJ := Lib.hid hu
            have hrl := hrp.1
            obtain ⟨r0, hr0⟩ : ∃ r0, row[j]? = some r0 := ⟨row[j]'(by omega), by simp⟩
            obtain ⟨rc, rf⟩ := OwnV.read hst.row hr0
            obtain ⟨oc, _⟩ := OwnV.read hst.cm.outer HVK.out
            obtain ⟨w1, hw1⟩ : ∃ w1, w1 = wr.alloc (.cells #[.int .i64 u.id, .int .i64 u.kind, .int .i64 u.home, .int .i64 u.state, .int .i64 u.node, .int .i64 u.seq, .int .i64 u.heard, .int .i64 u.inc, .int .i64 u.epoch, .int .i64 u.acked] 44) := ⟨_, rfl⟩
            have hb1' : Below wr.heap.size wr w1 := by rw [hw1]; exact (Below.refl _ _).alloc (Nat.le_refl _) _
            have HS1 := Lib.hid ((hst.kept_new hb1').setRow j 4611686018427387904)
            have hgcz : gc < wr.heap.size := OwnV.lt_size hst.row gc rfl
            have hgoz : go < wr.heap.size := OwnV.lt_size hst.cm.outer go rfl
            have hgce : ¬ gc = wr.heap.size := by omega
            have hgoe : ¬ go = wr.heap.size := by omega
            have HUB : Hid ((w1.setCell ⟨gc, j, none⟩ (.int .i64 4611686018427387904)).cell? ⟨wr.heap.size, 1, none⟩ = some (.int .i64 u.kind) ∧ (w1.setCell ⟨gc, j, none⟩ (.int .i64 4611686018427387904)).cell? ⟨wr.heap.size, 4, none⟩ = some (.int .i64 u.node)) := Lib.hid (by
              constructor
              · refine (World.cell?_setCell_other _ _ _ _ (fun e => by injection e with e; omega)).trans ?_
                rw [hw1, World.cell?_alloc_at (hn := rfl)]; rfl
              · refine (World.cell?_setCell_other _ _ _ _ (fun e => by injection e with e; omega)).trans ?_
                rw [hw1, World.cell?_alloc_at (hn := rfl)]; rfl)
            have hjj : (j : Int) < (us.length : Int) := by omega
            clear hu hst hrp hr0 hb1'
            go_upto_region 14 with (fail)
            obtain ⟨w2, hw2⟩ : ∃ w2, w2 = (wr.setCell ⟨gc, j, none⟩ (.int .i64 4611686018427387904)).alloc (.cells #[.int .i64 u.id, .int .i64 u.kind, .int .i64 u.home, .int .i64 u.state, .int .i64 u.node, .int .i64 u.seq, .int .i64 u.heard, .int .i64 u.inc, .int .i64 u.epoch, .int .i64 u.acked] 44) := ⟨_, rfl⟩
            rw [hw1, World.setCell_alloc_past _ _ _ _ hgcz, ← hw2] at HS1 HUB
            rw [← hw2]
            obtain ⟨bu, hbu⟩ : ∃ bu, bu = wr.heap.size := ⟨_, rfl⟩
            rw [← hbu] at HUB ⊢
            clear hw1 hw2 hbu y0 y1 y2 y3 y4 y5 y6 y7 y8 y9 rc rf oc hgcz hgoz hgce hgoe HST
            obtain ⟨z1, z4⟩ := HUB.out
            have x3 := HS1.out.x3
            have hl0 : 128 * k + 2 * j < 9223372036854775807 := by omega
            have hsl : ∀ (c : Int), (row.set j 4611686018427387904).set j c = row.set j c := fun c => List.set_set _
            go_wp2_with fail
            ((with_reducible refine (sat_any u.kind s.kind w2).mono ?_))
            rintro e w' ⟨rfl, rfl⟩
            cases hsat : satB u.kind s.kind
            · have HSAT := Lib.hid hsat
              have HSL := Lib.hid hsl
              clear hsat x3 z1 z4 hsl
              go_wp2_with fail
              go_roundw
              case rel => exact ⟨j + 1, F, row.set j 4611686018427387904, by omega, by go_num, HS1.out.mono (by omega), HRP.out.set HUJ.out ⟨(fun h => by rw [HSAT.out] at h; cases h), fun _ => rfl⟩⟩
              case measure => simp [intOf]; omega
            · have HSAT := Lib.hid hsat
              have HSL := Lib.hid hsl
              have HCOST : Hid (∀ c, TT n E ts u.node s.nodes c → CostC n E ts s u c) := Lib.hid (fun c h => ⟨fun _ => h, (fun h => by rw [HSAT.out] at h; cases h)⟩)
              clear hsat x3 hsl
              obtain ⟨b2', F2, e2, hm2, hb21, hb2z, hF2⟩ := HS1.out.reach
              cases e2
              have HF2 := Lib.hid hF2
              rcases hm2.look Tryd.underlying3 Tryd.underlying116 (i64_zero w2) true hwn with ⟨hFn, hrun⟩ | ⟨v, hFv, hrun⟩
              · have hrun1 : (Instr.lookup 116 (.map (some b2)) (.int .i64 u.node) true).run Tryd.prog w2 = .ok (.tuple #[.int .i64 0, .bool false]) w2 := hrun
                have HBW2 : Hid (Below w.heap.size w w2) := Lib.hid HS1.out.cm.below
                have x4 := HS1.out.x4
                rcases HS1.out.cm.map.look Tryd.underlying3 Tryd.underlying115 (rows64_zero w2) true hwn with ⟨hFn2, hrun2⟩ | ⟨v, hFv, hrun2⟩
                · have hrun2' : (Instr.lookup 115 (.map (some b1)) (.int .i64 u.node) true).run Tryd.prog w2 = .ok (.tuple #[.slice none 0 0, .bool false]) w2 := hrun2
                  have hba : Below w2.heap.size w2 (w2.alloc (.cells #[.int .i64 u.node] 3)) := (Below.refl _ _).alloc (Nat.le_refl _) _
                  have hbwa : Below w.heap.size w (w2.alloc (.cells #[.int .i64 u.node] 3)) := HBW2.out.trans (hba.mono HBW2.out.size)
                  have hfr : Calls Tryd.prog 60 #[.pointer (some ⟨p, 0, none⟩), .slice A1 ts.length c1, .slice (some ⟨w2.heap.size, 0, none⟩) 1 1] (w2.alloc (.cells #[.int .i64 u.node] 3)) _ := from_any p n E A1 (some ⟨w2.heap.size, 0, none⟩) c1 1 ts [u.node] (w2.alloc (.cells #[.int .i64 u.node] 3)) ((HG.out.below hbwa).more hbwa.size) hn hE HOK.out ((HS.out.below hbwa).more hbwa.size) (Sl.lit w2 [.int .i64 u.node] 3 rfl) (by simp)
                  have HFR := Lib.hid hfr
                  have HBA := Lib.hid hba
                  clear hrun hrun2 hm2 hF2 hFn hFn2 z1 HF2 hfr hba hbwa
                  go_wp2_with (first
                    | (at_lookup; refine wpList_lookup_any _ rfl (.tmp 72) (.tmp 74) 116 true rfl _ _ _ rfl rfl hrun1 ?_)
                    | (at_lookup; refine wpList_lookup_any _ rfl (.tmp 81) (.tmp 83) 115 true rfl _ _ _ rfl rfl hrun2' ?_))
                  ((with_reducible refine HFR.out.mono ?_))
                  rintro e w3 ⟨D, g, rfl, hown, hfin, hb3⟩
                  have hb23 : Below w2.heap.size w2 w3 := HBA.out.trans (hb3.mono HBA.out.size)
                  have z43 := (hb23.cell (p := ⟨bu, 4, none⟩) (World.block_lt_of_cell? w2 _ z4)).trans z4
                  have hgc2 := OwnV.lt_size HS1.out.row gc rfl
                  have hgg : gc ≠ g := by
                    have := OwnV.ge_base hown g rfl
                    simp at this
                    omega
                  have hbz3 := HBW2.out.size
                  have hD3 : OwnI w3 w.heap.size 2 (.slice (some ⟨g, 0, none⟩) n n) D := OwnV.base_le hown (by simp; omega)
                  obtain ⟨w4, hrun4, hst4, hcells4⟩ := (HS1.out.kept_new hb23).putDist hbz hl0 hwn hD3 hfin hgg
                  obtain ⟨g', D', e', hD4, hfin4, _⟩ := hst4.cm.dist u.node _ (if_pos rfl)
                  cases e'
                  obtain rfl : D' = D := hfin4.unique (okW_times _ _) hfin
                  have HTT : Hid (TT n E ts u.node s.nodes (farL D' s.nodes)) := Lib.hid ⟨D', hfin, rfl⟩
                  have hbw4 := hst4.cm.below
                  have hfa := farthest_any (some ⟨g, 0, none⟩) s.nA n s.nc D' s.nodes w4 w4.heap.size (own_sl hD4) ((HNS.out.below hbw4).more hbw4.size) hsnl
                  rw [hfin.len] at hfa
                  have HFA := Lib.hid hfa
                  obtain ⟨b2'', w5, e5, hrun5, hst5, hcells5⟩ := hst4.putReach (by omega) hwn HTT.out
                  cases e5
                  have z44 := hcells4 bu 4 _ z43
                  have x44 := hst4.x4
                  have hr5 : ∃ r1, (row.set j 4611686018427387904)[j]? = some r1 := ⟨4611686018427387904, List.getElem?_set_self (by omega)⟩
                  obtain ⟨r1, hr1⟩ := hr5
                  obtain ⟨rc, rf⟩ := OwnV.read hst5.row hr1
                  obtain ⟨oc, _⟩ := OwnV.read hst5.cm.outer HVK.out
                  have HS6 := Lib.hid (hst5.setRow j (farL D' s.nodes))
                  clear hown hfin hb3 hb23 hgg hD3 hst4 hcells4 hD4 hfin4 hbw4 hfa hst5 hcells5 hr1 hgc2 hbz3 z4 hrun1 hrun2' x4
                  go_wp2_with (at_mapUpdate; refine wpList_put_any _ rfl (.tmp 95) (.tmp 97) (.tmp 98) 115 rfl _ _ _ rfl rfl rfl hrun4 ?_)
                  ((with_reducible refine HFA.out.mono ?_))
                  rintro e w' ⟨rfl, rfl⟩
                  go_wp2_with (at_mapUpdate; refine wpList_put_any _ rfl (.tmp 103) (.tmp 105) (.tmp 106) 116 rfl _ _ _ rfl rfl rfl hrun5 ?_)
                  go_roundw
                  case rel => exact ⟨j + 1, _, row.set j (farL D' s.nodes), by omega, by go_num, (by have := HS6.out; rw [HSL.out] at this; exact this), HRP.out.set HUJ.out (HCOST.out _ HTT.out)⟩
                  case measure => simp [intOf]; omega
                · obtain ⟨g, D, rfl, hD, hfin, _⟩ := HS1.out.cm.dist _ _ hFv
                  have hrun2' : (Instr.lookup 115 (.map (some b1)) (.int .i64 u.node) true).run Tryd.prog w2 = .ok (.tuple #[.slice (some ⟨g, 0, none⟩) n n, .bool true]) w2 := hrun2
                  have HTT : Hid (TT n E ts u.node s.nodes (farL D s.nodes)) := Lib.hid ⟨D, hfin, rfl⟩
                  have hfa := farthest_any (some ⟨g, 0, none⟩) s.nA n s.nc D s.nodes w2 w2.heap.size (own_sl hD) ((HNS.out.below HBW2.out).more HBW2.out.size) hsnl
                  rw [hfin.len] at hfa
                  have HFA := Lib.hid hfa
                  obtain ⟨b2'', w5, e5, hrun5, hst5, hcells5⟩ := HS1.out.putReach hl0 hwn HTT.out
                  cases e5
                  have hr5 : ∃ r1, (row.set j 4611686018427387904)[j]? = some r1 := ⟨4611686018427387904, List.getElem?_set_self (by omega)⟩
                  obtain ⟨r1, hr1⟩ := hr5
                  obtain ⟨rc, rf⟩ := OwnV.read hst5.row hr1
                  obtain ⟨oc, _⟩ := OwnV.read hst5.cm.outer HVK.out
                  have HS6 := Lib.hid (hst5.setRow j (farL D s.nodes))
                  clear hrun hrun2 hm2 hF2 hFn hFv z1 HF2 hD hfin hfa hst5 hcells5 hr1
                  go_wp2_with (first
                    | (at_lookup; refine wpList_lookup_any _ rfl (.tmp 72) (.tmp 74) 116 true rfl _ _ _ rfl rfl hrun1 ?_)
                    | (at_lookup; refine wpList_lookup_any _ rfl (.tmp 81) (.tmp 83) 115 true rfl _ _ _ rfl rfl hrun2' ?_))
                  ((with_reducible refine HFA.out.mono ?_))
                  rintro e w' ⟨rfl, rfl⟩
                  go_wp2_with (at_mapUpdate; refine wpList_put_any _ rfl (.tmp 103) (.tmp 105) (.tmp 106) 116 rfl _ _ _ rfl rfl rfl hrun5 ?_)
                  go_roundw
                  case rel => exact ⟨j + 1, F, row.set j (farL D s.nodes), by omega, by go_num, (by have := HS6.out.mono (m := 128 * k + 2 * (j + 1)) (by omega); rw [HSL.out] at this; exact this), HRP.out.set HUJ.out (HCOST.out _ HTT.out)⟩
                  case measure => simp [intOf]; omega
              · obtain ⟨t, rfl, htt⟩ := hF2 _ _ hFv
                have HTT := Lib.hid htt
                have hrun' : (Instr.lookup 116 (.map (some b2)) (.int .i64 u.node) true).run Tryd.prog w2 = .ok (.tuple #[.int .i64 t, .bool true]) w2 := hrun
                obtain ⟨r1, hr1⟩ : ∃ r1, (row.set j 4611686018427387904)[j]? = some r1 := ⟨4611686018427387904, List.getElem?_set_self (by omega)⟩
                obtain ⟨rc, rf⟩ := OwnV.read HS1.out.row hr1
                obtain ⟨oc, _⟩ := OwnV.read HS1.out.cm.outer HVK.out
                have HS2 := Lib.hid (HS1.out.setRow j t)
                clear hrun hm2 hF2 hFv htt hr1 z1 HF2
                go_wp2_with (at_lookup; refine wpList_lookup_any _ rfl (.tmp 72) (.tmp 74) 116 true rfl _ _ _ rfl rfl hrun' ?_)
                go_roundw
                case rel => exact ⟨j + 1, F, row.set j t, by omega, by go_num, (by have := HS2.out.mono (m := 128 * k + 2 * (j + 1)) (by omega); rw [HSL.out] at this; exact this), HRP.out.set HUJ.out (HCOST.out t HTT.out)⟩
                case measure => simp [intOf]; omega
          · have hjj : j = us.length := by omega
            subst hjj
            have HFIN := Lib.hid (hst.mono (m := 128 * (k + 1)) (by omega))
            clear hst hrp HST
            go_wp2_with fail
            go_roundw
            case rel =>
              refine ⟨k + 1, vs', F, by omega, by go_num, HFIN.out.cm.row_done HFIN.out.row HSK.out HVK.out HRP.out, fun _ => ⟨s, ?_, HFIN.out.reach⟩⟩
              rw [Nat.add_sub_cancel]
              exact HSK.out
            case measure => simp [intOf]; omega
    · have hkk : k = ss.length := by omega
      subst hkk
      clear hb
      go_wp2_with fail
      go_ret
      have hslo := own_sl HCM.out.outer
      refine ⟨go, vs, rfl, by simpa using hslo, ?_, fun i s v hs hv => ?_, HB.out⟩
      · rcases HCM.out.outer.2 with ⟨e, _⟩ | ⟨g', cap, cur, e, _⟩
        · cases e
        · injection e with _ e _
          exact e.symm
      · obtain ⟨g, row, e, h1, h2, _⟩ := HCM.out.rows i s v (List.getElem?_eq_some_iff.1 hs).1 hs hv
        subst e
        exact ⟨g, row, rfl, own_sl h1, h2⟩
end
end Go.Proofs.YtimijjhdgihobaaDoor
