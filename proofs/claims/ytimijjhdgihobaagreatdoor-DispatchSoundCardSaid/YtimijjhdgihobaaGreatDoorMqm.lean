/-
  dispatchcost.Slots.
-/
import Derived.Test.YtimijjhdgihobaaGreatDoorMql
namespace Go.Proofs.YtimijjhdgihobaaGreatDoor
section
open Go.RowKit Go.Maps

theorem rows_zero (w : World) : (zeroValue 44).run Tryz.prog w = .ok (.slice none 0 0) w := by kernel_rfl
theorem own_type {α : Type} {f : α → Value} {w : World} {base g : Nat} {e e' : TypeId} {v : Value} {zs : List α} {fr : Nat × Nat} (h : OwnV f w base e v zs) (hv : v.ownBlock = some g) (hg : ∃ cs, w.heap[g]? = some (.cells cs e' fr)) (hne : e ≠ e') : False := by
  obtain ⟨_, h2⟩ := h
  obtain ⟨cs, hg⟩ := hg
  rcases h2 with ⟨rfl, _⟩ | ⟨g', cap, cur, rfl, _, hh, _⟩
  · cases hv
  · simp only [Value.ownBlock, Option.some.injEq] at hv
    subst hv
    rw [hg] at hh
    simp only [Option.some.injEq, Obj.cells.injEq] at hh
    exact hne hh.2.1.symm
/-- the first loop: b is the map's block. -/
structure Assigned (w : World) (us : List UnitT) (b k : Nat) (wr : World) : Prop where
  map : MapG Tryz.prog 2 3 wr (w.heap.size + 1) b k (haveK (us.take k))
  below : Below w.heap.size w wr

theorem kindsL_wf {w : World} {B : Nat} {A : Option Addr} {ps : List Plan} (h : Plans w B A ps) (code : ByteArray) (urg : Int) : ∀ z ∈ kindsL ps code urg, (Lit.int .i64 z).wf = true := by
  intro z hz
  unfold kindsL at hz
  cases hq : pickP ps code urg with
  | none =>
    rw [hq] at hz
    simp at hz
    subst hz
    rfl
  | some p =>
    rw [hq] at hz
    have hm : p ∈ ps := by
      unfold pickP at hq
      rw [Option.or_eq_some_iff] at hq
      rcases hq with hq | ⟨_, hq⟩
      · exact List.mem_of_find?_eq_some hq
      · exact List.mem_of_find?_eq_some hq
    obtain ⟨i, hi⟩ := List.mem_iff_getElem?.1 hm
    exact (h i p hi).2.kinds z hz
theorem wpList_lookup_run {P : Program} (w : World) {ops : Array Oper} {rest : List Oper} {o : Oper} {a : Act} {Q : Exit → Act → World → Prop} (hg : Region.wanted o (yielded ops a.tmps) = true) (m x : Operand) (t : TypeId) (hop : o.op = Op.lookup t m x false) (mv xv v : Value) (hm : a.eval m = mv) (hx : a.eval x = xv) (hrun : (Instr.lookup t mv xv false).run P w = .ok v w)
    (hK : wpList P ops Q rest (a.put o.dst v) w) : wpList P ops Q (o :: rest) a w := by
  refine BigFrame.wpList_want hg fun K' hK' => ?_
  unfold Oper.wp
  simp [execOp, hop, hm, hx, hrun, Result.andThen]
  exact hK' _ _ hK

theorem slots_len {ps : List Plan} (h : smallP ps = true) (us : List UnitT) : ∀ ys : List IncT, (ys.flatMap (slotsX us ps)).length ≤ ys.length * 20
  | [] => by simp
  | y :: ys => by
    have := slots_len h us ys
    have h1 : (slotsX us ps y).length ≤ 20 := by
      unfold slotsX
      rw [List.length_map]
      exact Nat.le_trans (unmet_len _ _) (kindsL_len h)
    rw [List.flatMap_cons, List.length_append, List.length_cons]
    omega
/-- the slots so far; each has nodes of its own. -/
structure SlotsTo (B : Nat) (v : Value) (L : List SlotP) (wr : World) (ss : List SlotT) : Prop where
  own : OwnSlot wr B 91 v ss
  rows : ∀ s ∈ ss, OwnI wr B 3 (.slice s.nA s.nodes.length s.nc) s.nodes
  strip : ss.map strip = L
def RetSlotsD (w : World) (L : List SlotP) (e : Ending) (w' : World) : Prop :=
  ∃ (A : Option Addr) (c : Nat) (ss : List SlotT), e = .returned (.slice A ss.length c) ∧ SlotsTo w.heap.size (.slice A ss.length c) L w' ss ∧ Below w.heap.size w w'
theorem rows_apart {w : World} {base base' : Nat} {v u : Value} {ss : List SlotT} {zs : List Int} (h : OwnSlot w base 91 v ss) (k : OwnI w base' 3 u zs) : u.ownBlock = none ∨ u.ownBlock ≠ v.ownBlock := by
  cases hu : u.ownBlock with
  | none => exact .inl rfl
  | some g =>
    refine .inr fun e => ?_
    obtain ⟨_, h2⟩ := h
    rcases h2 with ⟨rfl, _⟩ | ⟨g', cap, cur, rfl, _, hh, _⟩
    · cases e
    · simp only [Value.ownBlock, Option.some.injEq] at e
      subst e
      exact own_type k hu ⟨_, hh⟩ (by decide)
theorem SlotsTo.start (B : Nat) (w : World) : SlotsTo B (.slice none 0 0) [] w [] := ⟨OwnR.nil _ _ _, fun s hs => by simp at hs, rfl⟩
theorem SlotsTo.kept_new {B : Nat} {v : Value} {L : List SlotP} {w w' : World} {ss : List SlotT} (h : SlotsTo B v L w ss) (hb : Below w.heap.size w w') : SlotsTo B v L w' ss :=
  ⟨h.own.kept_new hb, fun s hs => OwnV.kept_new (h.rows s hs) hb, h.strip⟩
theorem SlotsTo.append {B g cap : Nat} {v : Value} {L : List SlotP} {w0 w' : World} {ss : List SlotT} (h : SlotsTo B v L w0 ss) (s : SlotT) (hs : OwnI w0 B 3 (.slice s.nA s.nodes.length s.nc) s.nodes)
    (hown : OwnSlot w' B 91 (.slice (some ⟨g, 0, none⟩) (ss.length + 1) cap) (ss ++ [s])) (hg : w0.grownBy w' v.ownBlock) : SlotsTo B (.slice (some ⟨g, 0, none⟩) (ss.length + 1) cap) (L ++ [⟨s.inc, s.urg, s.since, s.kind, s.nodes⟩]) w' (ss ++ [s]) := by
  refine ⟨hown, fun q hq => ?_, by rw [List.map_append, h.strip]; rfl⟩
  have k : OwnI w0 B 3 (.slice q.nA q.nodes.length q.nc) q.nodes := by
    rcases List.mem_append.1 hq with hq | hq
    · exact h.rows q hq
    · simp at hq
      subst hq
      exact hs
  exact World.ownsRow.kept k hg (rows_apart h.own k)

set_option maxRecDepth 100000 in
set_option maxHeartbeats 4000000 in
theorem slots_any (A A1 A2 : Option Addr) (c c1 c2 : Nat) (xs : List IncT) (us : List UnitT) (ps : List Plan) (w : World) (hi : IncsAt w w.heap.size A xs) (hnd : NodesAt w w.heap.size xs) (hwf : ∀ x ∈ xs, IncWf x) (hl : xs.length ≤ 19) (hsml : ∀ x ∈ xs, x.nodes.length ≤ 1000)
    (hu : UnitsAt w w.heap.size A1 us) (huw : ∀ u ∈ us, UnitWf u) (hul : us.length ≤ 65536) (hp : Plans w w.heap.size A2 ps) (hpl : ps.length ≤ 9223372036854775807) (hsm : smallP ps = true) :
    Calls Tryz.prog 52 #[.slice A xs.length c, .slice A1 us.length c1, .slice A2 ps.length c2] w (RetSlotsD w (slotsL xs us ps)) := by
  have hmm := @run_makeMap Tryz.prog
  have HI := Lib.hid hi
  have HND := Lib.hid hnd
  have HWF := Lib.hid hwf
  have HSML := Lib.hid hsml
  have HU := Lib.hid hu
  have HUW := Lib.hid huw
  have HP := Lib.hid hp
  have HSM := Lib.hid hsm
  clear hi hnd hwf hsml hu huw hp hsm
  go_enter Tryz.func52, Tryz.ntmps52
  go_wp2_with fail
  obtain ⟨b, hbe⟩ : ∃ b, b = w.heap.size := ⟨_, rfl⟩
  have HST : Hid (Assigned w us b 0 (w.alloc (.map #[] 0))) := Lib.hid (by rw [hbe]; exact ⟨MapG.made, (Below.refl _ _).alloc (Nat.le_refl _) _⟩)
  rw [← hbe]
  have hbz : w.heap.size ≤ b := by omega
  have hbz2 : b ≤ w.heap.size := by omega
  clear hbe hmm
  go_loopw [19] (fun iv wr => ∃ k : Nat, k ≤ us.length ∧ iv = .int .i64 k ∧ Assigned w us b k wr) (fun i _ => us.length - (intOf i).toNat)
  case atStart => exact ⟨0, Nat.zero_le _, rfl, HST.out⟩
  case round =>
    clear HST
    obtain ⟨k, hk, rfl, has⟩ := hrel
    have HAS := Lib.hid has
    by_cases hlt : k < us.length
    · obtain ⟨u, hu⟩ : ∃ u, us[k]? = some u := ⟨us[k], by simp⟩
      obtain ⟨bu, ou, rfl, hbu, c0, c1', c2', c3, c4, c5, c6, c7, c8, c9⟩ := unit_at (HU.out.below has.below) hu
      have hwu := HUW.out u (List.mem_of_getElem? hu)
      have hwi := hwu.inc
      have hwk := hwu.kind
      have HTK : Hid (haveK (us.take (k + 1)) = fun z => if z = u.inc then haveK (us.take k) u.inc ++ [u.kind] else haveK (us.take k) z) := Lib.hid (by
        funext z
        rw [take_snoc' hu, haveK_snoc])
      obtain ⟨id, kind, home, state, node, seq, heard, inc, epoch, acked⟩ := u
      simp only at c0 c1' c2' c3 c4 c5 c6 c7 c8 c9 hwi hwk HTK
      obtain ⟨wu, hwu'⟩ : ∃ wu, wu = wr.alloc (.cells #[.int .i64 id, .int .i64 kind, .int .i64 home, .int .i64 state, .int .i64 node, .int .i64 seq, .int .i64 heard, .int .i64 inc, .int .i64 epoch, .int .i64 acked] 43) := ⟨_, rfl⟩
      have HW : Hid (Below wr.heap.size wr wu) := Lib.hid (by rw [hwu']; exact (Below.refl _ _).alloc (Nat.le_refl _) _)
      have HC : Hid (∀ W, Below wu.heap.size wu W → W.cell? ⟨wr.heap.size, 1, none⟩ = some (.int .i64 kind) ∧ W.cell? ⟨wr.heap.size, 7, none⟩ = some (.int .i64 inc)) := Lib.hid (by
        intro W hb
        have hlt : wr.heap.size < wu.heap.size := by rw [hwu']; simp
        refine ⟨(hb.cell (p := ⟨wr.heap.size, 1, none⟩) hlt).trans ?_, (hb.cell (p := ⟨wr.heap.size, 7, none⟩) hlt).trans ?_⟩ <;> rw [hwu', World.cell?_alloc_at (hn := rfl)] <;> rfl)
      have HUL : Hid (wr.heap.size < wu.heap.size) := Lib.hid (by rw [hwu']; simp)
      have HUB : Hid (∃ cs, wu.heap[wr.heap.size]? = some (.cells cs 43 (0, 0))) := Lib.hid (by rw [hwu']; exact ⟨_, heap_alloc_new wr _⟩)
      have hmap : MapG Tryz.prog 2 3 wu (w.heap.size + 1) b k (haveK (us.take k)) := has.map.kept HW.out
      have HMAP := Lib.hid hmap
      have HBW : Hid (Below w.heap.size w wu) := Lib.hid (has.below.trans (HW.out.mono has.below.size))
      have hroom : w.heap.size + 1 ≤ wu.heap.size := by have := hmap.lt.1; omega
      clear has hu hmap
      go_wp2_with fail
      rw [← hwu']
      clear hwu' c0 c1' c2' c3 c4 c5 c6 c7 c8 c9
      have hHd : Below wu.heap.size wu wu.drew := (Below.refl _ _).drew
      obtain ⟨wk, hwk'⟩ : ∃ wk, wk = (wu.alloc (.cells #[.int .i64 kind] 3)).drew := ⟨_, rfl⟩
      have hbk : Below wu.heap.size wu wk := by rw [hwk']; exact ((Below.refl _ _).alloc (Nat.le_refl _) _).drew
      have hck : wk.cell? ⟨wu.heap.size, 0, none⟩ = some (.int .i64 kind) := by rw [hwk']; exact cell_one_new wu (.int .i64 kind) 3 0 _ rfl
      have HNE : Hid (∀ v W, Below wu.heap.size wu W → OwnI W (w.heap.size + 1) 3 v (haveK (us.take k) inc) → v.ownBlock = some wr.heap.size → False) := Lib.hid (fun v W hb ho e => own_type ho e (by rw [hb.block _ HUL.out]; exact HUB.out) (by decide))
      have HNB : Hid (some wr.heap.size ≠ some b) := Lib.hid (by intro e; injection e with e; have := HAS.out.map.lt.1; omega)
      have HRK : Hid (w.heap.size + 1 ≤ wk.heap.size) := Lib.hid (Nat.le_trans hroom hbk.size)
      refine wp_region_held_drew (S := fun W => W.cell? ⟨wr.heap.size, 1, none⟩ = some (.int .i64 kind) ∧ W.cell? ⟨wr.heap.size, 7, none⟩ = some (.int .i64 inc)) (by kernel_rfl) (HC.out _ hHd) (fun hHeld => ?_)
      refine wpAnyH_take (i := 0) (v := .map (some b)) rfl (by kernel_rfl) (by kernel_rfl) (by kernel_rfl) (fun _ _ _ h => h) (Or.inl ⟨by rfl, ?_⟩) (by assumption) ?_
      · intro w hSw
        go_simp
      show wpAnyH _ _ _ _ _ _ _ (Act.put _ (some 23) _) _
      simp only [Act.put, List.setIfInBounds_toArray, List.set_cons_zero, List.set_cons_succ]
      refine wpAnyH_take (i := 1) (v := .pointer (some ⟨wr.heap.size, 7, none⟩)) rfl (by kernel_rfl) (by kernel_rfl) (by kernel_rfl) (fun _ _ _ h => h) (Or.inl ⟨by rfl, ?_⟩) (by assumption) ?_
      · intro w hSw
        go_simp
      show wpAnyH _ _ _ _ _ _ _ (Act.put _ (some 24) _) _
      simp only [Act.put, List.setIfInBounds_toArray, List.set_cons_zero, List.set_cons_succ]
      refine wpAnyH_take (i := 2) (v := .int .i64 inc) rfl (by kernel_rfl) (by kernel_rfl) (by kernel_rfl) (fun _ _ _ h => h) (Or.inl ⟨by rfl, ?_⟩) (by assumption) ?_
      · intro w hSw
        obtain ⟨s1, s2⟩ := hSw
        go_simp
      show wpAnyH _ _ _ _ _ _ _ (Act.put _ (some 25) _) _
      simp only [Act.put, List.setIfInBounds_toArray, List.set_cons_zero, List.set_cons_succ]
      refine wpAnyH_take (i := 3) (v := .map (some b)) rfl (by kernel_rfl) (by kernel_rfl) (by kernel_rfl) (fun _ _ _ h => h) (Or.inl ⟨by rfl, ?_⟩) (by assumption) ?_
      · intro w hSw
        go_simp
      show wpAnyH _ _ _ _ _ _ _ (Act.put _ (some 26) _) _
      simp only [Act.put, List.setIfInBounds_toArray, List.set_cons_zero, List.set_cons_succ]
      refine wpAnyH_take (i := 4) (v := .pointer (some ⟨wr.heap.size, 7, none⟩)) rfl (by kernel_rfl) (by kernel_rfl) (by kernel_rfl) (fun _ _ _ h => h) (Or.inl ⟨by rfl, ?_⟩) (by assumption) ?_
      · intro w hSw
        go_simp
      show wpAnyH _ _ _ _ _ _ _ (Act.put _ (some 27) _) _
      simp only [Act.put, List.setIfInBounds_toArray, List.set_cons_zero, List.set_cons_succ]
      refine wpAnyH_take (i := 5) (v := .int .i64 inc) rfl (by kernel_rfl) (by kernel_rfl) (by kernel_rfl) (fun _ _ _ h => h) (Or.inl ⟨by rfl, ?_⟩) (by assumption) ?_
      · intro w hSw
        obtain ⟨s1, s2⟩ := hSw
        go_simp
      show wpAnyH _ _ _ _ _ _ _ (Act.put _ (some 28) _) _
      simp only [Act.put, List.setIfInBounds_toArray, List.set_cons_zero, List.set_cons_succ]
      refine wpAnyH_take (i := 7) (v := .pointer (some ⟨wr.heap.size, 1, none⟩)) rfl (by kernel_rfl) (by kernel_rfl) (by kernel_rfl) (fun _ _ _ h => h) (Or.inl ⟨by rfl, ?_⟩) (by assumption) ?_
      · intro w hSw
        go_simp
      show wpAnyH _ _ _ _ _ _ _ (Act.put _ (some 30) _) _
      simp only [Act.put, List.setIfInBounds_toArray, List.set_cons_zero, List.set_cons_succ]
      refine wpAnyH_take (i := 8) (v := .int .i64 kind) rfl (by kernel_rfl) (by kernel_rfl) (by kernel_rfl) (fun _ _ _ h => h) (Or.inl ⟨by rfl, ?_⟩) (by assumption) ?_
      · intro w hSw
        obtain ⟨s1, s2⟩ := hSw
        go_simp
      show wpAnyH _ _ _ _ _ _ _ (Act.put _ (some 31) _) _
      simp only [Act.put, List.setIfInBounds_toArray, List.set_cons_zero, List.set_cons_succ]
      refine wpAnyH_ready (rs := [6, 9]) (by kernel_rfl) (by simp) ?_
      refine AllReadyH.cons rfl (fun K hK => ?_) (AllReadyH.cons rfl (fun K hK => ?_) AllReadyH.nil)
      · obtain ⟨v, hrun, hown, hwz, hzl, hback⟩ := ((HMAP.out.kept hHd)).at (t := 120) Tryz.underlying2 Tryz.underlying120 (rows_zero _) (by omega) hwi
        refine step_lookup _ (by rfl) (.tmp 26) (.tmp 28) 120 (by rfl) _ _ v (by rfl) (by rfl) hrun ?_
        refine hK.out _ _ (HC.out _ hHd) (fun hHeld => ?_)
        clear hK K
        refine wpAnyH_ready (rs := [9]) (by kernel_rfl) (by simp) ?_
        refine AllReadyH.cons rfl (fun K hK => ?_) AllReadyH.nil
        go_simp
        refine hK.out _ _ (HC.out _ (hHd.alloc (Nat.le_refl _) _)) (fun hHeld => ?_)
        clear hK K
        have hown1 : OwnI wk (w.heap.size + 1) 3 v (haveK (us.take k) inc) := by rw [hwk']; exact OwnV.drew (OwnV.alloc (w := wu) hown _)
        have hgr : wu.drew.grownBy wk v.ownBlock := by rw [hwk']; have q := World.grownBy_alloc wu (.cells #[.int .i64 kind] 3) v.ownBlock; exact ⟨q.os, q.tape, q.output, q.size, q.block⟩
        rw [← hwk']
        refine wpAnyH_ready (rs := [10]) (by kernel_rfl) (by simp) ?_
        refine AllReadyH.cons rfl (fun K hK => ?_) AllReadyH.nil
        refine step_append_cell _ (by rfl) (.tmp 29) (.tmp 32) 44 (by rfl) (w.heap.size + 1) 3 Tryz.underlying44 int_info v (haveK (us.take k) inc) kind (by rfl) hown1 wu.heap.size (by rfl) hck (by omega) HRK.out ?_
        intro g cap w4 h4 hg4 hat4
        have hne : some wr.heap.size ≠ v.ownBlock := fun e => HNE.out v _ hbk hown1 e.symm
        have hcc : w4.cell? ⟨wr.heap.size, 1, none⟩ = some (.int .i64 kind) ∧ w4.cell? ⟨wr.heap.size, 7, none⟩ = some (.int .i64 inc) := ⟨hg4.cell (HC.out _ hbk).1 hne, hg4.cell (HC.out _ hbk).2 hne⟩
        refine hK.out _ _ hcc (fun hHeld => ?_)
        clear hK K
        obtain ⟨w5, hrun5, hmap5, hg5⟩ := hback.append hgr hwz hwk hzl h4 hg4 hat4
        refine wpAnyH_ready (rs := [11]) (by kernel_rfl) (by simp) ?_
        refine AllReadyH.cons rfl (fun K hK => ?_) AllReadyH.nil
        refine step_mapUpdate _ (by rfl) (.tmp 23) (.tmp 25) (.tmp 33) 120 (by rfl) _ _ _ (by rfl) (by rfl) (by rfl) hrun5 ?_
        have hcc5 : w5.cell? ⟨wr.heap.size, 1, none⟩ = some (.int .i64 kind) ∧ w5.cell? ⟨wr.heap.size, 7, none⟩ = some (.int .i64 inc) := ⟨hg5.cell hcc.1 HNB.out, hg5.cell hcc.2 HNB.out⟩
        refine hK.out _ _ hcc5 (fun hHeld => ?_)
        clear hK K
        refine wpAnyH_done (by kernel_rfl) ?_ _
        have HFIN : Hid (Assigned w us b (k + 1) w5) := Lib.hid ⟨by rw [HTK.out]; exact hmap5, ((HBW.out.trans (hbk.mono HBW.out.size)).grown hg4 (Nat.le_of_succ_le HRK.out) (fun j hj => by have := OwnV.ge_base hown1 j hj; omega)).grown hg5 (Nat.le_trans (Nat.le_of_succ_le HRK.out) hg4.size) (fun j hj => by cases hj; exact hbz)⟩
        clear hown hown1 hwz hzl hback h4 hg4 hat4 hne hcc hcc5 hrun5 hmap5 hg5 hrun hHeld hHd hck hbk hgr
        go_wp2_with fail
        go_roundw
        case rel => exact ⟨k + 1, by omega, by go_num, HFIN.out⟩
        case measure => simp [intOf]; omega
      · go_simp
        refine hK.out _ _ (HC.out _ (hHd.alloc (Nat.le_refl _) _)) (fun hHeld => ?_)
        clear hK K
        rw [← hwk']
        refine wpAnyH_ready (rs := [6]) (by kernel_rfl) (by simp) ?_
        refine AllReadyH.cons rfl (fun K hK => ?_) AllReadyH.nil
        obtain ⟨v, hrun, hown, hwz, hzl, hback⟩ := ((HMAP.out.kept hbk)).at (t := 120) Tryz.underlying2 Tryz.underlying120 (rows_zero _) (by omega) hwi
        refine step_lookup _ (by rfl) (.tmp 26) (.tmp 28) 120 (by rfl) _ _ v (by rfl) (by rfl) hrun ?_
        refine hK.out _ _ (HC.out _ hbk) (fun hHeld => ?_)
        clear hK K
        have hown1 := hown
        have hgr : wk.grownBy wk v.ownBlock := World.grownBy.refl _ _
        refine wpAnyH_ready (rs := [10]) (by kernel_rfl) (by simp) ?_
        refine AllReadyH.cons rfl (fun K hK => ?_) AllReadyH.nil
        refine step_append_cell _ (by rfl) (.tmp 29) (.tmp 32) 44 (by rfl) (w.heap.size + 1) 3 Tryz.underlying44 int_info v (haveK (us.take k) inc) kind (by rfl) hown1 wu.heap.size (by rfl) hck (by omega) HRK.out ?_
        intro g cap w4 h4 hg4 hat4
        have hne : some wr.heap.size ≠ v.ownBlock := fun e => HNE.out v _ hbk hown1 e.symm
        have hcc : w4.cell? ⟨wr.heap.size, 1, none⟩ = some (.int .i64 kind) ∧ w4.cell? ⟨wr.heap.size, 7, none⟩ = some (.int .i64 inc) := ⟨hg4.cell (HC.out _ hbk).1 hne, hg4.cell (HC.out _ hbk).2 hne⟩
        refine hK.out _ _ hcc (fun hHeld => ?_)
        clear hK K
        obtain ⟨w5, hrun5, hmap5, hg5⟩ := hback.append hgr hwz hwk hzl h4 hg4 hat4
        refine wpAnyH_ready (rs := [11]) (by kernel_rfl) (by simp) ?_
        refine AllReadyH.cons rfl (fun K hK => ?_) AllReadyH.nil
        refine step_mapUpdate _ (by rfl) (.tmp 23) (.tmp 25) (.tmp 33) 120 (by rfl) _ _ _ (by rfl) (by rfl) (by rfl) hrun5 ?_
        have hcc5 : w5.cell? ⟨wr.heap.size, 1, none⟩ = some (.int .i64 kind) ∧ w5.cell? ⟨wr.heap.size, 7, none⟩ = some (.int .i64 inc) := ⟨hg5.cell hcc.1 HNB.out, hg5.cell hcc.2 HNB.out⟩
        refine hK.out _ _ hcc5 (fun hHeld => ?_)
        clear hK K
        refine wpAnyH_done (by kernel_rfl) ?_ _
        have HFIN : Hid (Assigned w us b (k + 1) w5) := Lib.hid ⟨by rw [HTK.out]; exact hmap5, ((HBW.out.trans (hbk.mono HBW.out.size)).grown hg4 (Nat.le_of_succ_le HRK.out) (fun j hj => by have := OwnV.ge_base hown1 j hj; omega)).grown hg5 (Nat.le_trans (Nat.le_of_succ_le HRK.out) hg4.size) (fun j hj => by cases hj; exact hbz)⟩
        clear hown hown1 hwz hzl hback h4 hg4 hat4 hne hcc hcc5 hrun5 hmap5 hg5 hrun hHeld hHd hck hbk hgr
        go_wp2_with fail
        go_roundw
        case rel => exact ⟨k + 1, by omega, by go_num, HFIN.out⟩
        case measure => simp [intOf]; omega
    · have hkk : k = us.length := by omega
      subst hkk
      have HM : Hid (MapG Tryz.prog 2 3 wr (w.heap.size + 1) b us.length (haveK us)) := Lib.hid (by have := has.map; rw [List.take_length] at this; exact this)
      have hb := has.below
      have HB := Lib.hid hb
      have hop := openOnes_any A c xs wr ((HI.out.below hb).more hb.size) hl
      have HOP := Lib.hid hop
      clear has HAS hb hop
      go_wp2_with fail
      ((with_reducible refine HOP.out.mono ?_))
      rintro e w1 ⟨v1, rfl, hown, hb1⟩
      obtain ⟨ys, hys⟩ : ∃ ys, ys = sortK (xs.filter openI) := ⟨_, rfl⟩
      have HYM : Hid (∀ y ∈ ys, y ∈ xs) := Lib.hid (by
        intro y hy
        rw [hys, mem_sortK] at hy
        exact (List.mem_filter.1 hy).1)
      have hyl : ys.length ≤ 19 := by
        rw [hys, sortK_len]
        exact Nat.le_trans (List.length_filter_le _ _) hl
      have HSL : Hid (slotsL xs us ps = ys.flatMap (slotsX us ps)) := Lib.hid (by rw [hys]; rfl)
      rw [← hys] at hown
      obtain ⟨A3, c3, rfl, hsl3⟩ := hown.sl
      have HYS := Lib.hid hsl3
      have HB1 := Lib.hid (HB.out.trans (hb1.mono HB.out.size))
      have HM1 := Lib.hid (HM.out.kept hb1)
      clear hys hown hsl3 hb1 HOP HM HB
      go_wp2_with fail
      go_loopw [10, 38] (fun v iv wr => ∃ (k : Nat) (ss : List SlotT), k ≤ ys.length ∧ iv = .int .i64 k ∧ SlotsTo w1.heap.size v ((ys.take k).flatMap (slotsX us ps)) wr ss ∧ Below w1.heap.size w1 wr) (fun _ i _ => ys.length - (intOf i).toNat)
      case atStart => exact ⟨0, [], Nat.zero_le _, rfl, SlotsTo.start _ _, Below.refl _ _⟩
      case round =>
        obtain ⟨k, ss0, hk, rfl, hst, hb⟩ := hrel
        have HST := Lib.hid hst
        have HB := Lib.hid hb
        by_cases hlt : k < ys.length
        · obtain ⟨x, hx⟩ : ∃ x, ys[k]? = some x := ⟨ys[k], by simp⟩
          obtain ⟨bu, ou, rfl, hbu, c0, c1', c2', c3', c4, c5, c6, c7, c8, c9⟩ := inc_at (HYS.out.below hb) hx
          have hxm : x ∈ xs := HYM.out x (List.mem_of_getElem? hx)
          have hwfx := HWF.out x hxm
          have hsmx := HSML.out x hxm
          have hwid := hwfx.id
          have HNIL := Lib.hid hwfx.nnil
          have HNX : Hid (Sl w w.heap.size x.nA (x.nodes.map (Value.int .i64))) := Lib.hid (HND.out x hxm)
          obtain ⟨L0, hL0⟩ : ∃ L0, L0 = (ys.take k).flatMap (slotsX us ps) := ⟨_, rfl⟩
          have HTK : Hid ((ys.take (k + 1)).flatMap (slotsX us ps) = L0 ++ slotsX us ps x) := Lib.hid (by rw [take_snoc' hx, List.flatMap_append, hL0]; simp)
          have hL0l : L0.length ≤ k * 20 := by rw [hL0]; exact Nat.le_trans (slots_len HSM.out us _) (Nat.mul_le_mul_right 20 (List.length_take_le _ _))
          rw [← hL0] at HST
          obtain ⟨wx, hwx⟩ : ∃ wx, wx = wr.alloc (objI x) := ⟨_, rfl⟩
          have HBX0 : Hid (∀ W, Below wx.heap.size wx W → W.cell? ⟨wr.heap.size, 0, none⟩ = some (.int .i64 x.id) ∧ W.cell? ⟨wr.heap.size, 1, none⟩ = some (.int .i64 x.urg) ∧ W.cell? ⟨wr.heap.size, 2, none⟩ = some (.string x.code) ∧ W.cell? ⟨wr.heap.size, 5, none⟩ = some (.int .i64 x.since) ∧ W.cell? ⟨wr.heap.size, 3, none⟩ = some (.slice x.nA x.nodes.length x.nc)) := Lib.hid (by
            intro W hbW
            have hlt : wr.heap.size < wx.heap.size := by rw [hwx]; simp
            have key : ∀ j, W.cell? ⟨wr.heap.size, j, none⟩ = wx.cell? ⟨wr.heap.size, j, none⟩ := fun j => hbW.cell (p := ⟨wr.heap.size, j, none⟩) hlt
            refine ⟨?_, ?_, ?_, ?_, ?_⟩ <;> rw [key, hwx, objI, World.cell?_alloc_at (hn := rfl)] <;> rfl)
          have HXB : Hid (Below wr.heap.size wr wx) := Lib.hid (by rw [hwx]; exact (Below.refl _ _).alloc (Nat.le_refl _) _)
          have hxz : wr.heap.size < wx.heap.size := by rw [hwx]; simp
          have HWX : Hid (Below w.heap.size w wx) := Lib.hid ((HB1.out.trans (hb.mono HB1.out.size)).trans (HXB.out.mono (Nat.le_trans HB1.out.size hb.size)))
          have hrq := required_any A2 c2 ps x.code x.urg wx ((HP.out.below HWX.out).more HWX.out.size) hpl HSM.out
          have HRQ := Lib.hid hrq
          have HKL := Lib.hid (kindsL_len (code := x.code) (urg := x.urg) HSM.out)
          have HKW := Lib.hid (kindsL_wf HP.out x.code x.urg)
          have HYK : Hid (ys[k]? = some x) := Lib.hid hx
          clear hst hb hx hL0 hxm hwfx hrq
          unfold objI at hwx
          go_wp2_with fail
          rw [← hwx]
          obtain ⟨k0, k1, k2, k3, k4⟩ := HBX0.out wx (Below.refl _ _)
          clear hwx c0 c1' c2' c3' c4 c5 c6 c7 c8 c9
          go_wp2_with fail
          ((with_reducible refine HRQ.out.mono ?_))
          rintro e w4 ⟨v4, rfl, hown4, hb4⟩
          obtain ⟨A4, c4, rfl, hsl4⟩ := OwnV.sl hown4
          clear k0 k1 k2 k3 k4 hown4 HRQ
          obtain ⟨k0, k1, k2, k3, k4⟩ := HBX0.out w4 hb4
          have HB4 := Lib.hid hb4
          have HB14 : Hid (Below w1.heap.size w1 w4) := Lib.hid ((HB.out.trans (HXB.out.mono HB.out.size)).trans (hb4.mono (Nat.le_trans HB.out.size HXB.out.size)))
          obtain ⟨v5, hrun, hown5, hwz5, hzl5, _⟩ := (HM1.out.kept HB14.out).at (t := 120) Tryz.underlying2 Tryz.underlying120 (rows_zero _) (by omega) hwid
          obtain ⟨A5, c5, rfl, hsl5⟩ := OwnV.sl hown5
          have hun := unmet_any A4 A5 c4 c5 (kindsL ps x.code x.urg) (haveK us x.id) w4 hsl4 hsl5 HKW.out hwz5 (by have := HKL.out; omega) (by omega)
          have HUN := Lib.hid hun
          clear hb4 hsl4 hsl5 hown5 hwz5 hun
          go_wp2_with (at_lookup; refine wpList_lookup_run _ rfl (.tmp 49) (.tmp 51) 120 rfl _ _ _ rfl rfl hrun ?_)
          ((with_reducible refine HUN.out.mono ?_))
          rintro e w5 ⟨v6, rfl, hown6, hb5⟩
          obtain ⟨zs, hzs⟩ : ∃ zs, zs = unmet (kindsL ps x.code x.urg) (haveK us x.id) := ⟨_, rfl⟩
          rw [← hzs] at hown6
          have hzl : zs.length ≤ 20 := by rw [hzs]; exact Nat.le_trans (unmet_len _ _) HKL.out
          have HSX : Hid (slotsX us ps x = zs.map (fun kd => ⟨x.id, x.urg, x.since, kd, x.nodes⟩)) := Lib.hid (by rw [hzs]; rfl)
          have HB5 := Lib.hid (HB4.out.trans (hb5.mono HB4.out.size))
          have HST5 := Lib.hid (HST.out.kept_new (HXB.out.trans (HB5.out.mono HXB.out.size)))
          have HAP := Lib.hid (rows_apart HST5.out.own hown6)
          obtain ⟨A6, c6, rfl, hsl6⟩ := OwnV.sl hown6
          have HZS := Lib.hid hsl6
          have HW5 : Hid (Below w1.heap.size w1 w5) := Lib.hid (HB14.out.trans (hb5.mono HB14.out.size))
          obtain ⟨v0, hv0⟩ : ∃ v0, v0 = u10 := ⟨_, rfl⟩
          have HV0 : Hid (∀ q, v0.ownBlock = some q → w1.heap.size ≤ q ∧ q < wr.heap.size) := Lib.hid (fun q hq => by rw [hv0] at hq; exact ⟨HST.out.own.ge_base q hq, HST.out.own.lt_size q hq⟩)
          rw [← hv0] at HST5 HAP ⊢
          have hz5 : wx.heap.size ≤ w5.heap.size := HB5.out.size
          obtain ⟨bx, hbx⟩ : ∃ bx, bx = wr.heap.size := ⟨_, rfl⟩
          have HBX5 := Lib.hid (HBX0.out w5 HB5.out)
          rw [← hbx] at HBX5 HV0 ⊢
          have hbx5 : bx < w5.heap.size := by omega
          have HWW : Hid (Below w.heap.size w w5) := Lib.hid (HB1.out.trans (HW5.out.mono HB1.out.size))
          have hw15 : w1.heap.size ≤ w5.heap.size := HW5.out.size
          clear hown6 hsl6 hb5 hzs hv0 hbx HUN HST HBX0 k0 k1 k2 k3 k4 hrun HB4 HB14 HB5 HXB HWX hxz hz5
          go_wp2_with fail
          go_loopw [10, 55] (fun v jv wr => ∃ (j : Nat) (ss : List SlotT), j ≤ zs.length ∧ jv = .int .i64 j ∧ SlotsTo w1.heap.size v (L0 ++ (zs.take j).map (fun kd => ⟨x.id, x.urg, x.since, kd, x.nodes⟩)) wr ss ∧ Only (fun q => v0.ownBlock = some q) w5 wr ∧ ∀ q, v.ownBlock = some q → v0.ownBlock = some q ∨ w5.heap.size ≤ q) (fun _ i _ => zs.length - (intOf i).toNat)
          case atStart => exact ⟨0, ss0, Nat.zero_le _, rfl, by simpa using HST5.out, Only.refl, fun q hq => .inl hq⟩
          case round =>
            clear HST5
            obtain ⟨j, ss, hj, rfl, hst, honly, hvq⟩ := hrel
            have HST3 := Lib.hid hst
            have HON := Lib.hid honly
            have HVQ := Lib.hid hvq
            have hsz : w5.heap.size ≤ wr.heap.size := honly.size
            have hssl : ss.length ≤ 400 := by
              have := congrArg List.length hst.strip
              rw [List.length_map, List.length_append, List.length_map, List.length_take] at this
              omega
            clear hst honly hvq
            by_cases hjl : j < zs.length
            · obtain ⟨kd, hkd⟩ : ∃ kd, zs[j]? = some kd := ⟨zs[j], by simp⟩
              obtain ⟨b6, o6, rfl, hb6l, hc6⟩ := HZS.out.int hkd
              have hcz : wr.cell? ⟨b6, o6 + j, none⟩ = some (.int .i64 kd) := (HON.out.cell (a := ⟨b6, o6 + j, none⟩) hb6l (fun e => by
                rcases HAP.out with h | h
                · cases h
                · exact h e.symm)).trans hc6
              have HTJ : Hid ((zs.take (j + 1)).map (fun kd => (⟨x.id, x.urg, x.since, kd, x.nodes⟩ : SlotP)) = (zs.take j).map (fun kd => (⟨x.id, x.urg, x.since, kd, x.nodes⟩ : SlotP)) ++ [⟨x.id, x.urg, x.since, kd, x.nodes⟩]) := Lib.hid (by rw [take_snoc' hkd, List.map_append]; rfl)
              have hbxl : bx < wr.heap.size := by omega
              have hnb : ¬ v0.ownBlock = some bx := fun e => by have := (HV0.out bx e).2; omega
              have HBX : Hid (wr.cell? ⟨bx, 0, none⟩ = some (.int .i64 x.id) ∧ wr.cell? ⟨bx, 1, none⟩ = some (.int .i64 x.urg) ∧ wr.cell? ⟨bx, 5, none⟩ = some (.int .i64 x.since) ∧ wr.cell? ⟨bx, 3, none⟩ = some (.slice x.nA x.nodes.length x.nc)) := Lib.hid ⟨(HON.out.cell (a := ⟨bx, 0, none⟩) hbx5 hnb).trans HBX5.out.1, (HON.out.cell (a := ⟨bx, 1, none⟩) hbx5 hnb).trans HBX5.out.2.1, (HON.out.cell (a := ⟨bx, 5, none⟩) hbx5 hnb).trans HBX5.out.2.2.2.1, (HON.out.cell (a := ⟨bx, 3, none⟩) hbx5 hnb).trans HBX5.out.2.2.2.2⟩
              obtain ⟨v, hv⟩ : ∃ v, v = u10 := ⟨_, rfl⟩
              rw [← hv] at HST3 HVQ ⊢
              have hbxv : ¬ v.ownBlock = some bx := fun e => by
                rcases HVQ.out bx e with h | h
                · exact hnb h
                · omega
              have HBR : Hid (Below w.heap.size w wr) := Lib.hid (HWW.out.trans ((HON.out.below (B := w.heap.size) HWW.out.size (fun q hq => by have := (HV0.out q hq).1; have := HB1.out.size; omega))))
              have hwz : w1.heap.size ≤ wr.heap.size := Nat.le_trans hw15 hsz
              have HCLONE := Lib.hid (clone_any x.nA x.nc x.nodes wr.drew (((HNX.out.below HBR.out).more HBR.out.size).drew) (by omega) HNIL.out)
              clear hkd hc6 hv hnb
              go_wp2_with fail
              clear hcz
              refine wp_region_held_drew (S := fun W => W.cell? ⟨bx, 0, none⟩ = some (.int .i64 x.id) ∧ W.cell? ⟨bx, 1, none⟩ = some (.int .i64 x.urg) ∧ W.cell? ⟨bx, 5, none⟩ = some (.int .i64 x.since) ∧ W.cell? ⟨bx, 3, none⟩ = some (.slice x.nA x.nodes.length x.nc)) (by kernel_rfl) HBX.out (fun hHeld => ?_)
              refine wpAnyH_take (i := 0) (v := v) rfl (by kernel_rfl) (by kernel_rfl) (by kernel_rfl) (fun _ _ _ h => h) (Or.inl ⟨by rfl, ?_⟩) (by assumption) ?_
              · intro w hSw
                go_simp
              show wpAnyH _ _ _ _ _ _ _ (Act.put _ (some 59) _) _
              simp only [Act.put, List.setIfInBounds_toArray, List.set_cons_zero, List.set_cons_succ]
              refine wpAnyH_take (i := 1) (v := .pointer (some ⟨bx, 0, none⟩)) rfl (by kernel_rfl) (by kernel_rfl) (by kernel_rfl) (fun _ _ _ h => h) (Or.inl ⟨by rfl, ?_⟩) (by assumption) ?_
              · intro w hSw
                go_simp
              show wpAnyH _ _ _ _ _ _ _ (Act.put _ (some 60) _) _
              simp only [Act.put, List.setIfInBounds_toArray, List.set_cons_zero, List.set_cons_succ]
              refine wpAnyH_take (i := 2) (v := .int .i64 x.id) rfl (by kernel_rfl) (by kernel_rfl) (by kernel_rfl) (fun _ _ _ h => h) (Or.inl ⟨by rfl, ?_⟩) (by assumption) ?_
              · intro w hSw
                obtain ⟨s1, s2, s3, s4⟩ := hSw
                go_simp
              show wpAnyH _ _ _ _ _ _ _ (Act.put _ (some 61) _) _
              simp only [Act.put, List.setIfInBounds_toArray, List.set_cons_zero, List.set_cons_succ]
              refine wpAnyH_take (i := 3) (v := .pointer (some ⟨bx, 1, none⟩)) rfl (by kernel_rfl) (by kernel_rfl) (by kernel_rfl) (fun _ _ _ h => h) (Or.inl ⟨by rfl, ?_⟩) (by assumption) ?_
              · intro w hSw
                go_simp
              show wpAnyH _ _ _ _ _ _ _ (Act.put _ (some 62) _) _
              simp only [Act.put, List.setIfInBounds_toArray, List.set_cons_zero, List.set_cons_succ]
              refine wpAnyH_take (i := 4) (v := .int .i64 x.urg) rfl (by kernel_rfl) (by kernel_rfl) (by kernel_rfl) (fun _ _ _ h => h) (Or.inl ⟨by rfl, ?_⟩) (by assumption) ?_
              · intro w hSw
                obtain ⟨s1, s2, s3, s4⟩ := hSw
                go_simp
              show wpAnyH _ _ _ _ _ _ _ (Act.put _ (some 63) _) _
              simp only [Act.put, List.setIfInBounds_toArray, List.set_cons_zero, List.set_cons_succ]
              refine wpAnyH_take (i := 5) (v := .pointer (some ⟨bx, 5, none⟩)) rfl (by kernel_rfl) (by kernel_rfl) (by kernel_rfl) (fun _ _ _ h => h) (Or.inl ⟨by rfl, ?_⟩) (by assumption) ?_
              · intro w hSw
                go_simp
              show wpAnyH _ _ _ _ _ _ _ (Act.put _ (some 64) _) _
              simp only [Act.put, List.setIfInBounds_toArray, List.set_cons_zero, List.set_cons_succ]
              refine wpAnyH_take (i := 6) (v := .int .i64 x.since) rfl (by kernel_rfl) (by kernel_rfl) (by kernel_rfl) (fun _ _ _ h => h) (Or.inl ⟨by rfl, ?_⟩) (by assumption) ?_
              · intro w hSw
                obtain ⟨s1, s2, s3, s4⟩ := hSw
                go_simp
              show wpAnyH _ _ _ _ _ _ _ (Act.put _ (some 65) _) _
              simp only [Act.put, List.setIfInBounds_toArray, List.set_cons_zero, List.set_cons_succ]
              refine wpAnyH_take (i := 7) (v := .int .i64 kd) rfl (by kernel_rfl) (by kernel_rfl) (by kernel_rfl) (fun _ _ _ h => h) (Or.inl ⟨by rfl, ?_⟩) (by assumption) ?_
              · intro w hSw
                go_simp
              show wpAnyH _ _ _ _ _ _ _ (Act.put _ (some 66) _) _
              simp only [Act.put, List.setIfInBounds_toArray, List.set_cons_zero, List.set_cons_succ]
              refine wpAnyH_take (i := 8) (v := .pointer (some ⟨bx, 3, none⟩)) rfl (by kernel_rfl) (by kernel_rfl) (by kernel_rfl) (fun _ _ _ h => h) (Or.inl ⟨by rfl, ?_⟩) (by assumption) ?_
              · intro w hSw
                go_simp
              show wpAnyH _ _ _ _ _ _ _ (Act.put _ (some 67) _) _
              simp only [Act.put, List.setIfInBounds_toArray, List.set_cons_zero, List.set_cons_succ]
              refine wpAnyH_take (i := 9) (v := .slice x.nA x.nodes.length x.nc) rfl (by kernel_rfl) (by kernel_rfl) (by kernel_rfl) (fun _ _ _ h => h) (Or.inl ⟨by rfl, ?_⟩) (by assumption) ?_
              · intro w hSw
                obtain ⟨s1, s2, s3, s4⟩ := hSw
                go_simp
              show wpAnyH _ _ _ _ _ _ _ (Act.put _ (some 68) _) _
              simp only [Act.put, List.setIfInBounds_toArray, List.set_cons_zero, List.set_cons_succ]
              refine wpAnyH_ready (rs := [10]) (by kernel_rfl) (by simp) ?_
              refine AllReadyH.cons rfl (fun K hK => ?_) AllReadyH.nil
              go_simp
              ((with_reducible refine HCLONE.out.mono ?_))
              rintro e w6 ⟨v6, rfl, hown6, hb6⟩
              obtain ⟨A6, c6, rfl, _⟩ := OwnV.sl hown6
              have hcl : w6.cell? ⟨bx, 0, none⟩ = some (.int .i64 x.id) ∧ w6.cell? ⟨bx, 1, none⟩ = some (.int .i64 x.urg) ∧ w6.cell? ⟨bx, 5, none⟩ = some (.int .i64 x.since) ∧ w6.cell? ⟨bx, 3, none⟩ = some (.slice x.nA x.nodes.length x.nc) := ⟨(hb6.cell (p := ⟨bx, 0, none⟩) hbxl).trans HBX.out.1, (hb6.cell (p := ⟨bx, 1, none⟩) hbxl).trans HBX.out.2.1, (hb6.cell (p := ⟨bx, 5, none⟩) hbxl).trans HBX.out.2.2.1, (hb6.cell (p := ⟨bx, 3, none⟩) hbxl).trans HBX.out.2.2.2⟩
              go_simp
              refine hK.out _ _ hcl (fun hHeld => ?_)
              clear hK K
              refine wpAnyH_take (i := 11) (v := .agg #[.int .i64 x.id, .int .i64 x.urg, .int .i64 x.since, .int .i64 kd, .slice A6 x.nodes.length c6]) rfl (by kernel_rfl) (by kernel_rfl) (by kernel_rfl) (fun _ _ _ h => h) (Or.inl ⟨by rfl, ?_⟩) (by assumption) ?_
              · intro w hSw
                go_simp
              show wpAnyH _ _ _ _ _ _ _ (Act.put _ (some 70) _) _
              simp only [Act.put, List.setIfInBounds_toArray, List.set_cons_zero, List.set_cons_succ]
              have HST6 := Lib.hid (HST3.out.kept_new (⟨hb6.os, hb6.tape, hb6.output, hb6.size, hb6.block⟩ : Below wr.heap.size wr w6))
              have hz6 := hb6.size
              have hb7 := (Below.refl w6.heap.size w6).alloc (Nat.le_refl _) (.cells #[.int .i64 x.id, .int .i64 x.urg, .int .i64 x.since, .int .i64 kd, .slice A6 x.nodes.length c6] 91)
              refine wpAnyH_ready (rs := [12]) (by kernel_rfl) (by simp) ?_
              refine AllReadyH.cons rfl (fun K hK => ?_) AllReadyH.nil
              go_simp
              refine hK.out _ _ ⟨(hb7.cell (p := ⟨bx, 0, none⟩) (Nat.lt_of_lt_of_le hbxl hz6)).trans hcl.1, (hb7.cell (p := ⟨bx, 1, none⟩) (Nat.lt_of_lt_of_le hbxl hz6)).trans hcl.2.1, (hb7.cell (p := ⟨bx, 5, none⟩) (Nat.lt_of_lt_of_le hbxl hz6)).trans hcl.2.2.1, (hb7.cell (p := ⟨bx, 3, none⟩) (Nat.lt_of_lt_of_le hbxl hz6)).trans hcl.2.2.2⟩ (fun hHeld => ?_)
              clear hK K
              refine wpAnyH_ready (rs := [13]) (by kernel_rfl) (by simp) ?_
              refine AllReadyH.cons rfl (fun K hK => ?_) AllReadyH.nil
              refine step_append_rec _ (by rfl) (.tmp 59) (.tmp 71) 85 (by rfl) w1.heap.size 91 Tryz.underlying85 slot_info rfl (by omega) (by omega) cellsS_len v ss w6 ⟨x.id, x.urg, x.since, kd, A6, x.nodes, c6⟩ (cellsS_one _) #[.int .i64 x.id, .int .i64 x.urg, .int .i64 x.since, .int .i64 kd, .slice A6 x.nodes.length c6] (by rfl) (by rfl) (by rfl) HST6.out.own w6.heap.size (by rfl) (by rfl) (by omega) (Nat.le_trans hwz hz6) ?_
              intro g cap w8 hown8 hg8 hat8
              have hbne : some bx ≠ v.ownBlock := fun e => hbxv e.symm
              refine hK.out _ _ ⟨hg8.cell hcl.1 hbne, hg8.cell hcl.2.1 hbne, hg8.cell hcl.2.2.1 hbne, hg8.cell hcl.2.2.2 hbne⟩ (fun hHeld => ?_)
              clear hK K
              refine wpAnyH_take (i := 14) (v := .slice (some ⟨g, 0, none⟩) (ss.length + 1) cap) rfl (by kernel_rfl) (by kernel_rfl) (by kernel_rfl) (fun _ _ _ h => h) (Or.inl ⟨by rfl, ?_⟩) (by assumption) ?_
              · intro w hSw
                go_simp
              refine wpAnyH_done (by kernel_rfl) ?_ _
              have hb6' : Below wr.heap.size wr w6 := ⟨hb6.os, hb6.tape, hb6.output, hb6.size, hb6.block⟩
              have HFIN := Lib.hid (HST6.out.append ⟨x.id, x.urg, x.since, kd, A6, x.nodes, c6⟩ (OwnV.base_le hown6 hwz) hown8 hg8)
              have HON8 : Hid (Only (fun q => v0.ownBlock = some q) w5 w8) := Lib.hid ((HON.out.trans (Only.of_below hb6' (S := fun _ => False)) (fun _ _ h => h.elim)).trans (Only.of_grown hg8 (S := fun q => v.ownBlock = some q) (fun q hq => hq)) (fun q hq h => by
                rcases HVQ.out q h with h' | h'
                · exact h'
                · omega))
              have HVQ8 : Hid (∀ q, some g = some q → v0.ownBlock = some q ∨ w5.heap.size ≤ q) := Lib.hid (fun q hq => by
                injection hq with hq
                subst hq
                rcases hat8 with h | h
                · exact HVQ.out _ h
                · right
                  have h1 : wr.heap.size ≤ w6.heap.size := hb6.size
                  omega)
              clear hown8 hg8 hat8 hbne hcl hb7 hb6 hb6' hown6 hHeld
              go_wp2_with fail
              go_roundw
              case rel =>
                refine ⟨j + 1, ss ++ [⟨x.id, x.urg, x.since, kd, A6, x.nodes, c6⟩], by omega, by go_num, ?_, HON8.out, fun q hq => HVQ8.out q hq⟩
                have := HFIN.out
                rw [List.append_assoc, ← HTJ.out] at this
                exact this
              case measure => simp [intOf]; omega
            · have hjj : j = zs.length := by omega
              subst hjj
              go_wp2_with fail
              go_roundw
              case rel =>
                refine ⟨k + 1, ss, by omega, by go_num, ?_, HW5.out.trans (HON.out.below hw15 (fun q hq => (HV0.out q hq).1))⟩
                rw [HTK.out, HSX.out]
                have := HST3.out
                rw [List.take_length] at this
                exact this
              case measure => simp [intOf]; omega
        · have hkk : k = ys.length := by omega
          subst hkk
          obtain ⟨A9, c9, hv9, _⟩ := hst.own.sl
          rw [hv9] at hst ⊢
          have HF := Lib.hid hst
          clear hv9 hst HST
          clear hb
          go_wp2_with fail
          go_ret
          refine ⟨A9, c9, ss0, rfl, ?_, HB1.out.trans (HB.out.mono HB1.out.size)⟩
          rw [HSL.out]
          have h9 := HF.out
          rw [List.take_length] at h9
          exact ⟨h9.own.base_le HB1.out.size, fun s hs => OwnV.base_le (h9.rows s hs) HB1.out.size, h9.strip⟩
end
end Go.Proofs.YtimijjhdgihobaaGreatDoor
