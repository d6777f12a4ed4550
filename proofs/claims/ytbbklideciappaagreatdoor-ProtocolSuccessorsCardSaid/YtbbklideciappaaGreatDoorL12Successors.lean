/-
  samaritanlaw12.ProtocolSuccessors returns true for every input, and the arguments read afterwards as before.
  Conditions: those of the given row (its list of package variables), tied to the program's text by the given tie; the card speaks of the pruned copy of the project that the seat was translated from.
-/
import Derived.Test.YtbbklideciappaaGreatDoorCards
import Derived.Test.YtbbklideciappaaGreatDoorTie
import Derived.Test.YtbbklideciappaaGreatDoorPqO
import Derived.Test.YtbbklideciappaaGreatDoorPqIW
import Derived.Test.YtbbklideciappaaGreatDoorPqS
import Derived.Test.YtbbklideciappaaGreatDoorPqG
import Derived.Test.YtbbklideciappaaGreatDoorLift
import Derived.Test.YtbbklideciappaaGreatDoorPqLd
import Derived.OpenShut
import Derived.Deep.RegionHeld3
import Derived.Deep.DeepHandedRow
namespace Go.Proofs.YtbbklideciappaaGreatDoor.l12Successors
open Go.ChangeShapes Go.WideShapes Go.ChangeAt Go.RowKit Go.Maps
open Go.ChangeMaps (open_string shut_string)

set_option maxRecDepth 100000 in
set_option maxHeartbeats 8000000 in
theorem walk (w : World) (p : Prot) (hp : ProtArg w p) (z : Int) (_wz : (Lit.int .i64 z).wf = true) (hr : Ready w) :
    Calls Tryz.prog 5 #[.agg #[.string p.name, .int .i64 p.ver, .slice p.qA p.qs.length p.qc], .int .i64 z] w fun e w' => e = .returned (.bool true) ∧ Below w.heap.size w w' := by
  have hb0 := below_new w (.cells #[.string p.name, .int .i64 p.ver, .slice p.qA p.qs.length p.qc] 24)
  have hz0 := lt_new w (.cells #[.string p.name, .int .i64 p.ver, .slice p.qA p.qs.length p.qc] 24)
  obtain ⟨f0, f1, f2⟩ := fresh3 w (.string p.name) (.int .i64 p.ver) (.slice p.qA p.qs.length p.qc) 24
  obtain ⟨W0, hW0⟩ : ∃ W0, W0 = w.alloc (.cells #[.string p.name, .int .i64 p.ver, .slice p.qA p.qs.length p.qc] 24) := ⟨_, rfl⟩
  rw [← hW0] at hb0 f0 f1 f2 hz0
  have HAT := Lib.hid ((hp.at_.below hb0).more hb0.size)
  have HWF := Lib.hid hp.wf
  have HR := Lib.hid hr
  have HB0 := Lib.hid hb0
  clear hp hb0 hr
  go_enter Tryz.func5, Tryz.ntmps5
  go_wp2_with fail
  rw [← hW0]
  clear hW0
  refine (awake_any W0 (HR.out.below HB0.out)).mono ?_
  rintro e W1 ⟨rfl, hb1⟩
  have HB1 := Lib.hid hb1
  replace f0 := (hb1.cell (p := ⟨w.heap.size, 0, none⟩) hz0).trans f0
  replace f1 := (hb1.cell (p := ⟨w.heap.size, 1, none⟩) hz0).trans f1
  replace f2 := (hb1.cell (p := ⟨w.heap.size, 2, none⟩) hz0).trans f2
  have hz1 := Nat.lt_of_lt_of_le hz0 hb1.size
  clear hb1
  go_wp2_with fail
  refine (small_any W1 p ((HAT.out.below HB1.out).more HB1.out.size) HWF.out).mono ?_
  rintro e W2 ⟨⟨bg, hbg, rfl⟩, hb2⟩
  have HB2 := Lib.hid (HB1.out.trans (hb2.mono HB1.out.size))
  have HB02 := Lib.hid (HB0.out.trans (HB2.out.mono HB0.out.size))
  have HSM := Lib.hid hbg
  replace f0 := (hb2.cell (p := ⟨w.heap.size, 0, none⟩) hz1).trans f0
  replace f1 := (hb2.cell (p := ⟨w.heap.size, 1, none⟩) hz1).trans f1
  replace f2 := (hb2.cell (p := ⟨w.heap.size, 2, none⟩) hz1).trans f2
  have hz2 := Nat.lt_of_lt_of_le hz1 hb2.size
  clear hb2 hbg hz1
  cases bg
  · go_wp2_with fail
    go_ret
    exact ⟨rfl, HB02.out⟩
  have HCN := Lib.hid (show CntLe p 1000000000 from by have h1 := HSM.out rfl; exact ⟨by have := h1.1; omega, fun q hq => by have := h1.2 q hq; omega⟩)
  have HPA : Hid (∀ W, Below W2.heap.size W2 W → ProtAt W W.heap.size p ∧ Ready W ∧ Below w.heap.size w W) := Lib.hid (fun W hW => by
    have h1 : Below W0.heap.size W0 W := HB2.out.trans (hW.mono HB2.out.size)
    exact ⟨(HAT.out.below h1).more h1.size, HR.out.below (HB0.out.trans (h1.mono HB0.out.size)), HB0.out.trans (h1.mono HB0.out.size)⟩)
  have HS := Lib.hid (fun W (h : Below W2.heap.size W2 W) => successors_any W p (HPA.out W h).1 HCN.out z)
  have HNX := Lib.hid (fun W (h : Below W2.heap.size W2 W) => next_any W p (HPA.out W h).1 HCN.out z)
  go_wp2_with fail
  refine wp_region_held_drew (S := fun Y => Y.cell? ⟨w.heap.size, 0, none⟩ = some (.string p.name) ∧ Y.cell? ⟨w.heap.size, 1, none⟩ = some (.int .i64 p.ver) ∧ Y.cell? ⟨w.heap.size, 2, none⟩ = some (.slice p.qA p.qs.length p.qc)) (by kernel_rfl) ⟨f0, f1, f2⟩ (fun hHeld => ?_)
  have HB3 := Lib.hid (show Below W2.heap.size W2 W2.drew from (Below.refl _ _).drew)
  have gl : w.heap.size < W2.drew.heap.size := hz2
  obtain ⟨U0, hU0⟩ : ∃ U, U = W2.drew := ⟨_, rfl⟩
  rw [← hU0] at hHeld HB3 gl ⊢
  clear hU0 f0 f1 f2
  refine wpAnyH_take (i := 0) (v := .agg #[.string p.name, .int .i64 p.ver, .slice p.qA p.qs.length p.qc]) rfl (by kernel_rfl) (by kernel_rfl) (by kernel_rfl) (fun _ _ _ h => h) (Or.inl ⟨by rfl, ?_⟩) (by assumption) ?_
  · intro w hSw
    obtain ⟨s0, s1, s2⟩ := hSw
    go_simp
  show wpAnyH _ _ _ _ _ _ _ (Act.put _ (some 13) _) _
  simp only [Act.put, List.setIfInBounds_toArray, List.set_cons_zero, List.set_cons_succ]
  refine wpAnyH_take (i := 1) (v := .int .i64 z) rfl (by kernel_rfl) (by kernel_rfl) (by kernel_rfl) (fun _ _ _ h => h) (Or.inl ⟨by rfl, ?_⟩) (by assumption) ?_
  · intro w hSw
    go_simp
  show wpAnyH _ _ _ _ _ _ _ (Act.put _ (some 14) _) _
  simp only [Act.put, List.setIfInBounds_toArray, List.set_cons_zero, List.set_cons_succ]
  refine wpAnyH_take (i := 3) (v := .agg #[.string p.name, .int .i64 p.ver, .slice p.qA p.qs.length p.qc]) rfl (by kernel_rfl) (by kernel_rfl) (by kernel_rfl) (fun _ _ _ h => h) (Or.inl ⟨by rfl, ?_⟩) (by assumption) ?_
  · intro w hSw
    obtain ⟨s0, s1, s2⟩ := hSw
    go_simp
  show wpAnyH _ _ _ _ _ _ _ (Act.put _ (some 16) _) _
  simp only [Act.put, List.setIfInBounds_toArray, List.set_cons_zero, List.set_cons_succ]
  refine wpAnyH_take (i := 4) (v := .int .i64 z) rfl (by kernel_rfl) (by kernel_rfl) (by kernel_rfl) (fun _ _ _ h => h) (Or.inl ⟨by rfl, ?_⟩) (by assumption) ?_
  · intro w hSw
    go_simp
  show wpAnyH _ _ _ _ _ _ _ (Act.put _ (some 17) _) _
  simp only [Act.put, List.setIfInBounds_toArray, List.set_cons_zero, List.set_cons_succ]
  refine wpAnyH_ready (rs := [2]) (by kernel_rfl) (by simp) ?_
  refine AllReadyH.cons rfl (fun K hK => ?_) AllReadyH.nil
  go_simp
  refine (HS.out U0 HB3.out).mono ?_
  rintro e U1 ⟨v1, L1, rfl, hn1, ho1, hl1, hbk⟩
  go_simp
  refine hK.out _ _ ⟨(hbk.cell (p := ⟨w.heap.size, 0, none⟩) gl).trans hHeld.1, (hbk.cell (p := ⟨w.heap.size, 1, none⟩) gl).trans hHeld.2.1, (hbk.cell (p := ⟨w.heap.size, 2, none⟩) gl).trans hHeld.2.2⟩ (fun hHeld => ?_)
  clear hK K
  have HB4 := Lib.hid (HB3.out.trans (hbk.mono HB3.out.size))
  have gl1 := Nat.lt_of_lt_of_le gl hbk.size
  have HN1 := Lib.hid (And.intro hn1 (And.intro ho1 hl1))
  clear hbk hn1 ho1 hl1
  refine wpAnyH_ready (rs := [5]) (by kernel_rfl) (by simp) ?_
  refine AllReadyH.cons rfl (fun K hK => ?_) AllReadyH.nil
  go_simp
  refine (HNX.out U1 HB4.out).mono ?_
  rintro e U2 ⟨v2, L2, rfl, hn2, ho2, hl2, hbk2⟩
  go_simp
  refine hK.out _ _ ⟨(hbk2.cell (p := ⟨w.heap.size, 0, none⟩) gl1).trans hHeld.1, (hbk2.cell (p := ⟨w.heap.size, 1, none⟩) gl1).trans hHeld.2.1, (hbk2.cell (p := ⟨w.heap.size, 2, none⟩) gl1).trans hHeld.2.2⟩ (fun hHeld => ?_)
  clear hK K
  obtain rfl := HN1.out.1.uni hn2
  have HB5 := Lib.hid (HB4.out.trans (hbk2.mono HB4.out.size))
  obtain ⟨A1, c1, rfl, hsl1⟩ := OwnV.sl (HN1.out.2.1.kept_new hbk2)
  obtain ⟨A2, c2, rfl, hsl2⟩ := OwnV.sl ho2
  obtain ⟨n, hn⟩ : ∃ n, n = L1.length := ⟨_, rfl⟩
  have HN := Lib.hid (And.intro hn (And.intro hsl1 hsl2))
  have hnl : n ≤ 1000000000 := by have := HN1.out.2.2; omega
  rw [← hn]
  clear hbk2 hn2 ho2 hl2 hsl1 hsl2 HN1 hn
  refine wpAnyH_take (i := 6) (v := .slice A1 n c1) rfl (by kernel_rfl) (by kernel_rfl) (by kernel_rfl) (fun _ _ _ h => h) (Or.inl ⟨by rfl, ?_⟩) (by assumption) ?_
  · intro w hSw
    go_simp
  show wpAnyH _ _ _ _ _ _ _ (Act.put _ (some 5) _) _
  simp only [Act.put, List.setIfInBounds_toArray, List.set_cons_zero, List.set_cons_succ]
  refine wpAnyH_take (i := 7) (v := .slice A2 n c2) rfl (by kernel_rfl) (by kernel_rfl) (by kernel_rfl) (fun _ _ _ h => h) (Or.inl ⟨by rfl, ?_⟩) (by assumption) ?_
  · intro w hSw
    go_simp
  show wpAnyH _ _ _ _ _ _ _ (Act.put _ (some 6) _) _
  simp only [Act.put, List.setIfInBounds_toArray, List.set_cons_zero, List.set_cons_succ]
  refine wpAnyH_done (by kernel_rfl) ?_ _
  clear hHeld
  have d1 : ((n : Int) != (n : Int)) = false := by simp
  go_wp2_with fail
  go_loopw [26] (fun i X => ∃ k : Nat, k ≤ n ∧ i = .int .i64 k ∧ ∃ m, X = U2.drewN m) (fun i _ => n - (intOf i).toNat)
  case atStart => exact ⟨0, Nat.zero_le _, rfl, 0, rfl⟩
  case round =>
    obtain ⟨k, hk, rfl, m, rfl⟩ := hrel
    by_cases hlt : k < n
    · have hlt' : (k : Int) < (n : Int) := by omega
      obtain ⟨x, hx⟩ : ∃ x, L1[k]? = some x := ⟨L1[k]'(by have := HN.out.1; omega), by simp⟩
      obtain ⟨b1, o1, rfl, _, q1⟩ := HN.out.2.1.int hx
      obtain ⟨b2, o2, rfl, _, q2⟩ := HN.out.2.2.int hx
      have dx : (x != x) = false := by simp
      clear hx
      go_wp2_with fail
      go_quiet (fail)
      go_wp2_with fail
      go_roundw
      case rel => exact ⟨k + 1, by omega, by go_num, _, rfl⟩
      case measure => simp [intOf]; omega
    · obtain rfl : k = n := by omega
      go_wp2_with fail
      go_ret
      exact ⟨rfl, below_drewN' (HPA.out U2 HB5.out).2.2 m⟩

theorem laid_met (os : Os) : laidMet Tryz.prog Rows.protocolSuccessorsRow.laid ((World.laidAll Tryz.prog os Rows.protocolSuccessorsRow.laid).forCall (fun _ _ => 0) ⟨#[], #[.agg #[.string ⟨#[]⟩, .int .i64 0, .slice none 0 0], .int .i64 0], []⟩).memory :=
  laidMet_laidAll _ (laid_fits os) (laid_ifaces os)
theorem reads (os : Os) {H : Type} (enc : TypeId × Value → H) : ∃ places, DataW.whole enc Tryz.prog ((World.laidAll Tryz.prog os Rows.protocolSuccessorsRow.laid).forCall (fun _ _ => 0) ⟨#[], #[.agg #[.string ⟨#[]⟩, .int .i64 0, .slice none 0 0], .int .i64 0], []⟩).memory Tryz.f5.params.toList Rows.protocolSuccessorsSpec.vars false #[Value.agg #[.string ⟨#[]⟩, .int .i64 0, .slice none 0 0], .int .i64 0].toList 8 = some ([.agg [.lit (.string []), .lit (.int .i64 0), .nil], .lit (.int .i64 0)], [], places) :=
  ⟨[], by kernel_rfl⟩

set_option maxRecDepth 100000 in
theorem lifted (os : Os) (started : os.Started) (H : Type) (enc : TypeId × Value → H) (F : Stop.Interp) :
    ReturnsInHanded {} Tryz.checked os 5 .any ((OpenSpec.ofChange Rows.protocolSuccessorsSpec).preRow enc Tryz.prog Tryz.f5 Rows.protocolSuccessorsRow.domain false Rows.protocolSuccessorsRow.laid) (((OpenSpec.ofChange Rows.protocolSuccessorsSpec).at F).post enc Tryz.prog Tryz.f5 false true false false) := by
  obtain ⟨places, hx⟩ := reads os enc
  refine returnsInHanded_of_row (C := Tryz.checked) (s := OpenSpec.ofChange Rows.protocolSuccessorsSpec) own started (by kernel_rfl) Tryz.func5
    (witness_row_atRef (enc := enc) (C := Tryz.checked) false (World.laidAll Tryz.prog os Rows.protocolSuccessorsRow.laid) #[.agg #[.string ⟨#[]⟩, .int .i64 0, .slice none 0 0], .int .i64 0] (World.laidAll_os _ _ _) (laid_vars os _) (laid_rest os _) (by kernel_rfl)
      (OpenSpec.preRow_of_cond 8 hx (by kernel_rfl) (fun k hk => by cases hk) (by kernel_rfl) (laid_met os))) ?_
  intro W base args ds gs before hval0 hW _ _ _ hLH hSh _
  have hL0 := hLH
  rw [MakeChecks.laidMetH_plain _ _ _ (by kernel_rfl)] at hL0
  have hL : laidMet Tryz.prog Rows.protocolSuccessorsRow.laid W := hL0
  clear hL0
  have hr : Ready W := ready_of hL.tail.tail hL.tail.tail.tail.tail.tail hL.tail.tail.tail.tail hSh
  have hval : ∀ (j : Nat) t v, Tryz.f5.params[j]? = some t → args[j]? = some v → Value.okWide Tryz.prog W .any base t v := hval0
  have hW' := hW
  obtain ⟨p, q, hA0, hV, rfl, hfz, hnd⟩ := hW
  have hA : DataW.TrodAll enc Tryz.prog W 0 (fun _ => true) true Tryz.f5.params.toList args.toList ds p := hA0
  rw [Tryz.params5] at hA hval
  obtain ⟨v0, vs0, d0, ds0, p0, q0, hargs, rfl, rfl, h0, r0⟩ := trodAll_cons hA
  obtain ⟨v1, vs1, d1, ds1, p1, q1, rfl, rfl, rfl, h1, r1⟩ := trodAll_cons r0
  obtain ⟨rfl, rfl, rfl⟩ := trodAll_nil r1
  obtain rfl : args = #[v0, v1] := by cases args; simp_all
  obtain ⟨rfl, rfl⟩ := trodVars_none hV
  obtain ⟨p0, rfl, hp0⟩ := open_prot (hval 0 24 v0 rfl rfl) h0
  obtain ⟨a1, rfl, rfl, rfl, w1⟩ := open_int Tryz.underlying3 (hval 1 3 v1 rfl rfl) h1
  clear hA0 hval0
  refine (walk W p0 hp0 a1 w1 hr).mono fun e W' ⟨he, hb⟩ => ?_
  subst he
  exact ⟨_, rfl, law_post laidOut (by kernel_rfl) rfl Tryz.underlying4 rfl hW' rfl rfl rfl hb⟩

theorem said : Rows.ProtocolSuccessorsSaid :=
  OpenClaim.holds_of_cond 5 Tryz.f5 rfl rfl rfl rfl rfl rfl rfl ⟨rfl, rfl, rfl, rfl, rfl⟩ rfl rfl rfl rfl rfl (by kernel_rfl) Tryz.func5 (by kernel_rfl)
    (of_decide_eq_true (by kernel_rfl)) (by unfold Func.isWrapper; first | (rw [if_pos (by decide +kernel)]; kernel_rfl) | (rw [if_neg (by decide +kernel)]; exact ⟨rfl, rfl⟩))
    (fun os started H enc _ F => by rw [OpenClaim.pre_eq_preRow]; exact lifted os started H enc F)

/-- No parameter wants a stand-in; the program's looks are those of the card. -/
theorem plain (f : FuncId) (fn : Func) (hf : Tryz.pinned.checked.prog.funcNamed "samaritan/samaritanlaw12.ProtocolSuccessors" = some f) (hfn : Tryz.pinned.checked.prog.funcs[f]? = some fn) :
    true = Tryz.pinned.checked.prog.looks [] ∧ ∀ (j : Nat) t, fn.params[j]? = some t → Tryz.pinned.checked.prog.wantsStandIn t = false := by
  obtain rfl : f = 5 := Option.some.inj ((show Tryz.prog.funcNamed "samaritan/samaritanlaw12.ProtocolSuccessors" = some 5 by kernel_rfl).symm.trans hf) |>.symm
  obtain rfl : fn = Tryz.f5 := (Option.some.inj (Tryz.func5.symm.trans hfn)).symm
  refine ⟨by kernel_rfl, fun j t ht => ?_⟩
  rw [Tryz.params5] at ht
  have hm := Array.mem_of_getElem? ht
  have hall : (#[24, 3] : Array TypeId).toList.all (fun t => Tryz.prog.wantsStandIn t == false) = true := by kernel_rfl
  have := List.all_eq_true.1 hall t (by simpa using hm)
  exact beq_iff_eq.1 this

theorem card : Rows.ProtocolSuccessorsCardSaid :=
  Claim7.holds_tied_plain_at .later [] _ _ _ _ said (fun _ h => by cases h) (by kernel_rfl) (fun _ h => by cases h) protocolSuccessors_row_tie rfl ⟨rfl, rfl⟩ (by kernel_rfl) rfl plain (by kernel_rfl)
#print axioms card
end Go.Proofs.YtbbklideciappaaGreatDoor.l12Successors
