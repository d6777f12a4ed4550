/-
  samaritanlaw06.ConfigValidate returns true for every input, and the arguments read afterwards as before.
  Conditions: those of the given row (its list of package variables), tied to the program's text by the given tie; the card speaks of the pruned copy of the project that the seat was translated from.
-/
import Derived.Test.YtloacoalmfaceaaGreatDoorCards
import Derived.Test.YtloacoalmfaceaaGreatDoorTie
import Derived.Test.YtloacoalmfaceaaGreatDoorOpn6
import Derived.Test.YtloacoalmfaceaaGreatDoorLift
import Derived.Test.YtloacoalmfaceaaGreatDoorLaid6
import Derived.OpenShut
import Derived.Deep.RegionHeld3
import Derived.Deep.MidRow
import Derived.Deep.DeepHandedRow
namespace Go.Proofs.YtloacoalmfaceaaGreatDoor.l06Validate
open Go.ChangeShapes Go.WideShapes Go.ChangeAt Go.RowKit Go.Maps
open Go.ChangeMaps (open_string shut_string)
open Go.Shelf

set_option maxRecDepth 100000 in
set_option maxHeartbeats 4000000 in
theorem walk (w : World) (c : Cfg) (hc : CfgArg w c) (hr : Rdy w) :
    Calls Tryz.prog 3 #[.agg c.cells.toArray] w fun e w' => e = .returned (.bool true) ∧ Below w.heap.size w w' := by
  have hi := cfgIn_new w c 27
  have hb0 : Below w.heap.size w (w.alloc (.cells c.cells.toArray 27)) := (Below.refl _ _).alloc (Nat.le_refl _) _
  have hz0 : w.heap.size < (w.alloc (.cells c.cells.toArray 27)).heap.size := by simp
  have hrow := new_obj w (.cells c.cells.toArray 27)
  obtain ⟨W0, hW0⟩ : ∃ W0, W0 = w.alloc (.cells c.cells.toArray 27) := ⟨_, rfl⟩
  have hlen : c.cells.length = 15 := by simp [Cfg.cells, hc.at_.ten]
  have hsl : (Tryz.prog.info? 27).map (·.size) = some c.cells.length := by
    have k15 : (Tryz.prog.info? 27).map (·.size) = some 15 := by kernel_rfl
    rw [hlen, k15]
  have hsz : (Tryz.prog.info? 27).map (·.size) = some c.cells.toArray.size := by rw [List.size_toArray]; exact hsl
  rw [← hW0] at hi hb0 hz0 hrow
  have HR := Lib.hid hr
  have HC := Lib.hid hc
  have H0 := Lib.hid (And.intro hb0 (And.intro hi (And.intro ((hc.at_.below hb0).more hb0.size) (And.intro hz0 hrow))))
  have HG := Lib.hid (great_any W0 c ((hc.at_.below hb0).more hb0.size) (by have := hc.pl; omega))
  have HSL := Lib.hid hsl
  obtain ⟨X, hX⟩ : ∃ X, X = c.cells.toArray := ⟨_, rfl⟩
  have HX := Lib.hid hX
  rw [← hX] at hrow hsz HG hW0 ⊢
  clear hi hb0 hz0 hX hlen hsl hr hc
  go_enter Tryz.func3, Tryz.ntmps3
  go_wp2_with (refine wpList_load_row rfl 27 (.tmp 1) rfl w.heap.size rfl 27 X (0, 0) _ (by rw [← hW0]; exact hrow) Tryz.underlying27 rfl hsz ?_)
  rw [← hW0]
  clear hW0
  refine HG.out.mono ?_
  rintro e W1 ⟨bg, rfl, hsh, hb1⟩
  have HB1 := Lib.hid (And.intro (H0.out.1.trans (hb1.mono H0.out.1.size)) (And.intro ((H0.out.2.2.1.below hb1).more hb1.size) (And.intro (H0.out.2.1.below hb1 H0.out.2.2.2.1) (Nat.lt_of_lt_of_le H0.out.2.2.2.1 hb1.size))))
  have hrow1 := (hb1.block w.heap.size H0.out.2.2.2.1).trans H0.out.2.2.2.2
  rw [← HX.out] at hrow1
  have HSH := Lib.hid hsh
  clear hb1 hsh hrow HG
  cases bg
  rotate_left
  · go_wp2_with fail
    refine (awake_any W1 (HR.out.below HB1.out.1)).mono ?_
    rintro e W2 ⟨rfl, hb2⟩
    have HB2 := Lib.hid (HB1.out.1.trans (hb2.mono HB1.out.1.size))
    clear hb2
    go_wp2_with fail
    go_ret
    exact ⟨rfl, HB2.out⟩
  have HSZ := Lib.hid (HC.out.sz (HSH.out rfl))
  have HV := Lib.hid (fun W (h : Below W1.heap.size W1 W) => validate_any W c ((HB1.out.2.1.below h).more h.size) HSZ.out)
  have HQ := Lib.hid (fun W (h : Below W1.heap.size W1 W) => right_any W c ((HB1.out.2.1.below h).more h.size) HSZ.out (fun p hp => (HC.out.wf p hp).code))
  have HA := Lib.hid (fun W (h : Below W1.heap.size W1 W) => awake_any W (HR.out.below (HB1.out.1.trans (h.mono HB1.out.1.size))))
  have HRG : Hid (∀ V, Below W1.heap.size W1 V → V.rangeAt w.heap.size 0 c.cells) := Lib.hid (fun V hV j v hj => by rw [Nat.zero_add]; exact (HB1.out.2.2.1.below hV HB1.out.2.2.2) j v hj)
  rw [← HX.out] at HV HQ
  obtain ⟨P, hP⟩ : ∃ P : Int, P = ((problem c : Nat) : Int) := ⟨_, rfl⟩
  rw [← hP] at HV HQ
  clear hP hrow1
  go_wp2_with fail
  refine wp_region_held_drew (S := fun W => Below W1.heap.size W1 W) (by kernel_rfl) ((Below.refl _ _).drew) (fun hHeld => ?_)
  refine wpAnyH_take (i := 0) (v := .agg c.cells.toArray) rfl (by kernel_rfl) (by kernel_rfl) (by kernel_rfl) (fun _ _ _ h => h) (yieldsIf_load_mid (by rfl) 27 (.tmp 1) rfl w.heap.size 0 rfl c.cells _ (fun V hV => HRG.out V hV) Tryz.underlying27 rfl HSL.out) (by assumption) ?_
  show wpAnyH _ _ _ _ _ _ _ (Act.put _ (some 6) _) _
  simp only [Act.put, List.setIfInBounds_toArray, List.set_cons_zero, List.set_cons_succ]
  rw [← HX.out]
  refine wpAnyH_take (i := 2) (v := .agg c.cells.toArray) rfl (by kernel_rfl) (by kernel_rfl) (by kernel_rfl) (fun _ _ _ h => h) (yieldsIf_load_mid (by rfl) 27 (.tmp 1) rfl w.heap.size 0 rfl c.cells _ (fun V hV => HRG.out V hV) Tryz.underlying27 rfl HSL.out) (by assumption) ?_
  show wpAnyH _ _ _ _ _ _ _ (Act.put _ (some 8) _) _
  simp only [Act.put, List.setIfInBounds_toArray, List.set_cons_zero, List.set_cons_succ]
  rw [← HX.out]
  refine wpAnyH_ready (rs := [1]) (by kernel_rfl) (by simp) ?_
  refine AllReadyH.cons rfl (fun K hK => ?_) AllReadyH.nil
  go_simp
  refine (HV.out _ hHeld).mono ?_
  rintro e W2 ⟨rfl, hb2⟩
  go_simp
  refine hK.out _ _ (hHeld.trans (hb2.mono hHeld.size)) (fun hHeld => ?_)
  clear hK K
  refine wpAnyH_ready (rs := [3]) (by kernel_rfl) (by simp) ?_
  refine AllReadyH.cons rfl (fun K hK => ?_) AllReadyH.nil
  go_simp
  refine (HQ.out _ hHeld).mono ?_
  rintro e W3 ⟨rfl, hb3⟩
  go_simp
  refine hK.out _ _ (hHeld.trans (hb3.mono hHeld.size)) (fun hHeld => ?_)
  clear hK K
  refine wpAnyH_take (i := 4) (v := .bool true) rfl (by kernel_rfl) (by kernel_rfl) (by kernel_rfl) (fun _ _ _ h => h) (Or.inl ⟨by rfl, ?_⟩) (by assumption) ?_
  · intro w hSw
    go_simp
  show wpAnyH _ _ _ _ _ _ _ (Act.put _ (some 10) _) _
  simp only [Act.put, List.setIfInBounds_toArray, List.set_cons_zero, List.set_cons_succ]
  refine wpAnyH_take (i := 5) (v := .bool true) rfl (by kernel_rfl) (by kernel_rfl) (by kernel_rfl) (fun _ _ _ h => h) (Or.inl ⟨by rfl, ?_⟩) (by assumption) ?_
  · intro w hSw
    go_simp
  show wpAnyH _ _ _ _ _ _ _ (Act.put _ (some 11) _) _
  simp only [Act.put, List.setIfInBounds_toArray, List.set_cons_zero, List.set_cons_succ]
  refine wpAnyH_ready (rs := [6]) (by kernel_rfl) (by simp) ?_
  refine AllReadyH.cons rfl (fun K hK => ?_) AllReadyH.nil
  go_simp
  refine (HA.out _ hHeld).mono ?_
  rintro e W4 ⟨rfl, hb4⟩
  go_simp
  refine hK.out _ _ (hHeld.trans (hb4.mono hHeld.size)) (fun hHeld => ?_)
  clear hK K
  refine wpAnyH_take (i := 7) (v := .bool true) rfl (by kernel_rfl) (by kernel_rfl) (by kernel_rfl) (fun _ _ _ h => h) (Or.inl ⟨by rfl, ?_⟩) (by assumption) ?_
  · intro w hSw
    go_simp
  show wpAnyH _ _ _ _ _ _ _ (Act.put _ (some 13) _) _
  simp only [Act.put, List.setIfInBounds_toArray, List.set_cons_zero, List.set_cons_succ]
  refine wpAnyH_take (i := 8) (v := .bool true) rfl (by kernel_rfl) (by kernel_rfl) (by kernel_rfl) (fun _ _ _ h => h) (Or.inl ⟨by rfl, ?_⟩) (by assumption) ?_
  · intro w hSw
    go_simp
  show wpAnyH _ _ _ _ _ _ _ (Act.put _ (some 2) _) _
  simp only [Act.put, List.setIfInBounds_toArray, List.set_cons_zero, List.set_cons_succ]
  refine wpAnyH_done (by kernel_rfl) ?_ _
  go_wp2_with fail
  go_ret
  exact ⟨rfl, HB1.out.1.trans (hHeld.mono HB1.out.1.size)⟩

theorem laid_met (os : Os) : laidMet Tryz.prog Rows.configValidateRow.laid ((World.laidAll Tryz.prog os Rows.configValidateRow.laid).forCall (fun _ _ => 0) ⟨#[], #[.agg #[.int .i64 0, .slice none 0 0, .slice none 0 0, .slice none 0 0, .slice none 0 0, .int .i64 0, .int .i64 0, .int .i64 0, .int .i64 0, .int .i64 0, .int .i64 0, .int .i64 0, .int .i64 0, .int .i64 0, .int .i64 0]], []⟩).memory :=
  laidMet_laidAll _ (laid_fits os) (laid_ifaces os)
theorem reads (os : Os) {H : Type} (enc : TypeId × Value → H) : ∃ places, DataW.whole enc Tryz.prog ((World.laidAll Tryz.prog os Rows.configValidateRow.laid).forCall (fun _ _ => 0) ⟨#[], #[.agg #[.int .i64 0, .slice none 0 0, .slice none 0 0, .slice none 0 0, .slice none 0 0, .int .i64 0, .int .i64 0, .int .i64 0, .int .i64 0, .int .i64 0, .int .i64 0, .int .i64 0, .int .i64 0, .int .i64 0, .int .i64 0]], []⟩).memory Tryz.f3.params.toList Rows.configValidateSpec.vars false #[Value.agg #[.int .i64 0, .slice none 0 0, .slice none 0 0, .slice none 0 0, .slice none 0 0, .int .i64 0, .int .i64 0, .int .i64 0, .int .i64 0, .int .i64 0, .int .i64 0, .int .i64 0, .int .i64 0, .int .i64 0, .int .i64 0]].toList 8 = some ([.agg [.lit (.int .i64 0), .nil, .nil, .nil, .nil, .lit (.int .i64 0), .lit (.int .i64 0), .lit (.int .i64 0), .lit (.int .i64 0), .lit (.int .i64 0), .lit (.int .i64 0), .lit (.int .i64 0), .lit (.int .i64 0), .lit (.int .i64 0), .lit (.int .i64 0)]], [], places) :=
  ⟨[], by kernel_rfl⟩

set_option maxRecDepth 100000 in
theorem lifted (os : Os) (started : os.Started) (H : Type) (enc : TypeId × Value → H) (F : Stop.Interp) :
    ReturnsInHanded {} Tryz.checked os 3 .any ((OpenSpec.ofChange Rows.configValidateSpec).preRow enc Tryz.prog Tryz.f3 Rows.configValidateRow.domain false Rows.configValidateRow.laid) (((OpenSpec.ofChange Rows.configValidateSpec).at F).post enc Tryz.prog Tryz.f3 false true false false) := by
  obtain ⟨places, hx⟩ := reads os enc
  refine returnsInHanded_of_row (C := Tryz.checked) (s := OpenSpec.ofChange Rows.configValidateSpec) own started (by kernel_rfl) Tryz.func3
    (witness_row_atRef (enc := enc) (C := Tryz.checked) false (World.laidAll Tryz.prog os Rows.configValidateRow.laid) #[.agg #[.int .i64 0, .slice none 0 0, .slice none 0 0, .slice none 0 0, .slice none 0 0, .int .i64 0, .int .i64 0, .int .i64 0, .int .i64 0, .int .i64 0, .int .i64 0, .int .i64 0, .int .i64 0, .int .i64 0, .int .i64 0]] (World.laidAll_os _ _ _) (laid_vars os _) (laid_rest os _) (by kernel_rfl)
      (OpenSpec.preRow_of_cond 8 hx (by kernel_rfl) (fun k hk => by cases hk) (by kernel_rfl) (laid_met os))) ?_
  intro W base args ds gs before hval0 hW _ _ _ hLH hSh _
  have hL0 := hLH
  rw [MakeChecks.laidMetH_plain _ _ _ (by kernel_rfl)] at hL0
  have hL : laidMet Tryz.prog Rows.configValidateRow.laid W := hL0
  clear hL0
  have hr : Rdy W := rdy_of hL.tail.tail hL.tail.tail.tail.tail.tail hL.tail.tail.tail.tail hL.tail.tail.tail.tail.tail.tail hSh
  have hval : ∀ (j : Nat) t v, Tryz.f3.params[j]? = some t → args[j]? = some v → Value.okWide Tryz.prog W .any base t v := hval0
  have hW' := hW
  obtain ⟨p, q, hA0, hV, rfl, hfz, hnd⟩ := hW
  have hA : DataW.TrodAll enc Tryz.prog W 0 (fun _ => true) true Tryz.f3.params.toList args.toList ds p := hA0
  rw [Tryz.params3] at hA hval
  obtain ⟨v0, vs0, d0, ds0, p0, q0, hargs, rfl, rfl, h0, r0⟩ := trodAll_cons hA
  obtain ⟨rfl, rfl, rfl⟩ := trodAll_nil r0
  obtain rfl : args = #[v0] := by cases args; simp_all
  obtain ⟨rfl, rfl⟩ := trodVars_none hV
  obtain ⟨c0, rfl, hc0⟩ := open_cfg (hval 0 27 v0 rfl rfl) h0
  clear hA0 hval0
  refine (walk W c0 hc0 hr).mono fun e W' ⟨he, hb⟩ => ?_
  subst he
  exact ⟨_, rfl, law_post laidOut (by kernel_rfl) rfl Tryz.underlying4 rfl hW' rfl rfl rfl hb⟩

theorem said : Rows.ConfigValidateSaid :=
  OpenClaim.holds_of_cond 3 Tryz.f3 rfl rfl rfl rfl rfl rfl rfl ⟨rfl, rfl, rfl, rfl, rfl⟩ rfl rfl rfl rfl rfl (by kernel_rfl) Tryz.func3 (by kernel_rfl)
    (of_decide_eq_true (by kernel_rfl)) (by unfold Func.isWrapper; first | (rw [if_pos (by decide +kernel)]; kernel_rfl) | (rw [if_neg (by decide +kernel)]; exact ⟨rfl, rfl⟩))
    (fun os started H enc _ F => by rw [OpenClaim.pre_eq_preRow]; exact lifted os started H enc F)

/-- No parameter wants a stand-in; the program's looks are those of the card. -/
theorem plain (f : FuncId) (fn : Func) (hf : Tryz.pinned.checked.prog.funcNamed "samaritan/samaritanlaw06.ConfigValidate" = some f) (hfn : Tryz.pinned.checked.prog.funcs[f]? = some fn) :
    true = Tryz.pinned.checked.prog.looks [] ∧ ∀ (j : Nat) t, fn.params[j]? = some t → Tryz.pinned.checked.prog.wantsStandIn t = false := by
  obtain rfl : f = 3 := Option.some.inj ((show Tryz.prog.funcNamed "samaritan/samaritanlaw06.ConfigValidate" = some 3 by kernel_rfl).symm.trans hf) |>.symm
  obtain rfl : fn = Tryz.f3 := (Option.some.inj (Tryz.func3.symm.trans hfn)).symm
  refine ⟨by kernel_rfl, fun j t ht => ?_⟩
  rw [Tryz.params3] at ht
  have hm := Array.mem_of_getElem? ht
  have hall : (#[27] : Array TypeId).toList.all (fun t => Tryz.prog.wantsStandIn t == false) = true := by kernel_rfl
  have := List.all_eq_true.1 hall t (by simpa using hm)
  exact beq_iff_eq.1 this

theorem card : Rows.ConfigValidateCardSaid :=
  Claim7.holds_tied_plain_at .later [] _ _ _ _ said (fun _ h => by cases h) (by kernel_rfl) (fun _ h => by cases h) configValidate_row_tie rfl ⟨rfl, rfl⟩ (by kernel_rfl) rfl plain (by kernel_rfl)
#print axioms card
end Go.Proofs.YtloacoalmfaceaaGreatDoor.l06Validate
