/-
  samaritanlaw51.TraceFormat returns true for every input whose reading is of bulk at most 1048576, and the arguments read afterwards as before.
  Conditions: those of the given row (its list of package variables), tied to the program's text by the given tie; the card speaks of the pruned copy of the project that the seat was translated from.
-/
import Derived.Test.YtakdkiggaalimaaGreatDoorCards
import Derived.Test.YtakdkiggaalimaaGreatDoorTie
import Derived.Test.YtakdkiggaalimaaGreatDoorTrYd
import Derived.Test.YtakdkiggaalimaaGreatDoorLift
import Derived.Test.YtakdkiggaalimaaGreatDoorTrLz
import Derived.OpenShut
import Derived.Deep.DeepHandedRow
namespace Go.Proofs.YtakdkiggaalimaaGreatDoor.l51Format
open Go.ChangeShapes Go.WideShapes Go.ChangeAt Go.RowKit Go.Maps
open Go.ChangeMaps (open_string shut_string)

theorem walk (w : World) (A0 : Option Addr) (us0 : List EvM) (c0 : Nat) (hs0 : EvsAt w w.heap.size A0 us0) (hn0 : us0.length ≤ 1048576) (hw0 : ∀ e ∈ us0, EvWf 1048576 e) (hr : Ready w) :
    Calls Tryz.prog 7 #[.slice A0 us0.length c0] w fun e w' => e = .returned (.bool true) ∧ Below w.heap.size w w' :=
  traceFormat_any w hr A0 c0 us0 hs0 hw0 hn0

theorem laid_met (os : Os) : laidMet Tryz.prog Rows.traceFormatUptoRow.laid ((World.laidAll Tryz.prog os Rows.traceFormatUptoRow.laid).forCall (fun _ _ => 0) ⟨#[], #[.slice none 0 0], []⟩).memory :=
  laidMet_laidAll _ (laid_fits os) (laid_ifaces os)
theorem reads (os : Os) {H : Type} (enc : TypeId × Value → H) : ∃ places, DataW.whole enc Tryz.prog ((World.laidAll Tryz.prog os Rows.traceFormatUptoRow.laid).forCall (fun _ _ => 0) ⟨#[], #[.slice none 0 0], []⟩).memory Tryz.f7.params.toList Rows.traceFormatSpec.vars false #[Value.slice none 0 0].toList 8 = some ([.nil], [], places) :=
  ⟨[], by kernel_rfl⟩

set_option maxRecDepth 100000 in
theorem lifted (os : Os) (started : os.Started) (H : Type) (enc : TypeId × Value → H) (F : Stop.Interp) :
    ReturnsInHanded {} Tryz.checked os 7 .any ((Rows.OpenSpec.upto Rows.traceFormatSpec).preRow enc Tryz.prog Tryz.f7 Rows.traceFormatUptoRow.domain false Rows.traceFormatUptoRow.laid) (((Rows.OpenSpec.upto Rows.traceFormatSpec).at F).post enc Tryz.prog Tryz.f7 false true false false) := by
  obtain ⟨places, hx⟩ := reads os enc
  refine returnsInHanded_of_row (C := Tryz.checked) (s := Rows.OpenSpec.upto Rows.traceFormatSpec) own started (by kernel_rfl) Tryz.func7
    (witness_row_atRef (enc := enc) (C := Tryz.checked) false (World.laidAll Tryz.prog os Rows.traceFormatUptoRow.laid) #[.slice none 0 0] (World.laidAll_os _ _ _) (laid_vars os _) (laid_rest os _) (by kernel_rfl)
      (OpenSpec.preRow_of_cond 8 hx (by kernel_rfl) (fun k hk => by cases hk; kernel_rfl) (by kernel_rfl) (laid_met os))) ?_
  intro W base args ds gs before hval0 hW _ hcond _ hLH hSh _
  have hL0 := hLH
  rw [MakeChecks.laidMetH_plain _ _ _ (by kernel_rfl)] at hL0
  have hL : laidMet Tryz.prog Rows.traceFormatUptoRow.laid W := hL0
  clear hL0
  have hr : Ready W := ready_of hL.tail.tail hL.tail.tail.tail.tail.tail hL.tail.tail.tail.tail hSh
  have hval : ∀ (j : Nat) t v, Tryz.f7.params[j]? = some t → args[j]? = some v → Value.okWide Tryz.prog W .any base t v := hval0
  have hW' := hW
  obtain ⟨p, q, hA0, hV, rfl, hfz, hnd⟩ := hW
  have hA : DataW.TrodAll enc Tryz.prog W 0 (fun _ => true) true Tryz.f7.params.toList args.toList ds p := hA0
  rw [Tryz.params7] at hA hval
  obtain ⟨v0, vs0, d0, ds0, p0, q0, hargs, rfl, rfl, h0, r0⟩ := trodAll_cons hA
  obtain ⟨rfl, rfl, rfl⟩ := trodAll_nil r0
  obtain rfl : args = #[v0] := by cases args; simp_all
  obtain ⟨rfl, rfl⟩ := trodVars_none hV
  have hk := bulk_only (hcond _ rfl)
  obtain ⟨A0, us0, c0, rfl, hs0, hnf0, hwf0⟩ := open_evs2 (hval 0 44 v0 rfl rfl) h0
  have hn0 : us0.length ≤ 1048576 := Nat.le_trans hnf0 hk
  have hw0 : ∀ e ∈ us0, EvWf 1048576 e := fun e he => (hwf0 e he).mono hk
  clear hA0 hval0
  refine (walk W A0 us0 c0 hs0 hn0 hw0 hr).mono fun e W' ⟨he, hb⟩ => ?_
  subst he
  exact ⟨_, rfl, law_post laidOut (by kernel_rfl) rfl Tryz.underlying4 rfl hW' rfl rfl rfl hb⟩

theorem said : Rows.TraceFormatUptoSaid :=
  OpenClaim.holds_of_cond 7 Tryz.f7 rfl rfl rfl rfl rfl rfl rfl ⟨rfl, rfl, rfl, rfl, rfl⟩ rfl rfl rfl rfl rfl (by kernel_rfl) Tryz.func7 (by kernel_rfl)
    (of_decide_eq_true (by kernel_rfl)) (by unfold Func.isWrapper; first | (rw [if_pos (by decide +kernel)]; kernel_rfl) | (rw [if_neg (by decide +kernel)]; exact ⟨rfl, rfl⟩))
    (fun os started H enc _ F => by rw [OpenClaim.pre_eq_preRow]; exact lifted os started H enc F)

/-- No parameter wants a stand-in; the program's looks are those of the card. -/
theorem plain (f : FuncId) (fn : Func) (hf : Tryz.pinned.checked.prog.funcNamed "samaritan/samaritanlaw51.TraceFormat" = some f) (hfn : Tryz.pinned.checked.prog.funcs[f]? = some fn) :
    true = Tryz.pinned.checked.prog.looks [] ∧ ∀ (j : Nat) t, fn.params[j]? = some t → Tryz.pinned.checked.prog.wantsStandIn t = false := by
  obtain rfl : f = 7 := Option.some.inj ((show Tryz.prog.funcNamed "samaritan/samaritanlaw51.TraceFormat" = some 7 by kernel_rfl).symm.trans hf) |>.symm
  obtain rfl : fn = Tryz.f7 := (Option.some.inj (Tryz.func7.symm.trans hfn)).symm
  refine ⟨by kernel_rfl, fun j t ht => ?_⟩
  rw [Tryz.params7] at ht
  have hm := Array.mem_of_getElem? ht
  have hall : (#[44] : Array TypeId).toList.all (fun t => Tryz.prog.wantsStandIn t == false) = true := by kernel_rfl
  have := List.all_eq_true.1 hall t (by simpa using hm)
  exact beq_iff_eq.1 this

theorem card : Rows.TraceFormatUptoCardSaid :=
  Claim7.holds_tied_plain_at .later [] _ _ _ _ said (fun _ h => by cases h) (by kernel_rfl) (fun _ h => by cases h) traceFormatUpto_row_tie rfl ⟨rfl, rfl⟩ (by kernel_rfl) rfl plain (by kernel_rfl)
#print axioms card
end Go.Proofs.YtakdkiggaalimaaGreatDoor.l51Format
