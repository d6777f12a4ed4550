/-
  samaritanlaw51.TraceEquality returns true for every input whose reading is of bulk at most 1048576, and the arguments read afterwards as before.
  Conditions: those of the given row (its list of package variables), tied to the program's text by the given tie; the card speaks of the pruned copy of the project that the seat was translated from.
-/
import Derived.Test.YtakdkiggaalimaaDoorCards
import Derived.Test.YtakdkiggaalimaaDoorTie
import Derived.Test.YtakdkiggaalimaaDoorTrYq
import Derived.Test.YtakdkiggaalimaaDoorLift
import Derived.Test.YtakdkiggaalimaaDoorTrLx
import Derived.OpenShut
import Derived.Deep.DeepHandedRow
namespace Go.Proofs.YtakdkiggaalimaaDoor.l51Equality
open Go.ChangeShapes Go.WideShapes Go.ChangeAt Go.RowKit Go.Maps
open Go.ChangeMaps (open_string shut_string)

theorem walk (w : World) (A0 : Option Addr) (us0 : List EvM) (c0 : Nat) (hs0 : EvsAt w w.heap.size A0 us0) (hn0 : us0.length ≤ 1048576) (hw0 : ∀ e ∈ us0, EvWf 1048576 e) (A1 : Option Addr) (us1 : List EvM) (c1 : Nat) (hs1 : EvsAt w w.heap.size A1 us1) (hn1 : us1.length ≤ 1048576) (hw1 : ∀ e ∈ us1, EvWf 1048576 e) (hr : Ready w) :
    Calls Tryd.prog 3 #[.slice A0 us0.length c0, .slice A1 us1.length c1] w fun e w' => e = .returned (.bool true) ∧ Below w.heap.size w w' :=
  trEquality_any w hr A0 A1 c0 c1 us0 us1 hs0 hs1 hw0 hw1 hn0 hn1

theorem laid_met (os : Os) : laidMet Tryd.prog Rows.traceEqualityUptoRow.laid ((World.laidAll Tryd.prog os Rows.traceEqualityUptoRow.laid).forCall (fun _ _ => 0) ⟨#[], #[.slice none 0 0, .slice none 0 0], []⟩).memory :=
  laidMet_laidAll _ (laid_fits os) (laid_ifaces os)
theorem reads (os : Os) {H : Type} (enc : TypeId × Value → H) : ∃ places, DataW.whole enc Tryd.prog ((World.laidAll Tryd.prog os Rows.traceEqualityUptoRow.laid).forCall (fun _ _ => 0) ⟨#[], #[.slice none 0 0, .slice none 0 0], []⟩).memory Tryd.f3.params.toList Rows.traceEqualitySpec.vars false #[Value.slice none 0 0, .slice none 0 0].toList 8 = some ([.nil, .nil], [], places) :=
  ⟨[], by kernel_rfl⟩

set_option maxRecDepth 100000 in
theorem lifted (os : Os) (started : os.Started) (H : Type) (enc : TypeId × Value → H) (F : Stop.Interp) :
    ReturnsInHanded {} Tryd.checked os 3 .any ((Rows.OpenSpec.upto Rows.traceEqualitySpec).preRow enc Tryd.prog Tryd.f3 Rows.traceEqualityUptoRow.domain false Rows.traceEqualityUptoRow.laid) (((Rows.OpenSpec.upto Rows.traceEqualitySpec).at F).post enc Tryd.prog Tryd.f3 false true false false) := by
  obtain ⟨places, hx⟩ := reads os enc
  refine returnsInHanded_of_row (C := Tryd.checked) (s := Rows.OpenSpec.upto Rows.traceEqualitySpec) own started (by kernel_rfl) Tryd.func3
    (witness_row_atRef (enc := enc) (C := Tryd.checked) false (World.laidAll Tryd.prog os Rows.traceEqualityUptoRow.laid) #[.slice none 0 0, .slice none 0 0] (World.laidAll_os _ _ _) (laid_vars os _) (laid_rest os _) (by kernel_rfl)
      (OpenSpec.preRow_of_cond 8 hx (by kernel_rfl) (fun k hk => by cases hk; kernel_rfl) (by kernel_rfl) (laid_met os))) ?_
  intro W base args ds gs before hval0 hW _ hcond _ hLH hSh _
  have hL0 := hLH
  rw [MakeChecks.laidMetH_plain _ _ _ (by kernel_rfl)] at hL0
  have hL : laidMet Tryd.prog Rows.traceEqualityUptoRow.laid W := hL0
  clear hL0
  have hr : Ready W := ready_of hL.tail.tail hL.tail.tail.tail.tail.tail hL.tail.tail.tail.tail hSh
  have hval : ∀ (j : Nat) t v, Tryd.f3.params[j]? = some t → args[j]? = some v → Value.okWide Tryd.prog W .any base t v := hval0
  have hW' := hW
  obtain ⟨p, q, hA0, hV, rfl, hfz, hnd⟩ := hW
  have hA : DataW.TrodAll enc Tryd.prog W 0 (fun _ => true) true Tryd.f3.params.toList args.toList ds p := hA0
  rw [Tryd.params3] at hA hval
  obtain ⟨v0, vs0, d0, ds0, p0, q0, hargs, rfl, rfl, h0, r0⟩ := trodAll_cons hA
  obtain ⟨v1, vs1, d1, ds1, p1, q1, rfl, rfl, rfl, h1, r1⟩ := trodAll_cons r0
  obtain ⟨rfl, rfl, rfl⟩ := trodAll_nil r1
  obtain rfl : args = #[v0, v1] := by cases args; simp_all
  obtain ⟨rfl, rfl⟩ := trodVars_none hV
  have hk := bulk_two (hcond _ rfl)
  obtain ⟨A0, us0, c0, rfl, hs0, hnf0, hwf0⟩ := open_evs2 (hval 0 22 v0 rfl rfl) h0
  have hn0 : us0.length ≤ 1048576 := Nat.le_trans hnf0 hk.1
  have hw0 : ∀ e ∈ us0, EvWf 1048576 e := fun e he => (hwf0 e he).mono hk.1
  obtain ⟨A1, us1, c1, rfl, hs1, hnf1, hwf1⟩ := open_evs2 (hval 1 22 v1 rfl rfl) h1
  have hn1 : us1.length ≤ 1048576 := Nat.le_trans hnf1 hk.2
  have hw1 : ∀ e ∈ us1, EvWf 1048576 e := fun e he => (hwf1 e he).mono hk.2
  clear hA0 hval0
  refine (walk W A0 us0 c0 hs0 hn0 hw0 A1 us1 c1 hs1 hn1 hw1 hr).mono fun e W' ⟨he, hb⟩ => ?_
  subst he
  exact ⟨_, rfl, law_post laidOut (by kernel_rfl) rfl Tryd.underlying4 rfl hW' rfl rfl rfl hb⟩

theorem said : Rows.TraceEqualityUptoSaid :=
  OpenClaim.holds_of_cond 3 Tryd.f3 rfl rfl rfl rfl rfl rfl rfl ⟨rfl, rfl, rfl, rfl, rfl⟩ rfl rfl rfl rfl rfl (by kernel_rfl) Tryd.func3 (by kernel_rfl)
    (of_decide_eq_true (by kernel_rfl)) (by unfold Func.isWrapper; first | (rw [if_pos (by decide +kernel)]; kernel_rfl) | (rw [if_neg (by decide +kernel)]; exact ⟨rfl, rfl⟩))
    (fun os started H enc _ F => by rw [OpenClaim.pre_eq_preRow]; exact lifted os started H enc F)

/-- No parameter wants a stand-in; the program's looks are those of the card. -/
theorem plain (f : FuncId) (fn : Func) (hf : Tryd.pinned.checked.prog.funcNamed "samaritan/samaritanlaw51.TraceEquality" = some f) (hfn : Tryd.pinned.checked.prog.funcs[f]? = some fn) :
    true = Tryd.pinned.checked.prog.looks [] ∧ ∀ (j : Nat) t, fn.params[j]? = some t → Tryd.pinned.checked.prog.wantsStandIn t = false := by
  obtain rfl : f = 3 := Option.some.inj ((show Tryd.prog.funcNamed "samaritan/samaritanlaw51.TraceEquality" = some 3 by kernel_rfl).symm.trans hf) |>.symm
  obtain rfl : fn = Tryd.f3 := (Option.some.inj (Tryd.func3.symm.trans hfn)).symm
  refine ⟨by kernel_rfl, fun j t ht => ?_⟩
  rw [Tryd.params3] at ht
  have hm := Array.mem_of_getElem? ht
  have hall : (#[22, 22] : Array TypeId).toList.all (fun t => Tryd.prog.wantsStandIn t == false) = true := by kernel_rfl
  have := List.all_eq_true.1 hall t (by simpa using hm)
  exact beq_iff_eq.1 this

theorem card : Rows.TraceEqualityUptoCardSaid :=
  Claim7.holds_tied_plain_at .later [] _ _ _ _ said (fun _ h => by cases h) (by kernel_rfl) (fun _ h => by cases h) traceEqualityUpto_row_tie rfl ⟨rfl, rfl⟩ (by kernel_rfl) rfl plain (by kernel_rfl)
#print axioms card
end Go.Proofs.YtakdkiggaalimaaDoor.l51Equality
