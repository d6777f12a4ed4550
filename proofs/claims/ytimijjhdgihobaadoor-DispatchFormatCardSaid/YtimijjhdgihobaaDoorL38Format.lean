/-
  samaritanlaw38.DispatchFormat returns true for every input, and the arguments read afterwards as before.
  Conditions: those of the given row (its list of package variables), tied to the program's text by the given tie; the card speaks of the pruned copy of the project that the seat was translated from.
-/
import Derived.Test.YtimijjhdgihobaaDoorCards
import Derived.Test.YtimijjhdgihobaaDoorTie
import Derived.Test.YtimijjhdgihobaaDoorMqs
import Derived.Test.YtimijjhdgihobaaDoorMqzc
import Derived.Test.YtimijjhdgihobaaDoorMqf
import Derived.OpenShut
import Derived.Deep.RegionHeld3
import Derived.BigRegion
import Derived.Deep.DeepHandedRow
namespace Go.Proofs.YtimijjhdgihobaaDoor.l38Format
open Go.ChangeShapes Go.WideShapes Go.ChangeAt Go.RowKit Go.Maps
open Go.ChangeMaps (open_string shut_string)

set_option maxRecDepth 100000 in
set_option maxHeartbeats 4000000 in
theorem walk (w : World) (c : ChoT) (hc : ChoWf c) (hr : Ready w) :
    Calls Tryd.prog 6 #[.agg #[.int .i64 c.inc, .int .i64 c.kind, .int .i64 c.unit, .int .i64 c.time]] w fun e w' => e = .returned (.bool true) ∧ Below w.heap.size w w' := by
  obtain ⟨W, hW⟩ : ∃ W, W = w.alloc (.cells #[.int .i64 c.inc, .int .i64 c.kind, .int .i64 c.unit, .int .i64 c.time] 46) := ⟨_, rfl⟩
  have hbel : Below w.heap.size w W := by rw [hW]; exact (Below.refl _ _).alloc (Nat.le_refl _) _
  have hz : w.heap.size < W.heap.size := by rw [hW]; simp
  have c0 : W.cell? ⟨w.heap.size, 0, none⟩ = some (.int .i64 c.inc) := by rw [hW, World.cell?_alloc_at (hn := rfl)]; rfl
  have c1 : W.cell? ⟨w.heap.size, 1, none⟩ = some (.int .i64 c.kind) := by rw [hW, World.cell?_alloc_at (hn := rfl)]; rfl
  have c2 : W.cell? ⟨w.heap.size, 2, none⟩ = some (.int .i64 c.unit) := by rw [hW, World.cell?_alloc_at (hn := rfl)]; rfl
  have c3 : W.cell? ⟨w.heap.size, 3, none⟩ = some (.int .i64 c.time) := by rw [hW, World.cell?_alloc_at (hn := rfl)]; rfl
  have HB := Lib.hid hbel
  have HRW := Lib.hid (hr.below hbel)
  have HWF := Lib.hid hc
  have HBX := Lib.hid (show BoxC w.heap.size c W from ⟨c0, c1, c2, c3⟩)
  obtain ⟨T, hT⟩ : ∃ T, T = choX c := ⟨_, rfl⟩
  have HF : Hid (∀ X, Ready X → Calls Tryd.prog 11 #[.agg #[.int .i64 c.inc, .int .i64 c.kind, .int .i64 c.unit, .int .i64 c.time]] X fun e X' => e = .returned (.string T) ∧ Below X.heap.size X X') := Lib.hid (fun X h => by rw [hT]; exact format38_any c X HWF.out h)
  have HT : Hid (∀ X, Calls Tryd.prog 12 #[.agg #[.int .i64 c.inc, .int .i64 c.kind, .int .i64 c.unit, .int .i64 c.time]] X fun e X' => e = .returned (.string T) ∧ Below X.heap.size X X') := Lib.hid (fun X => by rw [hT]; exact text38_any c X HWF.out)
  have hh : (W.drewN 1).cell? ⟨w.heap.size, 0, none⟩ = some (.int .i64 c.inc) ∧ (W.drewN 1).cell? ⟨w.heap.size, 1, none⟩ = some (.int .i64 c.kind) ∧ (W.drewN 1).cell? ⟨w.heap.size, 2, none⟩ = some (.int .i64 c.unit) ∧ (W.drewN 1).cell? ⟨w.heap.size, 3, none⟩ = some (.int .i64 c.time) ∧ Ready (W.drewN 1) ∧ Below W.heap.size W (W.drewN 1) := ⟨c0, c1, c2, c3, HRW.out.below (drew_below W 1), drew_below W 1⟩
  have HH := Lib.hid hh
  have HNX := Lib.hid (fun (X X' : World) (h : X.cell? ⟨w.heap.size, 0, none⟩ = some (.int .i64 c.inc) ∧ X.cell? ⟨w.heap.size, 1, none⟩ = some (.int .i64 c.kind) ∧ X.cell? ⟨w.heap.size, 2, none⟩ = some (.int .i64 c.unit) ∧ X.cell? ⟨w.heap.size, 3, none⟩ = some (.int .i64 c.time) ∧ Ready X ∧ Below W.heap.size W X) (hb : Below X.heap.size X X') => (show X'.cell? ⟨w.heap.size, 0, none⟩ = some (.int .i64 c.inc) ∧ X'.cell? ⟨w.heap.size, 1, none⟩ = some (.int .i64 c.kind) ∧ X'.cell? ⟨w.heap.size, 2, none⟩ = some (.int .i64 c.unit) ∧ X'.cell? ⟨w.heap.size, 3, none⟩ = some (.int .i64 c.time) ∧ Ready X' ∧ Below W.heap.size W X' from by
    have hx := BoxC.below ⟨h.1, h.2.1, h.2.2.1, h.2.2.2.1⟩ (Nat.lt_of_lt_of_le hz h.2.2.2.2.2.size) hb
    exact ⟨hx.1, hx.2.1, hx.2.2.1, hx.2.2.2, h.2.2.2.2.1.below hb, below_then h.2.2.2.2.2 hb⟩))
  have he : (T.toList == T.toList) = true := beq_self_eq_true _
  clear hbel hr hc hT hh
  go_enter Tryd.func6, Tryd.ntmps6
  go_upto_region 1 with fail
  rw [← hW]
  clear hW
  go_region_held3 (fun w' => w'.cell? ⟨w.heap.size, 0, none⟩ = some (.int .i64 c.inc) ∧ w'.cell? ⟨w.heap.size, 1, none⟩ = some (.int .i64 c.kind) ∧ w'.cell? ⟨w.heap.size, 2, none⟩ = some (.int .i64 c.unit) ∧ w'.cell? ⟨w.heap.size, 3, none⟩ = some (.int .i64 c.time) ∧ Ready w' ∧ Below W.heap.size W w')
    (first | exact HH.out | exact HNX.out _ _ (by assumption) hbi)
    (first | (go_at_call 11; refine (HF.out _ ?_).mono ?_; (exact And.left (And.right (And.right (And.right (And.right ‹_ ∧ _ ∧ _ ∧ _ ∧ Ready _ ∧ _›))))); rintro e w' ⟨rfl, hbi⟩) | (go_at_call 12; refine (HT.out _).mono ?_; rintro e w' ⟨rfl, hbi⟩) | (go_at_call 8; refine (awake38_any _ ?_).mono ?_; (exact And.left (And.right (And.right (And.right (And.right ‹_ ∧ _ ∧ _ ∧ _ ∧ Ready _ ∧ _›))))); rintro e w' ⟨rfl, hbi⟩))
  have hf : w'.cell? ⟨w.heap.size, 0, none⟩ = some (.int .i64 c.inc) ∧ w'.cell? ⟨w.heap.size, 1, none⟩ = some (.int .i64 c.kind) ∧ w'.cell? ⟨w.heap.size, 2, none⟩ = some (.int .i64 c.unit) ∧ w'.cell? ⟨w.heap.size, 3, none⟩ = some (.int .i64 c.time) ∧ Ready w' ∧ Below W.heap.size W w' := by assumption
  have HFF := Lib.hid hf.2.2.2.2.2
  clear hf hbi
  go_wp2_with fail
  go_ret
  exact ⟨rfl, below_then HB.out HFF.out⟩

theorem laid_met (os : Os) : laidMet Tryd.prog Rows.dispatchFormatRow.laid ((World.laidAll Tryd.prog os Rows.dispatchFormatRow.laid).forCall (fun _ _ => 0) ⟨#[], #[.agg #[.int .i64 0, .int .i64 0, .int .i64 0, .int .i64 0]], []⟩).memory :=
  laidMet_laidAll _ (laid_fits os) (laid_ifaces os)
theorem reads (os : Os) {H : Type} (enc : TypeId × Value → H) : ∃ places, DataW.whole enc Tryd.prog ((World.laidAll Tryd.prog os Rows.dispatchFormatRow.laid).forCall (fun _ _ => 0) ⟨#[], #[.agg #[.int .i64 0, .int .i64 0, .int .i64 0, .int .i64 0]], []⟩).memory Tryd.f6.params.toList Rows.dispatchFormatSpec.vars false #[Value.agg #[.int .i64 0, .int .i64 0, .int .i64 0, .int .i64 0]].toList 8 = some ([.agg [.lit (.int .i64 0), .lit (.int .i64 0), .lit (.int .i64 0), .lit (.int .i64 0)]], [], places) :=
  ⟨[], by kernel_rfl⟩

set_option maxRecDepth 100000 in
theorem lifted (os : Os) (started : os.Started) (H : Type) (enc : TypeId × Value → H) (F : Stop.Interp) :
    ReturnsInHanded {} Tryd.checked os 6 .any ((OpenSpec.ofChange Rows.dispatchFormatSpec).preRow enc Tryd.prog Tryd.f6 Rows.dispatchFormatRow.domain false Rows.dispatchFormatRow.laid) (((OpenSpec.ofChange Rows.dispatchFormatSpec).at F).post enc Tryd.prog Tryd.f6 false true false false) := by
  obtain ⟨places, hx⟩ := reads os enc
  refine returnsInHanded_of_row (C := Tryd.checked) (s := OpenSpec.ofChange Rows.dispatchFormatSpec) own started (by kernel_rfl) Tryd.func6
    (witness_row_atRef (enc := enc) (C := Tryd.checked) false (World.laidAll Tryd.prog os Rows.dispatchFormatRow.laid) #[.agg #[.int .i64 0, .int .i64 0, .int .i64 0, .int .i64 0]] (World.laidAll_os _ _ _) (laid_vars os _) (laid_rest os _) (by kernel_rfl)
      (OpenSpec.preRow_of_cond 8 hx (by kernel_rfl) (fun k hk => by cases hk) (by kernel_rfl) (laid_met os))) ?_
  intro W base args ds gs before hval0 hW _ _ _ hLH hSh _
  have hL0 := hLH
  rw [MakeChecks.laidMetH_plain _ _ _ (by kernel_rfl)] at hL0
  have hL : laidMet Tryd.prog Rows.dispatchFormatRow.laid W := hL0
  clear hL0
  have hr : Ready W := ready_of hL.tail.tail hL.tail.tail.tail hSh
  have hval : ∀ (j : Nat) t v, Tryd.f6.params[j]? = some t → args[j]? = some v → Value.okWide Tryd.prog W .any base t v := hval0
  have hW' := hW
  obtain ⟨p, q, hA0, hV, rfl, hfz, hnd⟩ := hW
  have hA : DataW.TrodAll enc Tryd.prog W 0 (fun _ => true) true Tryd.f6.params.toList args.toList ds p := hA0
  rw [Tryd.params6] at hA hval
  obtain ⟨v0, vs0, d0, ds0, p0, q0, hargs, rfl, rfl, h0, r0⟩ := trodAll_cons hA
  obtain ⟨rfl, rfl, rfl⟩ := trodAll_nil r0
  obtain rfl : args = #[v0] := by cases args; simp_all
  obtain ⟨rfl, rfl⟩ := trodVars_none hV
  obtain ⟨c0, rfl, hc0⟩ := open_cho (hval 0 46 v0 rfl rfl) h0
  clear hA0 hval0
  refine (walk W c0 hc0 hr).mono fun e W' ⟨he, hb⟩ => ?_
  subst he
  exact ⟨_, rfl, law_post laidOut (by kernel_rfl) rfl Tryd.underlying4 rfl hW' rfl rfl rfl hb⟩

theorem said : Rows.DispatchFormatSaid :=
  OpenClaim.holds_of_cond 6 Tryd.f6 rfl rfl rfl rfl rfl rfl rfl ⟨rfl, rfl, rfl, rfl, rfl⟩ rfl rfl rfl rfl rfl (by kernel_rfl) Tryd.func6 (by kernel_rfl)
    (of_decide_eq_true (by kernel_rfl)) (by unfold Func.isWrapper; first | (rw [if_pos (by decide +kernel)]; kernel_rfl) | (rw [if_neg (by decide +kernel)]; exact ⟨rfl, rfl⟩))
    (fun os started H enc _ F => by rw [OpenClaim.pre_eq_preRow]; exact lifted os started H enc F)

/-- No parameter wants a stand-in; the program's looks are those of the card. -/
theorem plain (f : FuncId) (fn : Func) (hf : Tryd.pinned.checked.prog.funcNamed "samaritan/samaritanlaw38.DispatchFormat" = some f) (hfn : Tryd.pinned.checked.prog.funcs[f]? = some fn) :
    false = Tryd.pinned.checked.prog.looks [] ∧ ∀ (j : Nat) t, fn.params[j]? = some t → Tryd.pinned.checked.prog.wantsStandIn t = false := by
  obtain rfl : f = 6 := Option.some.inj ((show Tryd.prog.funcNamed "samaritan/samaritanlaw38.DispatchFormat" = some 6 by kernel_rfl).symm.trans hf) |>.symm
  obtain rfl : fn = Tryd.f6 := (Option.some.inj (Tryd.func6.symm.trans hfn)).symm
  refine ⟨by kernel_rfl, fun j t ht => ?_⟩
  rw [Tryd.params6] at ht
  have hm := Array.mem_of_getElem? ht
  have hall : (#[46] : Array TypeId).toList.all (fun t => Tryd.prog.wantsStandIn t == false) = true := by kernel_rfl
  have := List.all_eq_true.1 hall t (by simpa using hm)
  exact beq_iff_eq.1 this

theorem card : Rows.DispatchFormatCardSaid :=
  Claim7.holds_tied_plain_at .later [] _ _ _ _ said (fun _ h => by cases h) (by kernel_rfl) (fun _ h => by cases h) dispatchFormat_row_tie rfl ⟨rfl, rfl⟩ (by kernel_rfl) rfl plain (by kernel_rfl)
#print axioms card
end Go.Proofs.YtimijjhdgihobaaDoor.l38Format
