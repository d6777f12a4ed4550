/-
  samaritanlaw02.NodesetOf returns true for every input, and the arguments read afterwards as before.
  Conditions: those of the given row (its list of package variables), tied to the program's text by the given tie; the card speaks of the pruned copy of the project that the seat was translated from.
-/
import Derived.Test.YtalfjcamjdmdjaaDoorCards
import Derived.Test.YtalfjcamjdmdjaaDoorTie
import Derived.Test.YtalfjcamjdmdjaaDoorSetLaw
import Derived.Test.YtalfjcamjdmdjaaDoorLift
import Derived.Test.YtalfjcamjdmdjaaDoorLaidS
import Derived.OpenShut
import Derived.Deep.DeepHandedRow
namespace Go.Proofs.YtalfjcamjdmdjaaDoor.l02Of
open Go.ChangeShapes Go.WideShapes Go.ChangeAt Go.RowKit Go.Maps
open Go.ChangeMaps (open_string shut_string)

set_option maxRecDepth 100000 in
set_option maxHeartbeats 4000000 in
theorem walk (w : World) (A0 : Option Addr) (zs0 : List Int) (c0 : Nat) (hs0 : Sl w w.heap.size A0 (zs0.map (Value.int .i64))) (n : Int) (_wn : (Lit.int .i64 n).wf = true) (hr : Ready6 w) :
    Calls Tryd.prog 6 #[.slice A0 zs0.length c0, .int .i64 n] w fun e w' => e = .returned (.bool true) ∧ Below w.heap.size w w' := by
  have H1 := Lib.hid (And.intro (Below.refl w.heap.size w) (And.intro (hr) (hs0)))
  clear hr hs0
  by_cases hg0 : 60 < zs0.length
  · have dg0 : decide (60 < zs0.length) = true := decide_eq_true hg0
    go_enter Tryd.func6, Tryd.ntmps6
    go_wp2_with fail
    refine (refGreat_any A0 zs0.length c0 w).mono ?_
    rintro e w' ⟨rfl, hw⟩
    rw [hw]
    clear hw w'
    rw [dg0]
    go_wp2_with fail
    refine (awake_any w H1.out.2.1).mono ?_
    rintro e w2 ⟨rfl, hb2⟩
    have H2 := Lib.hid (And.intro (H1.out.1.trans (hb2.mono H1.out.1.size)) (And.intro (H1.out.2.1.below hb2) ((H1.out.2.2.below hb2).more hb2.size)))
    clear hb2
    go_wp2_with fail
    go_ret
    exact ⟨rfl, H2.out.1⟩
  · have dg0 : decide (60 < zs0.length) = false := decide_eq_false hg0
    have hz0 : zs0.length ≤ 60 := by omega
    go_enter Tryd.func6, Tryd.ntmps6
    go_wp2_with fail
    refine (refGreat_any A0 zs0.length c0 w).mono ?_
    rintro e w' ⟨rfl, hw⟩
    rw [hw]
    clear hw w'
    rw [dg0]
    go_wp2_with fail
    refine (of_any w A0 c0 zs0 H1.out.2.2 (by have := hz0; omega)).mono ?_
    rintro e w2 ⟨pS, rfl, hs, hb2⟩
    have H2 := Lib.hid (And.intro (H1.out.1.trans (hb2.mono H1.out.1.size)) (And.intro (H1.out.2.1.below hb2) (And.intro ((H1.out.2.2.below hb2).more hb2.size) (hs))))
    clear hs hb2
    go_wp2_with fail
    refine (refOf_any A0 c0 zs0 w2 H2.out.2.2.1 (by have := hz0; omega)).mono ?_
    rintro e w3 ⟨v, rfl, hown, hb3⟩
    rw [refOf_nodes] at hown
    obtain ⟨AT, cT, rfl, hsl⟩ := OwnV.sl hown
    have H3 := Lib.hid (And.intro (H2.out.1.trans (hb3.mono H2.out.1.size)) (And.intro (H2.out.2.1.below hb3) (And.intro ((H2.out.2.2.1.below hb3).more hb3.size) (And.intro (H2.out.2.2.2.below hb3) (hsl)))))
    clear hsl hown hb3
    go_wp2_with fail
    obtain ⟨w4, hw4⟩ : ∃ x, x = w3.alloc (.cells #[.pointer pS] 30) := ⟨_, rfl⟩
    have hb4 : Below w3.heap.size w3 w4 := by rw [hw4]; exact (Below.refl _ _).alloc (Nat.le_refl _) _
    have hcS_0 : w4.cell? ⟨w3.heap.size, 0, none⟩ = some (.pointer pS) := by rw [hw4, World.cell?_alloc_at (hn := rfl)]; rfl
    have hl4 : w3.heap.size < w4.heap.size := by rw [hw4]; simp
    rw [← hw4]
    have H4 := Lib.hid (And.intro (H3.out.1.trans (hb4.mono H3.out.1.size)) (And.intro (H3.out.2.1.below hb4) (And.intro ((H3.out.2.2.1.below hb4).more hb4.size) (And.intro (H3.out.2.2.2.1.below hb4) (And.intro ((H3.out.2.2.2.2.below hb4).more hb4.size) (hl4))))))
    clear hw4 hl4 hb4
    refine (same_any w4 H4.out.2.1 pS _ H4.out.2.2.2.1 AT cT H4.out.2.2.2.2.1).mono ?_
    rintro e w5 ⟨rfl, hb5⟩
    have hcS_1 := (hb5.cell (p := ⟨w3.heap.size, 0, none⟩) H4.out.2.2.2.2.2).trans hcS_0
    have H5 := Lib.hid (And.intro (H4.out.1.trans (hb5.mono H4.out.1.size)) (And.intro (H4.out.2.1.below hb5) (And.intro ((H4.out.2.2.1.below hb5).more hb5.size) (And.intro (H4.out.2.2.2.1.below hb5) (And.intro ((H4.out.2.2.2.2.1.below hb5).more hb5.size) (Nat.lt_of_lt_of_le H4.out.2.2.2.2.2 hb5.size))))))
    clear hcS_0 hb5
    go_wp2_with fail
    refine (has_any w5 pS _ n H5.out.2.2.2.1).mono ?_
    rintro e w6 ⟨rfl, hb6⟩
    have hcS_2 := (hb6.cell (p := ⟨w3.heap.size, 0, none⟩) H5.out.2.2.2.2.2).trans hcS_1
    have H6 := Lib.hid (And.intro (H5.out.1.trans (hb6.mono H5.out.1.size)) (And.intro (H5.out.2.1.below hb6) (And.intro ((H5.out.2.2.1.below hb6).more hb6.size) (And.intro (H5.out.2.2.2.1.below hb6) (And.intro ((H5.out.2.2.2.2.1.below hb6).more hb6.size) (Nat.lt_of_lt_of_le H5.out.2.2.2.2.2 hb6.size))))))
    clear hcS_1 hb6
    go_wp2_with fail
    refine (refHas_any AT cT (nodesI (ofW zs0)) n w6 H6.out.2.2.2.2.1 (by rw [nodesI_len]; have := popW_le (ofW zs0); rw [(wds_of zs0).len] at this; omega)).mono ?_
    rintro e w' ⟨rfl, hw⟩
    rw [hw]
    clear hw w'
    rw [nodesI_has (wds_of zs0) n]
    have hq : (hasB (ofW zs0) n == hasB (ofW zs0) n) = true := beq_iff_eq.2 rfl
    go_wp2_with fail
    refine (awake_any w6 H6.out.2.1).mono ?_
    rintro e w7 ⟨rfl, hb7⟩
    have hcS_3 := (hb7.cell (p := ⟨w3.heap.size, 0, none⟩) H6.out.2.2.2.2.2).trans hcS_2
    have H7 := Lib.hid (And.intro (H6.out.1.trans (hb7.mono H6.out.1.size)) (And.intro (H6.out.2.1.below hb7) (And.intro ((H6.out.2.2.1.below hb7).more hb7.size) (And.intro (H6.out.2.2.2.1.below hb7) (And.intro ((H6.out.2.2.2.2.1.below hb7).more hb7.size) (Nat.lt_of_lt_of_le H6.out.2.2.2.2.2 hb7.size))))))
    clear hcS_2 hb7
    go_wp2_with fail
    go_ret
    exact ⟨rfl, H7.out.1⟩

theorem laid_met (os : Os) : laidMet Tryd.prog Rows.nodesetOfRow.laid ((World.laidAll Tryd.prog os Rows.nodesetOfRow.laid).forCall (fun _ _ => 0) ⟨#[], #[.slice none 0 0, .int .i64 0], []⟩).memory :=
  laidMet_laidAll _ (laid_fits os) (laid_ifaces os)
theorem reads (os : Os) {H : Type} (enc : TypeId × Value → H) : ∃ places, DataW.whole enc Tryd.prog ((World.laidAll Tryd.prog os Rows.nodesetOfRow.laid).forCall (fun _ _ => 0) ⟨#[], #[.slice none 0 0, .int .i64 0], []⟩).memory Tryd.f6.params.toList Rows.nodesetOfSpec.vars false #[Value.slice none 0 0, .int .i64 0].toList 8 = some ([.nil, .lit (.int .i64 0)], [], places) :=
  ⟨[], by kernel_rfl⟩

set_option maxRecDepth 100000 in
theorem lifted (os : Os) (started : os.Started) (H : Type) (enc : TypeId × Value → H) (F : Stop.Interp) :
    ReturnsInHanded {} Tryd.checked os 6 .any ((OpenSpec.ofChange Rows.nodesetOfSpec).preRow enc Tryd.prog Tryd.f6 Rows.nodesetOfRow.domain false Rows.nodesetOfRow.laid) (((OpenSpec.ofChange Rows.nodesetOfSpec).at F).post enc Tryd.prog Tryd.f6 false true false false) := by
  obtain ⟨places, hx⟩ := reads os enc
  refine returnsInHanded_of_row (C := Tryd.checked) (s := OpenSpec.ofChange Rows.nodesetOfSpec) own started (by kernel_rfl) Tryd.func6
    (witness_row_atRef (enc := enc) (C := Tryd.checked) false (World.laidAll Tryd.prog os Rows.nodesetOfRow.laid) #[.slice none 0 0, .int .i64 0] (World.laidAll_os _ _ _) (laid_vars os _) (laid_rest os _) (by kernel_rfl)
      (OpenSpec.preRow_of_cond 8 hx (by kernel_rfl) (fun k hk => by cases hk) (by kernel_rfl) (laid_met os))) ?_
  intro W base args ds gs before hval0 hW _ _ _ hLH hSh _
  have hL0 := hLH
  rw [MakeChecks.laidMetH_plain _ _ _ (by kernel_rfl)] at hL0
  have hL : laidMet Tryd.prog Rows.nodesetOfRow.laid W := hL0
  clear hL0
  have hr : Ready6 W := ready_of hL.tail hL.tail.tail hL.tail.tail.tail.tail.tail hL.tail.tail.tail.tail hSh
  have hval : ∀ (j : Nat) t v, Tryd.f6.params[j]? = some t → args[j]? = some v → Value.okWide Tryd.prog W .any base t v := hval0
  have hW' := hW
  obtain ⟨p, q, hA0, hV, rfl, hfz, hnd⟩ := hW
  have hA : DataW.TrodAll enc Tryd.prog W 0 (fun _ => true) true Tryd.f6.params.toList args.toList ds p := hA0
  rw [Tryd.params6] at hA hval
  obtain ⟨v0, vs0, d0, ds0, p0, q0, hargs, rfl, rfl, h0, r0⟩ := trodAll_cons hA
  obtain ⟨v1, vs1, d1, ds1, p1, q1, rfl, rfl, rfl, h1, r1⟩ := trodAll_cons r0
  obtain ⟨rfl, rfl, rfl⟩ := trodAll_nil r1
  obtain rfl : args = #[v0, v1] := by cases args; simp_all
  obtain ⟨rfl, rfl⟩ := trodVars_none hV
  obtain ⟨A0, zs0, c0, rfl, hs0, hwf0, hc0, hm0, hz0⟩ := open_sl Tryd.underlying22 Tryd.underlying3 (by kernel_rfl) (hval 0 22 v0 rfl rfl) h0
  obtain ⟨a1, rfl, rfl, rfl, w1⟩ := open_int Tryd.underlying3 (hval 1 3 v1 rfl rfl) h1
  clear hA0 hval0
  refine (walk W A0 zs0 c0 hs0 a1 w1 hr).mono fun e W' ⟨he, hb⟩ => ?_
  subst he
  exact ⟨_, rfl, law_post laidOut (by kernel_rfl) rfl Tryd.underlying4 rfl hW' rfl rfl rfl hb⟩

theorem said : Rows.NodesetOfSaid :=
  OpenClaim.holds_of_cond 6 Tryd.f6 rfl rfl rfl rfl rfl rfl rfl ⟨rfl, rfl, rfl, rfl, rfl⟩ rfl rfl rfl rfl rfl (by kernel_rfl) Tryd.func6 (by kernel_rfl)
    (of_decide_eq_true (by kernel_rfl)) (by unfold Func.isWrapper; first | (rw [if_pos (by decide +kernel)]; kernel_rfl) | (rw [if_neg (by decide +kernel)]; exact ⟨rfl, rfl⟩))
    (fun os started H enc _ F => by rw [OpenClaim.pre_eq_preRow]; exact lifted os started H enc F)

/-- No parameter wants a stand-in; the program's looks are those of the card. -/
theorem plain (f : FuncId) (fn : Func) (hf : Tryd.pinned.checked.prog.funcNamed "samaritan/samaritanlaw02.NodesetOf" = some f) (hfn : Tryd.pinned.checked.prog.funcs[f]? = some fn) :
    true = Tryd.pinned.checked.prog.looks [] ∧ ∀ (j : Nat) t, fn.params[j]? = some t → Tryd.pinned.checked.prog.wantsStandIn t = false := by
  obtain rfl : f = 6 := Option.some.inj ((show Tryd.prog.funcNamed "samaritan/samaritanlaw02.NodesetOf" = some 6 by kernel_rfl).symm.trans hf) |>.symm
  obtain rfl : fn = Tryd.f6 := (Option.some.inj (Tryd.func6.symm.trans hfn)).symm
  refine ⟨by kernel_rfl, fun j t ht => ?_⟩
  rw [Tryd.params6] at ht
  have hm := Array.mem_of_getElem? ht
  have hall : (#[22, 3] : Array TypeId).toList.all (fun t => Tryd.prog.wantsStandIn t == false) = true := by kernel_rfl
  have := List.all_eq_true.1 hall t (by simpa using hm)
  exact beq_iff_eq.1 this

theorem card : Rows.NodesetOfCardSaid :=
  Claim7.holds_tied_plain_at .later [] _ _ _ _ said (fun _ h => by cases h) (by kernel_rfl) (fun _ h => by cases h) nodesetOf_row_tie rfl ⟨rfl, rfl⟩ (by kernel_rfl) rfl plain (by kernel_rfl)
#print axioms card
end Go.Proofs.YtalfjcamjdmdjaaDoor.l02Of
