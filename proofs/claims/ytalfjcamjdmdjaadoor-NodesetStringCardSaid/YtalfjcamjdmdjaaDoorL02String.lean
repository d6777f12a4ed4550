/-
  samaritanlaw02.NodesetString returns true for every input, and the arguments read afterwards as before.
  Conditions: those of the given row (its list of package variables), tied to the program's text by the given tie; the card speaks of the pruned copy of the project that the seat was translated from.
-/
import Derived.Test.YtalfjcamjdmdjaaDoorCards
import Derived.Test.YtalfjcamjdmdjaaDoorTie
import Derived.Test.YtalfjcamjdmdjaaDoorSetLaw
import Derived.Test.YtalfjcamjdmdjaaDoorLift
import Derived.Test.YtalfjcamjdmdjaaDoorLaidS
import Derived.OpenShut
import Derived.Deep.DeepHandedRow
namespace Go.Proofs.YtalfjcamjdmdjaaDoor.l02String
open Go.ChangeShapes Go.WideShapes Go.ChangeAt Go.RowKit Go.Maps
open Go.ChangeMaps (open_string shut_string)

set_option maxRecDepth 100000 in
set_option maxHeartbeats 4000000 in
theorem walk (w : World) (A0 : Option Addr) (zs0 : List Int) (c0 : Nat) (hs0 : Sl w w.heap.size A0 (zs0.map (Value.int .i64))) (hr : Ready6 w) :
    Calls Tryd.prog 4 #[.slice A0 zs0.length c0] w fun e w' => e = .returned (.bool true) ∧ Below w.heap.size w w' := by
  have H1 := Lib.hid (And.intro (Below.refl w.heap.size w) (And.intro (hr) (hs0)))
  clear hr hs0
  by_cases hg0 : 60 < zs0.length
  · have dg0 : decide (60 < zs0.length) = true := decide_eq_true hg0
    go_enter Tryd.func4, Tryd.ntmps4
    go_wp2_with fail
    refine (refGreat_any A0 zs0.length c0 w).mono ?_
    rintro e w' ⟨rfl, hw⟩
    rw [hw]
    clear hw w'
    rw [dg0]
    go_wp2_with fail
    refine (awake_any w H1.out.2.1).mono ?_
    rintro e w2 ⟨rfl, hb2⟩
    have H2 := Lib.hid (And.intro (H1.out.1.trans (hb2.mono H1.out.1.size)) (And.intro (H1.out.2.1.below hb2) ((H1.out.2.2.below hb2).more hb2.size)))
    clear hb2
    go_wp2_with fail
    go_ret
    exact ⟨rfl, H2.out.1⟩
  · have dg0 : decide (60 < zs0.length) = false := decide_eq_false hg0
    have hz0 : zs0.length ≤ 60 := by omega
    go_enter Tryd.func4, Tryd.ntmps4
    go_wp2_with fail
    refine (refGreat_any A0 zs0.length c0 w).mono ?_
    rintro e w' ⟨rfl, hw⟩
    rw [hw]
    clear hw w'
    rw [dg0]
    go_wp2_with fail
    refine (of_any w A0 c0 zs0 H1.out.2.2 (by have := hz0; omega)).mono ?_
    rintro e w2 ⟨pS, rfl, hs, hb2⟩
    have H2 := Lib.hid (And.intro (H1.out.1.trans (hb2.mono H1.out.1.size)) (And.intro (H1.out.2.1.below hb2) (And.intro ((H1.out.2.2.below hb2).more hb2.size) (hs))))
    clear hs hb2
    go_wp2_with fail
    obtain ⟨w3, hw3⟩ : ∃ x, x = w2.alloc (.cells #[.pointer pS] 30) := ⟨_, rfl⟩
    have hb3 : Below w2.heap.size w2 w3 := by rw [hw3]; exact (Below.refl _ _).alloc (Nat.le_refl _) _
    have hcS_0 : w3.cell? ⟨w2.heap.size, 0, none⟩ = some (.pointer pS) := by rw [hw3, World.cell?_alloc_at (hn := rfl)]; rfl
    have hl3 : w2.heap.size < w3.heap.size := by rw [hw3]; simp
    rw [← hw3]
    have H3 := Lib.hid (And.intro (H2.out.1.trans (hb3.mono H2.out.1.size)) (And.intro (H2.out.2.1.below hb3) (And.intro ((H2.out.2.2.1.below hb3).more hb3.size) (And.intro (H2.out.2.2.2.below hb3) (hl3)))))
    clear hw3 hl3 hb3
    obtain ⟨V, hV⟩ : ∃ V, V = ofW zs0 := ⟨_, rfl⟩
    have HV := Lib.hid hV
    rw [← hV] at H3
    clear hV
    refine (string_any w3 pS V H3.out.2.2.2.1 H3.out.2.1).mono ?_
    rintro e w4 ⟨rfl, hb4⟩
    have hcS_1 := (hb4.cell (p := ⟨w2.heap.size, 0, none⟩) H3.out.2.2.2.2).trans hcS_0
    have H4 := Lib.hid (And.intro (H3.out.1.trans (hb4.mono H3.out.1.size)) (And.intro (H3.out.2.1.below hb4) (And.intro ((H3.out.2.2.1.below hb4).more hb4.size) (And.intro (H3.out.2.2.2.1.below hb4) (Nat.lt_of_lt_of_le H3.out.2.2.2.2 hb4.size)))))
    clear hcS_0 hb4
    go_wp2_with fail
    refine (parse_back w4 H4.out.2.1 H4.out.2.2.2.1.1).mono ?_
    rintro e w5 ⟨pB, rfl, hs, hb5⟩
    have hcS_2 := (hb5.cell (p := ⟨w2.heap.size, 0, none⟩) H4.out.2.2.2.2).trans hcS_1
    have H5 := Lib.hid (And.intro (H4.out.1.trans (hb5.mono H4.out.1.size)) (And.intro (H4.out.2.1.below hb5) (And.intro ((H4.out.2.2.1.below hb5).more hb5.size) (And.intro (H4.out.2.2.2.1.below hb5) (And.intro (Nat.lt_of_lt_of_le H4.out.2.2.2.2 hb5.size) (hs))))))
    clear hs hcS_1 hb5
    go_wp2_with fail
    obtain ⟨w6, hw6⟩ : ∃ x, x = w5.alloc (.cells #[.pointer pB] 30) := ⟨_, rfl⟩
    have hb6 : Below w5.heap.size w5 w6 := by rw [hw6]; exact (Below.refl _ _).alloc (Nat.le_refl _) _
    have hcB_0 : w6.cell? ⟨w5.heap.size, 0, none⟩ = some (.pointer pB) := by rw [hw6, World.cell?_alloc_at (hn := rfl)]; rfl
    have hl6 : w5.heap.size < w6.heap.size := by rw [hw6]; simp
    rw [← hw6]
    have hcS_3 := (hb6.cell (p := ⟨w2.heap.size, 0, none⟩) H5.out.2.2.2.2.1).trans hcS_2
    have H6 := Lib.hid (And.intro (H5.out.1.trans (hb6.mono H5.out.1.size)) (And.intro (H5.out.2.1.below hb6) (And.intro ((H5.out.2.2.1.below hb6).more hb6.size) (And.intro (H5.out.2.2.2.1.below hb6) (And.intro (Nat.lt_of_lt_of_le H5.out.2.2.2.2.1 hb6.size) (And.intro (H5.out.2.2.2.2.2.below hb6) (hl6)))))))
    clear hw6 hl6 hcS_2 hb6
    refine (refOf_any A0 c0 zs0 w6 H6.out.2.2.1 (by have := hz0; omega)).mono ?_
    rintro e w7 ⟨v, rfl, hown, hb7⟩
    rw [refOf_nodes] at hown
    obtain ⟨AT, cT, rfl, hsl⟩ := OwnV.sl hown
    have hcS_4 := (hb7.cell (p := ⟨w2.heap.size, 0, none⟩) H6.out.2.2.2.2.1).trans hcS_3
    have hcB_1 := (hb7.cell (p := ⟨w5.heap.size, 0, none⟩) H6.out.2.2.2.2.2.2).trans hcB_0
    have H7 := Lib.hid (And.intro (H6.out.1.trans (hb7.mono H6.out.1.size)) (And.intro (H6.out.2.1.below hb7) (And.intro ((H6.out.2.2.1.below hb7).more hb7.size) (And.intro (H6.out.2.2.2.1.below hb7) (And.intro (Nat.lt_of_lt_of_le H6.out.2.2.2.2.1 hb7.size) (And.intro (H6.out.2.2.2.2.2.1.below hb7) (And.intro (Nat.lt_of_lt_of_le H6.out.2.2.2.2.2.2 hb7.size) (hsl))))))))
    clear hsl hown hcS_3 hcB_0 hb7
    rw [← HV.out] at H7 ⊢
    have hrt := refText_any AT cT (nodesW V) (nodes_up V) (nodes_4 H7.out.2.2.2.1.1) (nodes_le H7.out.2.2.2.1.1) w7 H7.out.2.2.2.2.2.2.2
    rw [← nodesI_length] at hrt
    have HRT := Lib.hid hrt
    clear hrt
    go_wp2_with fail
    refine (HRT.out).mono ?_
    rintro e w8 ⟨rfl, hb8⟩
    have hcS_5 := (hb8.cell (p := ⟨w2.heap.size, 0, none⟩) H7.out.2.2.2.2.1).trans hcS_4
    have hcB_2 := (hb8.cell (p := ⟨w5.heap.size, 0, none⟩) H7.out.2.2.2.2.2.2.1).trans hcB_1
    have H8 := Lib.hid (And.intro (H7.out.1.trans (hb8.mono H7.out.1.size)) (And.intro (H7.out.2.1.below hb8) (And.intro ((H7.out.2.2.1.below hb8).more hb8.size) (And.intro (H7.out.2.2.2.1.below hb8) (And.intro (Nat.lt_of_lt_of_le H7.out.2.2.2.2.1 hb8.size) (And.intro (H7.out.2.2.2.2.2.1.below hb8) (And.intro (Nat.lt_of_lt_of_le H7.out.2.2.2.2.2.2.1 hb8.size) ((H7.out.2.2.2.2.2.2.2.below hb8).more hb8.size))))))))
    clear hcS_4 hcB_1 hb8
    have hq : ((bs (textL (nodesW V))).toList == (bs (textL (nodesW V))).toList) = true := beq_iff_eq.2 rfl
    go_wp2_with fail
    refine (equal_any w8 pB pS V V H8.out.2.2.2.2.2.1 H8.out.2.2.2.1).mono ?_
    rintro e w9 ⟨rfl, hb9⟩
    have hcS_6 := (hb9.cell (p := ⟨w2.heap.size, 0, none⟩) H8.out.2.2.2.2.1).trans hcS_5
    have hcB_3 := (hb9.cell (p := ⟨w5.heap.size, 0, none⟩) H8.out.2.2.2.2.2.2.1).trans hcB_2
    have H9 := Lib.hid (And.intro (H8.out.1.trans (hb9.mono H8.out.1.size)) (And.intro (H8.out.2.1.below hb9) (And.intro ((H8.out.2.2.1.below hb9).more hb9.size) (And.intro (H8.out.2.2.2.1.below hb9) (And.intro (Nat.lt_of_lt_of_le H8.out.2.2.2.2.1 hb9.size) (And.intro (H8.out.2.2.2.2.2.1.below hb9) (And.intro (Nat.lt_of_lt_of_le H8.out.2.2.2.2.2.2.1 hb9.size) ((H8.out.2.2.2.2.2.2.2.below hb9).more hb9.size))))))))
    clear hcS_5 hcB_2 hb9
    rw [show (V == V) = true from beq_iff_eq.2 rfl]
    go_wp2_with fail
    refine (awake_any w9 H9.out.2.1).mono ?_
    rintro e w10 ⟨rfl, hb10⟩
    have hcS_7 := (hb10.cell (p := ⟨w2.heap.size, 0, none⟩) H9.out.2.2.2.2.1).trans hcS_6
    have hcB_4 := (hb10.cell (p := ⟨w5.heap.size, 0, none⟩) H9.out.2.2.2.2.2.2.1).trans hcB_3
    have H10 := Lib.hid (And.intro (H9.out.1.trans (hb10.mono H9.out.1.size)) (And.intro (H9.out.2.1.below hb10) (And.intro ((H9.out.2.2.1.below hb10).more hb10.size) (And.intro (H9.out.2.2.2.1.below hb10) (And.intro (Nat.lt_of_lt_of_le H9.out.2.2.2.2.1 hb10.size) (And.intro (H9.out.2.2.2.2.2.1.below hb10) (And.intro (Nat.lt_of_lt_of_le H9.out.2.2.2.2.2.2.1 hb10.size) ((H9.out.2.2.2.2.2.2.2.below hb10).more hb10.size))))))))
    clear hcS_6 hcB_3 hb10
    go_wp2_with fail
    go_ret
    exact ⟨rfl, H10.out.1⟩

theorem laid_met (os : Os) : laidMet Tryd.prog Rows.nodesetStringRow.laid ((World.laidAll Tryd.prog os Rows.nodesetStringRow.laid).forCall (fun _ _ => 0) ⟨#[], #[.slice none 0 0], []⟩).memory :=
  laidMet_laidAll _ (laid_fits os) (laid_ifaces os)
theorem reads (os : Os) {H : Type} (enc : TypeId × Value → H) : ∃ places, DataW.whole enc Tryd.prog ((World.laidAll Tryd.prog os Rows.nodesetStringRow.laid).forCall (fun _ _ => 0) ⟨#[], #[.slice none 0 0], []⟩).memory Tryd.f4.params.toList Rows.nodesetStringSpec.vars false #[Value.slice none 0 0].toList 8 = some ([.nil], [], places) :=
  ⟨[], by kernel_rfl⟩

set_option maxRecDepth 100000 in
theorem lifted (os : Os) (started : os.Started) (H : Type) (enc : TypeId × Value → H) (F : Stop.Interp) :
    ReturnsInHanded {} Tryd.checked os 4 .any ((OpenSpec.ofChange Rows.nodesetStringSpec).preRow enc Tryd.prog Tryd.f4 Rows.nodesetStringRow.domain false Rows.nodesetStringRow.laid) (((OpenSpec.ofChange Rows.nodesetStringSpec).at F).post enc Tryd.prog Tryd.f4 false true false false) := by
  obtain ⟨places, hx⟩ := reads os enc
  refine returnsInHanded_of_row (C := Tryd.checked) (s := OpenSpec.ofChange Rows.nodesetStringSpec) own started (by kernel_rfl) Tryd.func4
    (witness_row_atRef (enc := enc) (C := Tryd.checked) false (World.laidAll Tryd.prog os Rows.nodesetStringRow.laid) #[.slice none 0 0] (World.laidAll_os _ _ _) (laid_vars os _) (laid_rest os _) (by kernel_rfl)
      (OpenSpec.preRow_of_cond 8 hx (by kernel_rfl) (fun k hk => by cases hk) (by kernel_rfl) (laid_met os))) ?_
  intro W base args ds gs before hval0 hW _ _ _ hLH hSh _
  have hL0 := hLH
  rw [MakeChecks.laidMetH_plain _ _ _ (by kernel_rfl)] at hL0
  have hL : laidMet Tryd.prog Rows.nodesetStringRow.laid W := hL0
  clear hL0
  have hr : Ready6 W := ready_of hL.tail hL.tail.tail hL.tail.tail.tail.tail.tail hL.tail.tail.tail.tail hSh
  have hval : ∀ (j : Nat) t v, Tryd.f4.params[j]? = some t → args[j]? = some v → Value.okWide Tryd.prog W .any base t v := hval0
  have hW' := hW
  obtain ⟨p, q, hA0, hV, rfl, hfz, hnd⟩ := hW
  have hA : DataW.TrodAll enc Tryd.prog W 0 (fun _ => true) true Tryd.f4.params.toList args.toList ds p := hA0
  rw [Tryd.params4] at hA hval
  obtain ⟨v0, vs0, d0, ds0, p0, q0, hargs, rfl, rfl, h0, r0⟩ := trodAll_cons hA
  obtain ⟨rfl, rfl, rfl⟩ := trodAll_nil r0
  obtain rfl : args = #[v0] := by cases args; simp_all
  obtain ⟨rfl, rfl⟩ := trodVars_none hV
  obtain ⟨A0, zs0, c0, rfl, hs0, hwf0, hc0, hm0, hz0⟩ := open_sl Tryd.underlying22 Tryd.underlying3 (by kernel_rfl) (hval 0 22 v0 rfl rfl) h0
  clear hA0 hval0
  refine (walk W A0 zs0 c0 hs0 hr).mono fun e W' ⟨he, hb⟩ => ?_
  subst he
  exact ⟨_, rfl, law_post laidOut (by kernel_rfl) rfl Tryd.underlying4 rfl hW' rfl rfl rfl hb⟩

theorem said : Rows.NodesetStringSaid :=
  OpenClaim.holds_of_cond 4 Tryd.f4 rfl rfl rfl rfl rfl rfl rfl ⟨rfl, rfl, rfl, rfl, rfl⟩ rfl rfl rfl rfl rfl (by kernel_rfl) Tryd.func4 (by kernel_rfl)
    (of_decide_eq_true (by kernel_rfl)) (by unfold Func.isWrapper; first | (rw [if_pos (by decide +kernel)]; kernel_rfl) | (rw [if_neg (by decide +kernel)]; exact ⟨rfl, rfl⟩))
    (fun os started H enc _ F => by rw [OpenClaim.pre_eq_preRow]; exact lifted os started H enc F)

/-- No parameter wants a stand-in; the program's looks are those of the card. -/
theorem plain (f : FuncId) (fn : Func) (hf : Tryd.pinned.checked.prog.funcNamed "samaritan/samaritanlaw02.NodesetString" = some f) (hfn : Tryd.pinned.checked.prog.funcs[f]? = some fn) :
    true = Tryd.pinned.checked.prog.looks [] ∧ ∀ (j : Nat) t, fn.params[j]? = some t → Tryd.pinned.checked.prog.wantsStandIn t = false := by
  obtain rfl : f = 4 := Option.some.inj ((show Tryd.prog.funcNamed "samaritan/samaritanlaw02.NodesetString" = some 4 by kernel_rfl).symm.trans hf) |>.symm
  obtain rfl : fn = Tryd.f4 := (Option.some.inj (Tryd.func4.symm.trans hfn)).symm
  refine ⟨by kernel_rfl, fun j t ht => ?_⟩
  rw [Tryd.params4] at ht
  have hm := Array.mem_of_getElem? ht
  have hall : (#[22] : Array TypeId).toList.all (fun t => Tryd.prog.wantsStandIn t == false) = true := by kernel_rfl
  have := List.all_eq_true.1 hall t (by simpa using hm)
  exact beq_iff_eq.1 this

theorem card : Rows.NodesetStringCardSaid :=
  Claim7.holds_tied_plain_at .later [] _ _ _ _ said (fun _ h => by cases h) (by kernel_rfl) (fun _ h => by cases h) nodesetString_row_tie rfl ⟨rfl, rfl⟩ (by kernel_rfl) rfl plain (by kernel_rfl)
#print axioms card
end Go.Proofs.YtalfjcamjdmdjaaDoor.l02String
