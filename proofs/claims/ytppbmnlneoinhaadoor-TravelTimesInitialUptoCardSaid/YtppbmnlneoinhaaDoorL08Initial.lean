/-
  samaritanlaw08.TravelTimesInitial returns true for every input whose reading is of bulk at most 1048576, and the arguments read afterwards as before.
  Conditions: those of the given row (its list of package variables), tied to the program's text by the given tie; the card speaks of the pruned copy of the project that the seat was translated from.
-/
import Derived.Test.YtppbmnlneoinhaaDoorCards
import Derived.Test.YtppbmnlneoinhaaDoorTie
import Derived.Test.YtppbmnlneoinhaaDoorInit
import Derived.Test.YtppbmnlneoinhaaDoorAlive
import Derived.Test.YtppbmnlneoinhaaDoorLift
import Derived.Test.YtppbmnlneoinhaaDoorLaidV
import Derived.OpenShut
import Derived.Deep.DeepHandedRow
namespace Go.Proofs.YtppbmnlneoinhaaDoor.l08Initial
open Go.ChangeShapes Go.WideShapes Go.ChangeAt Go.RowKit Go.Maps
open Go.ChangeMaps (open_string shut_string)

set_option maxRecDepth 100000 in
set_option maxHeartbeats 2000000 in
theorem walk (w : World) (A0 : Option Addr) (zs : List Int) (c0 : Nat) (hs0 : Sl w w.heap.size A0 (zs.map (Value.int .i64))) (hN : zs.length ≤ 1048576) (t : Int) (_ht : (Lit.int .i64 t).wf = true) (s : ByteArray) (_hs : s.size ≤ maxLen) (hr : Ready w) :
    Calls Tryd.prog 5 #[.slice A0 zs.length c0, .int .i64 t, .string s] w fun e w' => e = .returned (.bool true) ∧ Below w.heap.size w w' := by
  have HS0 := Lib.hid hs0
  have hal := alive_any w hr
  have HAL := Lib.hid hal
  have HR := Lib.hid hr
  clear hs0 hal hr
  go_enter Tryd.func5, Tryd.ntmps5
  go_wp2_with fail
  refine HAL.out.mono ?_
  rintro e w1 ⟨rfl, hb1⟩
  have HB1 := Lib.hid hb1
  clear hb1
  go_wp2_with fail
  refine (made_any w1 A0 c0 zs ((HS0.out.below HB1.out).more HB1.out.size) hN).mono ?_
  rintro e w2 ⟨hb2, h⟩
  have HB2 := Lib.hid (HB1.out.trans (hb2.mono HB1.out.size))
  clear hb2
  rcases h with ⟨hok, h30, gp, p, cb, B, rfl, hB, ht⟩ | ⟨_, rfl⟩
  · obtain ⟨E, hE⟩ : ∃ E, E = ringE zs := ⟨_, rfl⟩
    have hEl : zs.length = E.length := by rw [hE, ringE_len]
    have hEm : E.map EdgeT.tm = zs := by rw [hE, ringE_tm]
    rw [← hE] at ht
    have HEM := Lib.hid hEm
    have HCL := Lib.hid (closedE_nil (E := E) (by rw [hEm]; exact fun x hx => (hok x hx).2) t E.length (Nat.le_refl _))
    have HAE := Lib.hid ((allE_nil E t).trans hEm)
    have HEL := Lib.hid hEl
    obtain ⟨W3, hW3⟩ : ∃ W3, W3 = w2.alloc (.cells #[.slice A0 E.length c0, .slice none 0 0] 28) := ⟨_, rfl⟩
    have hb3 : Below w2.heap.size w2 W3 := by rw [hW3]; exact (Below.refl _ _).alloc (Nat.le_refl _) _
    rw [hEl] at h30 ⊢
    have HT := Lib.hid (ht.below hb3)
    have HB3 := Lib.hid (HB2.out.trans (hb3.mono HB2.out.size))
    have HW3 := Lib.hid hW3
    clear hok hE hEm ht hEl hN hW3 hb3
    by_cases hs1 : 1000 < s.size
    · have d0 : decide ((1000 : Int) < (s.size : Int)) = true := by simp; omega
      have d0' : decide (1000 < s.size) = true := by simp; omega
      go_wp2_with fail
      go_ret
      rw [← HW3.out]
      exact ⟨rfl, HB3.out⟩
    · have d0 : decide ((1000 : Int) < (s.size : Int)) = false := by simp; omega
      have d0' : decide (1000 < s.size) = false := by simp; omega
      go_wp2_with fail
      rw [← HW3.out]
      refine (parse_nil s W3).mono ?_
      rintro e w4 ⟨rfl, hb4⟩
      have HT4 := Lib.hid (HT.out.below hb4)
      have HB4 := Lib.hid (HB3.out.trans (hb4.mono HB3.out.size))
      clear hb4
      go_wp2_with fail
      refine (all_any HT4.out (by simp) (by omega) t).mono ?_
      rintro e w5 ⟨g5, rfl, hg5, hown5, hb5⟩
      have HT5 := Lib.hid (HT4.out.below hb5)
      have HB5 := Lib.hid (HB4.out.trans (hb5.mono HB4.out.size))
      have hnum : Calls Tryd.prog 15 #[.slice (some ⟨g5, 0, none⟩) E.length E.length, .slice A0 E.length c0] w5 fun e w' => e = .returned (.bool true) ∧ Below w5.heap.size w5 w' := by
        rw [HAE.out] at hown5
        obtain ⟨A5, c5, e5, hsl5⟩ := hown5.sl
        injection e5 with e51
        subst e51
        have := numbers_any (some ⟨g5, 0, none⟩) A0 E.length c0 zs w5 hsl5 ((HS0.out.below HB5.out).more HB5.out.size) (by have := HEL.out; omega)
        rw [HEL.out] at this
        exact this
      have HNUM := Lib.hid hnum
      clear hown5 hb5 hnum
      go_wp2_with fail
      refine HNUM.out.mono ?_
      rintro e w6 ⟨rfl, hb6⟩
      have HT6 := Lib.hid (HT5.out.below hb6)
      have HB6 := Lib.hid (HB5.out.trans (hb6.mono HB5.out.size))
      clear hb6
      go_wp2_with fail
      refine (closed_any HT6.out (by simp) (by omega) t).mono ?_
      rintro e w7 ⟨v7, rfl, hown7, hb7⟩
      have HT7 := Lib.hid (HT6.out.below hb7)
      have HB7 := Lib.hid (HB6.out.trans (hb7.mono HB6.out.size))
      rw [HCL.out] at hown7
      obtain ⟨A7, c7, e7, _⟩ := hown7.sl
      have e7 : v7 = .slice A7 0 c7 := e7
      subst e7
      clear hown7 hb7
      go_wp2_with fail
      have hfm := format_any HT7.out (by omega) (by simp) (HR.out.below HB7.out)
      rw [show bs (textC []) = ⟨#[]⟩ from rfl] at hfm
      refine hfm.mono ?_
      clear hfm
      rintro e w8 ⟨rfl, hb8⟩
      have HB8 := Lib.hid (HB7.out.trans (hb8.mono HB7.out.size))
      clear hb8
      go_wp2_with fail
      refine (newT_nil w8).mono ?_
      rintro e w' ⟨rfl, rfl⟩
      go_wp2_with fail
      go_ret
      exact ⟨ret_bool (by first | rfl | simp), HB8.out⟩
  · go_wp2_with fail
    go_ret
    exact ⟨rfl, HB2.out.alloc HB2.out.size _⟩

theorem laid_met (os : Os) : laidMet Tryd.prog Rows.travelTimesInitialUptoRow.laid ((World.laidAll Tryd.prog os Rows.travelTimesInitialUptoRow.laid).forCall (fun _ _ => 0) ⟨#[], #[.slice none 0 0, .int .i64 0, .string ⟨#[]⟩], []⟩).memory :=
  laidMet_laidAll _ (laid_fits os) (laid_ifaces os)
theorem reads (os : Os) {H : Type} (enc : TypeId × Value → H) : ∃ places, DataW.whole enc Tryd.prog ((World.laidAll Tryd.prog os Rows.travelTimesInitialUptoRow.laid).forCall (fun _ _ => 0) ⟨#[], #[.slice none 0 0, .int .i64 0, .string ⟨#[]⟩], []⟩).memory Tryd.f5.params.toList Rows.travelTimesInitialSpec.vars false #[Value.slice none 0 0, .int .i64 0, .string ⟨#[]⟩].toList 8 = some ([.nil, .lit (.int .i64 0), .lit (.string [])], [], places) :=
  ⟨[], by kernel_rfl⟩

set_option maxRecDepth 100000 in
theorem lifted (os : Os) (started : os.Started) (H : Type) (enc : TypeId × Value → H) (F : Stop.Interp) :
    ReturnsInHanded {} Tryd.checked os 5 .any ((Rows.OpenSpec.upto Rows.travelTimesInitialSpec).preRow enc Tryd.prog Tryd.f5 Rows.travelTimesInitialUptoRow.domain false Rows.travelTimesInitialUptoRow.laid) (((Rows.OpenSpec.upto Rows.travelTimesInitialSpec).at F).post enc Tryd.prog Tryd.f5 false true false false) := by
  obtain ⟨places, hx⟩ := reads os enc
  refine returnsInHanded_of_row (C := Tryd.checked) (s := Rows.OpenSpec.upto Rows.travelTimesInitialSpec) own started (by kernel_rfl) Tryd.func5
    (witness_row_atRef (enc := enc) (C := Tryd.checked) false (World.laidAll Tryd.prog os Rows.travelTimesInitialUptoRow.laid) #[.slice none 0 0, .int .i64 0, .string ⟨#[]⟩] (World.laidAll_os _ _ _) (laid_vars os _) (laid_rest os _) (by kernel_rfl)
      (OpenSpec.preRow_of_cond 8 hx (by kernel_rfl) (fun k hk => by cases hk; kernel_rfl) (by kernel_rfl) (laid_met os))) ?_
  intro W base args ds gs before hval0 hW _ hcond _ hLH hSh _
  have hL0 := hLH
  rw [MakeChecks.laidMetH_plain _ _ _ (by kernel_rfl)] at hL0
  have hL : laidMet Tryd.prog Rows.travelTimesInitialUptoRow.laid W := hL0
  clear hL0
  have hr : Ready W := ready_of hL.tail.tail hSh
  have hval : ∀ (j : Nat) t v, Tryd.f5.params[j]? = some t → args[j]? = some v → Value.okWide Tryd.prog W .any base t v := hval0
  have hW' := hW
  obtain ⟨p, q, hA0, hV, rfl, hfz, hnd⟩ := hW
  have hA : DataW.TrodAll enc Tryd.prog W 0 (fun _ => true) true Tryd.f5.params.toList args.toList ds p := hA0
  rw [Tryd.params5] at hA hval
  obtain ⟨v0, vs0, d0, ds0, p0, q0, hargs, rfl, rfl, h0, r0⟩ := trodAll_cons hA
  obtain ⟨v1, vs1, d1, ds1, p1, q1, rfl, rfl, rfl, h1, r1⟩ := trodAll_cons r0
  obtain ⟨v2, vs2, d2, ds2, p2, q2, rfl, rfl, rfl, h2, r2⟩ := trodAll_cons r1
  obtain ⟨rfl, rfl, rfl⟩ := trodAll_nil r2
  obtain rfl : args = #[v0, v1, v2] := by cases args; simp_all
  obtain ⟨rfl, rfl⟩ := trodVars_none hV
  have hk := bulk_three (hcond _ rfl)
  obtain ⟨A0, zs0, c0, rfl, hs0, hwf0, hc0, hm0, hz0⟩ := open_sl Tryd.underlying22 Tryd.underlying2 (by kernel_rfl) (hval 0 22 v0 rfl rfl) h0
  have hn0 : zs0.length ≤ 1048576 := Nat.le_trans (bulk_slice Tryd.underlying22 h0) hk.1
  obtain ⟨a1, rfl, rfl, rfl, w1⟩ := open_int Tryd.underlying2 (hval 1 2 v1 rfl rfl) h1
  obtain ⟨s2, rfl, rfl, rfl, w2⟩ := open_string Tryd.underlying9 (hval 2 9 v2 rfl rfl) h2
  clear hA0 hval0
  refine (walk W A0 zs0 c0 hs0 hn0 a1 w1 s2 w2 hr).mono fun e W' ⟨he, hb⟩ => ?_
  subst he
  exact ⟨_, rfl, law_post laidOut (by kernel_rfl) rfl Tryd.underlying4 rfl hW' rfl rfl rfl hb⟩

theorem said : Rows.TravelTimesInitialUptoSaid :=
  OpenClaim.holds_of_cond 5 Tryd.f5 rfl rfl rfl rfl rfl rfl rfl ⟨rfl, rfl, rfl, rfl, rfl⟩ rfl rfl rfl rfl rfl (by kernel_rfl) Tryd.func5 (by kernel_rfl)
    (of_decide_eq_true (by kernel_rfl)) (by unfold Func.isWrapper; first | (rw [if_pos (by decide +kernel)]; kernel_rfl) | (rw [if_neg (by decide +kernel)]; exact ⟨rfl, rfl⟩))
    (fun os started H enc _ F => by rw [OpenClaim.pre_eq_preRow]; exact lifted os started H enc F)

/-- No parameter wants a stand-in; the program's looks are those of the card. -/
theorem plain (f : FuncId) (fn : Func) (hf : Tryd.pinned.checked.prog.funcNamed "samaritan/samaritanlaw08.TravelTimesInitial" = some f) (hfn : Tryd.pinned.checked.prog.funcs[f]? = some fn) :
    true = Tryd.pinned.checked.prog.looks [] ∧ ∀ (j : Nat) t, fn.params[j]? = some t → Tryd.pinned.checked.prog.wantsStandIn t = false := by
  obtain rfl : f = 5 := Option.some.inj ((show Tryd.prog.funcNamed "samaritan/samaritanlaw08.TravelTimesInitial" = some 5 by kernel_rfl).symm.trans hf) |>.symm
  obtain rfl : fn = Tryd.f5 := (Option.some.inj (Tryd.func5.symm.trans hfn)).symm
  refine ⟨by kernel_rfl, fun j t ht => ?_⟩
  rw [Tryd.params5] at ht
  have hm := Array.mem_of_getElem? ht
  have hall : (#[22, 2, 9] : Array TypeId).toList.all (fun t => Tryd.prog.wantsStandIn t == false) = true := by kernel_rfl
  have := List.all_eq_true.1 hall t (by simpa using hm)
  exact beq_iff_eq.1 this

theorem card : Rows.TravelTimesInitialUptoCardSaid :=
  Claim7.holds_tied_plain_at .later [] _ _ _ _ said (fun _ h => by cases h) (by kernel_rfl) (fun _ h => by cases h) travelTimesInitialUpto_row_tie rfl ⟨rfl, rfl⟩ (by kernel_rfl) rfl plain (by kernel_rfl)
#print axioms card
end Go.Proofs.YtppbmnlneoinhaaDoor.l08Initial
