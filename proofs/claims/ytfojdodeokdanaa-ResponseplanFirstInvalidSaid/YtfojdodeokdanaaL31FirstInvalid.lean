/-
  samaritanlaw31.ResponseplanFirstInvalid returns true for every input, and the arguments read afterwards as before.
  No condition beyond those of the given row.
-/
import Derived.Test.YtfojdodeokdanaaRows
import Derived.Test.YtfojdodeokdanaaSat
import Derived.Test.YtfojdodeokdanaaFirstC
import Derived.Test.YtfojdodeokdanaaLift
namespace Go.Proofs.Ytfojdodeokdanaa.l31FirstInvalid
open Go.ChangeShapes Go.WideShapes Go.ChangeAt Go.RowKit Go.Maps
open Go.ChangeMaps (open_string shut_string)

theorem own : ownKnob Try.prog.godebug = none := by kernel_rfl
theorem laidOut : laidOutB Try.prog = true := by kernel_rfl

set_option maxRecDepth 100000 in
theorem walk (w : World) (A0 : Option Addr) (ps : List Plan) (c0 : Nat) (hp : Plans w w.heap.size A0 ps) (hc0 : ps.length ≤ c0) (hm0 : c0 ≤ 9223372036854775807) :
    Calls Try.prog 8 #[.slice A0 ps.length c0] w fun e w' => e = .returned (.bool true) ∧ Below w.heap.size w w' := by
  go_enter Try.func8, Try.ntmps8
  go_wp2_with fail
  refine (wakes_any _).mono ?_
  rintro e w1 ⟨rfl, hb⟩
  have hz1 := hb.size
  have HB := Lib.hid hb
  clear hb
  go_wp2_with fail
  refine (small_any A0 c0 ps w1 w.heap.size (hp.below HB.out) (by omega)).mono ?_
  rintro e w' ⟨rfl, rfl⟩
  cases hsm : smallP ps
  · clear hsm
    go_wp2_with fail
    go_ret
    exact ⟨rfl, HB.out⟩
  · have h40 : ps.length ≤ 40 := by
      simp [smallP] at hsm
      exact hsm.2
    clear hsm
    go_wp2_with fail
    refine (first_any A0 c0 ps w1 ((hp.below HB.out).more hz1) h40).mono ?_
    rintro e w2 ⟨r, rfl, hr, hb2⟩
    have hz2 := hb2.size
    have HB2 := Lib.hid (HB.out.trans (hb2.mono hz1))
    have HR := Lib.hid hr
    clear hb2 hr
    go_wp2_with fail
    refine (right_any A0 c0 ps w2 ((hp.below HB2.out).more (Nat.le_trans hz1 hz2)) (by omega)).mono ?_
    rintro e w3 ⟨r', rfl, hr', hb3⟩
    have HB3 := Lib.hid (HB2.out.trans (hb3.mono (Nat.le_trans hz1 hz2)))
    obtain rfl : r = r' := HR.out.unique hr'
    clear hb3 hr'
    go_wp2_with fail
    go_ret
    exact ⟨rfl, HB3.out⟩

set_option maxRecDepth 100000 in
theorem lifted (os : Os) (started : os.Started) (H : Type) (enc : TypeId × Value → H) :
    ReturnsInHanded {} Try.checked os 8 .any (Rows.responseplanFirstInvalidSpec.pre6 enc Try.prog Try.f8 Rows.responseplanFirstInvalidRow.domain false) (Rows.responseplanFirstInvalidSpec.post enc Try.prog Try.f8 false true false false) := by
  refine returnsInHanded_of_change (C := Try.checked) own started (by kernel_rfl) Try.func8
    (ChangeSpec.witness6 (enc := enc) (C := Try.checked) false ⟨#[], #[.slice none 0 0], []⟩ 8 (by kernel_rfl) (by kernel_rfl) (by kernel_rfl) (by kernel_rfl)) ?_
  intro W base args ds gs before hval0 hW hcnd _
  have hval : ∀ (j : Nat) t v, Try.f8.params[j]? = some t → args[j]? = some v → Value.okWide Try.prog W .any base t v := hval0
  have hW' := hW
  obtain ⟨p, q, hA0, hV, rfl, hfz, hnd⟩ := hW
  have hA : DataW.TrodAll enc Try.prog W 0 (fun _ => true) true Try.f8.params.toList args.toList ds p := hA0
  rw [Try.params8] at hA hval
  obtain ⟨v0, vs0, d0, ds0, p0, q0, hargs, rfl, rfl, h0, r0⟩ := trodAll_cons hA
  obtain ⟨rfl, rfl, rfl⟩ := trodAll_nil r0
  obtain rfl : args = #[v0] := by cases args; simp_all
  obtain ⟨rfl, rfl⟩ := trodVars_none hV
  obtain ⟨A0, z0, c0, rfl, hs0, hc0, hm0⟩ := open_plans (hval 0 29 v0 rfl rfl) h0
  clear hA0 hval0
  refine (walk W A0 z0 c0 hs0 hc0 hm0).mono fun e W' ⟨he, hb⟩ => ?_
  subst he
  exact ⟨_, rfl, law_post laidOut (by kernel_rfl) rfl Try.underlying4 rfl hW' rfl rfl rfl hb⟩

theorem over : Rows.responseplanFirstInvalidRow.holds Try.pinned (OpenSpec.ofChange Rows.responseplanFirstInvalidSpec) :=
  OpenClaim.holds_of_wide 8 Try.f8 rfl rfl rfl rfl rfl rfl rfl ⟨rfl, rfl, rfl, rfl, rfl⟩ rfl rfl rfl rfl rfl (by kernel_rfl) Try.func8 (by kernel_rfl)
    (of_decide_eq_true (by kernel_rfl)) (by unfold Func.isWrapper; first | (rw [if_pos (by decide +kernel)]; kernel_rfl) | (rw [if_neg (by decide +kernel)]; exact ⟨rfl, rfl⟩))
    (fun os started H enc _ => lifted os started H enc)

theorem proved : Rows.ResponseplanFirstInvalidSaid := over
#print axioms proved
end Go.Proofs.Ytfojdodeokdanaa.l31FirstInvalid
