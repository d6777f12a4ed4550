/-
  samaritanlaw31.ResponseplanUnmet returns true for every two slices of integers, and the arguments read afterwards as before.
  No condition beyond those of the given row.
-/
import Derived.Test.YtfojdodeokdanaaRows
import Derived.Test.YtfojdodeokdanaaSat
import Derived.Test.YtfojdodeokdanaaLeft
import Derived.Test.YtfojdodeokdanaaSame
import Derived.Test.YtfojdodeokdanaaLift
namespace Go.Proofs.Ytfojdodeokdanaa.l31Unmet
open Go.ChangeShapes Go.WideShapes Go.ChangeAt Go.RowKit Go.Maps
open Go.ChangeMaps (open_string shut_string)

theorem own : ownKnob Try.prog.godebug = none := by kernel_rfl
theorem laidOut : laidOutB Try.prog = true := by kernel_rfl

theorem walk (w : World) (A0 : Option Addr) (z0 : List Int) (c0 : Nat) (hs0 : Sl w w.heap.size A0 (z0.map (Value.int .i64))) (hw0 : ∀ z ∈ z0, (Lit.int .i64 z).wf = true) (_hc0 : z0.length ≤ c0) (_hm0 : c0 ≤ 9223372036854775807)
    (A1 : Option Addr) (z1 : List Int) (c1 : Nat) (hs1 : Sl w w.heap.size A1 (z1.map (Value.int .i64))) (hw1 : ∀ z ∈ z1, (Lit.int .i64 z).wf = true) (_hc1 : z1.length ≤ c1) (_hm1 : c1 ≤ 9223372036854775807) :
    Calls Try.prog 4 #[.slice A0 z0.length c0, .slice A1 z1.length c1] w fun e w' => e = .returned (.bool true) ∧ Below w.heap.size w w' := by
  go_enter Try.func4, Try.ntmps4
  go_wp2_with fail
  refine (wakes_any _).mono ?_
  rintro e w1 ⟨rfl, hb⟩
  have hz1 := hb.size
  have HB := Lib.hid hb
  clear hb
  by_cases hl : z0.length ≤ 60 ∧ z1.length ≤ 60
  · obtain ⟨hl0, hl1⟩ := hl
    have hd0 : decide ((60 : Int) < (z0.length : Int)) = false := by simp; omega
    have hd1 : decide ((60 : Int) < (z1.length : Int)) = false := by simp; omega
    go_wp2_with fail
    refine (unmet_any A0 A1 c0 c1 z0 z1 w1 ((hs0.below HB.out).more hz1) ((hs1.below HB.out).more hz1) hw0 hw1 (by omega) (by omega)).mono ?_
    rintro e w2 ⟨v2, rfl, ho2, hb2⟩
    obtain ⟨B2, d2, rfl, hsl2⟩ := ho2.sl
    have hz2 := hb2.size
    have HB2 := Lib.hid (HB.out.trans (hb2.mono hz1))
    clear ho2 hb2
    go_wp2_with fail
    refine (left_any A0 A1 c0 c1 z0 z1 w2 ((hs0.below HB2.out).more (Nat.le_trans hz1 hz2)) ((hs1.below HB2.out).more (Nat.le_trans hz1 hz2)) (by omega) (by omega)).mono ?_
    rintro e w3 ⟨v3, rfl, ho3, hb3⟩
    obtain ⟨B3, d3, rfl, hsl3⟩ := ho3.sl
    have hz3 := hb3.size
    have hsl2' := hsl2.below hb3
    have HB3 := Lib.hid (HB2.out.trans (hb3.mono (Nat.le_trans hz1 hz2)))
    have hul := unmet_len z0 z1
    clear ho3 hb3 hsl2
    go_wp2_with fail
    refine (same_any B2 B3 d2 d3 (unmet z0 z1) (unmet z0 z1) w3 _ _ hsl2' hsl3 (by omega)).mono ?_
    rintro e w4 ⟨rfl, n, rfl⟩
    rw [show decide (unmet z0 z1 = unmet z0 z1) = true from by simp]
    go_wp2_with fail
    go_ret
    exact ⟨rfl, below_drewN HB3.out n⟩
  · rcases (show 60 < z0.length ∨ (z0.length ≤ 60 ∧ 60 < z1.length) from by omega) with h | ⟨h, h'⟩
    · have hd0 : decide ((60 : Int) < (z0.length : Int)) = true := by simp; omega
      go_wp2_with fail
      go_ret
      exact ⟨rfl, HB.out⟩
    · have hd0 : decide ((60 : Int) < (z0.length : Int)) = false := by simp; omega
      have hd1 : decide ((60 : Int) < (z1.length : Int)) = true := by simp; omega
      go_wp2_with fail
      go_ret
      exact ⟨rfl, HB.out⟩

set_option maxRecDepth 100000 in
theorem lifted (os : Os) (started : os.Started) (H : Type) (enc : TypeId × Value → H) :
    ReturnsInHanded {} Try.checked os 4 .any (Rows.responseplanUnmetSpec.pre6 enc Try.prog Try.f4 Rows.responseplanUnmetRow.domain false) (Rows.responseplanUnmetSpec.post enc Try.prog Try.f4 false true false false) := by
  refine returnsInHanded_of_change (C := Try.checked) own started (by kernel_rfl) Try.func4
    (ChangeSpec.witness6 (enc := enc) (C := Try.checked) false ⟨#[], #[.slice none 0 0, .slice none 0 0], []⟩ 8 (by kernel_rfl) (by kernel_rfl) (by kernel_rfl) (by kernel_rfl)) ?_
  intro W base args ds gs before hval0 hW hcnd _
  have hval : ∀ (j : Nat) t v, Try.f4.params[j]? = some t → args[j]? = some v → Value.okWide Try.prog W .any base t v := hval0
  have hW' := hW
  obtain ⟨p, q, hA0, hV, rfl, hfz, hnd⟩ := hW
  have hA : DataW.TrodAll enc Try.prog W 0 (fun _ => true) true Try.f4.params.toList args.toList ds p := hA0
  rw [Try.params4] at hA hval
  obtain ⟨v0, vs0, d0, ds0, p0, q0, hargs, rfl, rfl, h0, r0⟩ := trodAll_cons hA
  obtain ⟨v1, vs1, d1, ds1, p1, q1, rfl, rfl, rfl, h1, r1⟩ := trodAll_cons r0
  obtain ⟨rfl, rfl, rfl⟩ := trodAll_nil r1
  obtain rfl : args = #[v0, v1] := by cases args; simp_all
  obtain ⟨rfl, rfl⟩ := trodVars_none hV
  obtain ⟨A0, z0, c0, rfl, hs0, hw0, hc0, hm0⟩ := open_sl Try.underlying24 Try.underlying3 (by kernel_rfl) (hval 0 24 v0 rfl rfl) h0
  obtain ⟨A1, z1, c1, rfl, hs1, hw1, hc1, hm1⟩ := open_sl Try.underlying24 Try.underlying3 (by kernel_rfl) (hval 1 24 v1 rfl rfl) h1
  clear hA0 hval0
  refine (walk W A0 z0 c0 hs0 hw0 hc0 hm0 A1 z1 c1 hs1 hw1 hc1 hm1).mono fun e W' ⟨he, hb⟩ => ?_
  subst he
  exact ⟨_, rfl, law_post laidOut (by kernel_rfl) rfl Try.underlying4 rfl hW' rfl rfl rfl hb⟩

theorem over : Rows.responseplanUnmetRow.holds Try.pinned (OpenSpec.ofChange Rows.responseplanUnmetSpec) :=
  OpenClaim.holds_of_wide 4 Try.f4 rfl rfl rfl rfl rfl rfl rfl ⟨rfl, rfl, rfl, rfl, rfl⟩ rfl rfl rfl rfl rfl (by kernel_rfl) Try.func4 (by kernel_rfl)
    (of_decide_eq_true (by kernel_rfl)) (by unfold Func.isWrapper; first | (rw [if_pos (by decide +kernel)]; kernel_rfl) | (rw [if_neg (by decide +kernel)]; exact ⟨rfl, rfl⟩))
    (fun os started H enc _ => lifted os started H enc)

theorem proved : Rows.ResponseplanUnmetSaid := over
#print axioms proved
end Go.Proofs.Ytfojdodeokdanaa.l31Unmet
