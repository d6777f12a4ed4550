/-
  samaritanlaw31.ResponseplanUnitOrder returns true for every two slices of integers, and the arguments read afterwards as before.
  No condition beyond those of the given row.
-/
import Derived.Test.YtfojdodeokdanaaRows
import Derived.Test.YtfojdodeokdanaaSat
import Derived.Test.YtfojdodeokdanaaLeft
import Derived.Test.YtfojdodeokdanaaSame
import Derived.Test.YtfojdodeokdanaaLift
namespace Go.Proofs.Ytfojdodeokdanaa.l31UnitOrder
open Go.ChangeShapes Go.WideShapes Go.ChangeAt Go.RowKit Go.Maps
open Go.ChangeMaps (open_string shut_string)

theorem own : ownKnob Try.prog.godebug = none := by kernel_rfl
theorem laidOut : laidOutB Try.prog = true := by kernel_rfl

theorem unmet_rev (ws hs : List Int) : unmet ws hs.reverse = unmet ws hs := by
  have : cnt hs.reverse = cnt hs := by
    funext x
    simp [cnt]
  simp [unmet, pass2, this]

theorem rev_get {hs : List Int} {k : Nat} (h : k < hs.length) : hs[hs.length - 1 - k]? = hs.reverse[k]? := by
  rw [List.getElem?_reverse h]

set_option maxRecDepth 100000 in
theorem walk (w : World) (A0 : Option Addr) (z0 : List Int) (c0 : Nat) (hs0 : Sl w w.heap.size A0 (z0.map (Value.int .i64))) (hw0 : ∀ z ∈ z0, (Lit.int .i64 z).wf = true) (_hc0 : z0.length ≤ c0) (_hm0 : c0 ≤ 9223372036854775807)
    (A1 : Option Addr) (z1 : List Int) (c1 : Nat) (hs1 : Sl w w.heap.size A1 (z1.map (Value.int .i64))) (hw1 : ∀ z ∈ z1, (Lit.int .i64 z).wf = true) (_hc1 : z1.length ≤ c1) (_hm1 : c1 ≤ 9223372036854775807) :
    Calls Try.prog 6 #[.slice A0 z0.length c0, .slice A1 z1.length c1] w fun e w' => e = .returned (.bool true) ∧ Below w.heap.size w w' := by
  go_enter Try.func6, Try.ntmps6
  go_wp2_with fail
  refine (wakes_any _).mono ?_
  rintro e w1 ⟨rfl, hb⟩
  have hz1 := hb.size
  have HB := Lib.hid hb
  clear hb
  by_cases hl : z0.length ≤ 40 ∧ z1.length ≤ 40
  · obtain ⟨hl0, hl1⟩ := hl
    have hd0 : decide ((40 : Int) < (z0.length : Int)) = false := by simp; omega
    have hd1 : decide ((40 : Int) < (z1.length : Int)) = false := by simp; omega
    go_wp2_with fail
    go_loopw [5, 19] (fun v i wr => ∃ k : Nat, k ≤ z1.length ∧ i = .int .i64 k ∧ OwnI wr w1.heap.size 3 v (z1.reverse.take k) ∧ Below w1.heap.size w1 wr) (fun _ i _ => z1.length - (intOf i).toNat)
    case atStart => exact ⟨0, Nat.zero_le _, rfl, OwnV.nil _ _ _, Below.refl _ _⟩
    case round =>
      obtain ⟨k, hk, rfl, hown, hnx⟩ := hrel
      by_cases hlt : k < z1.length
      · obtain ⟨z, hz⟩ : ∃ z, z1[z1.length - 1 - k]? = some z := ⟨z1[z1.length - 1 - k], by simp⟩
        obtain ⟨b, o, rfl, hbb, hcell⟩ := hs1.int hz
        have hc2 : wr.cell? ⟨b, o + (z1.length - 1 - k), none⟩ = some (.int .i64 z) := (hnx.cell (p := ⟨b, o + (z1.length - 1 - k), none⟩) (Nat.lt_of_lt_of_le hbb hz1)).trans ((HB.out.cell (p := ⟨b, o + (z1.length - 1 - k), none⟩) hbb).trans hcell)
        have HT : Hid (z1.reverse.take (k + 1) = z1.reverse.take k ++ [z]) := by
          rw [rev_get hlt] at hz
          exact take_snoc hz
        have hll : (z1.reverse.take k).length ≤ 40 := by simp; omega
        clear hz hcell
        go_wp2_with (at_builtin; refine wpList_append_int _ rfl _ _ 24 rfl w1.heap.size 3 Try.underlying24 int_info _ _ wr z rfl rfl hown rfl (by omega) hnx.size ?_; intro v4 w4 hown4 hg4)
        go_roundw
        case rel =>
          refine ⟨k + 1, by omega, by go_num, ?_, hnx.grown hg4 hnx.size (fun j hj => hown.ge_base j hj)⟩
          rw [HT.out]
          exact hown4
        case measure => simp [intOf]; omega
      · have hkk : k = z1.length := by omega
        subst hkk
        have hrl : z1.reverse.length = z1.length := by simp
        have ho : OwnI wr w1.heap.size 3 u5 z1.reverse := by
          have : z1.reverse.take z1.length = z1.reverse := by rw [← hrl, List.take_length]
          rw [this] at hown
          exact hown
        obtain ⟨A5, c5, hv5, hsl5⟩ := ho.sl
        rw [hv5]
        clear hown hv5
        have hz2 := hnx.size
        have HB2 := Lib.hid (HB.out.trans (hnx.mono hz1))
        have hw5 : ∀ z ∈ z1.reverse, (Lit.int .i64 z).wf = true := fun z hz => hw1 z (by simpa using hz)
        clear hnx
        go_wp2_with fail
        refine (unmet_any A0 A1 c0 c1 z0 z1 wr ((hs0.below HB2.out).more (Nat.le_trans hz1 hz2)) ((hs1.below HB2.out).more (Nat.le_trans hz1 hz2)) hw0 hw1 (by omega) (by omega)).mono ?_
        rintro e w2 ⟨v2, rfl, ho2, hb2⟩
        obtain ⟨B2, d2, rfl, hsl2⟩ := ho2.sl
        have hz3 := hb2.size
        have hsl5' := hsl5.below hb2
        have HB3 := Lib.hid (HB2.out.trans (hb2.mono (Nat.le_trans hz1 hz2)))
        clear ho2 hb2
        go_wp2_with fail
        rw [← hrl]
        refine (unmet_any A0 A5 c0 c5 z0 z1.reverse w2 ((hs0.below HB3.out).more (Nat.le_trans hz1 (Nat.le_trans hz2 hz3))) (hsl5'.more hz3) hw0 hw5 (by omega) (by rw [hrl]; omega)).mono ?_
        rw [unmet_rev]
        rintro e w3 ⟨v3, rfl, ho3, hb3⟩
        obtain ⟨B3, d3, rfl, hsl3⟩ := ho3.sl
        have hz4 := hb3.size
        have hsl2' := hsl2.below hb3
        have HB4 := Lib.hid (HB3.out.trans (hb3.mono (Nat.le_trans hz1 (Nat.le_trans hz2 hz3))))
        have hul := unmet_len z0 z1
        clear ho3 hb3 hsl2
        go_wp2_with fail
        refine (same_any B2 B3 d2 d3 (unmet z0 z1) (unmet z0 z1) w3 _ _ hsl2' hsl3 (by omega)).mono ?_
        rintro e w4 ⟨rfl, n, rfl⟩
        rw [show decide (unmet z0 z1 = unmet z0 z1) = true from by simp]
        go_wp2_with fail
        go_ret
        exact ⟨rfl, below_drewN HB4.out n⟩
  · rcases (show 40 < z0.length ∨ (z0.length ≤ 40 ∧ 40 < z1.length) from by omega) with h | ⟨h, h'⟩
    · have hd0 : decide ((40 : Int) < (z0.length : Int)) = true := by simp; omega
      go_wp2_with fail
      go_ret
      exact ⟨rfl, HB.out⟩
    · have hd0 : decide ((40 : Int) < (z0.length : Int)) = false := by simp; omega
      have hd1 : decide ((40 : Int) < (z1.length : Int)) = true := by simp; omega
      go_wp2_with fail
      go_ret
      exact ⟨rfl, HB.out⟩

set_option maxRecDepth 100000 in
theorem lifted (os : Os) (started : os.Started) (H : Type) (enc : TypeId × Value → H) :
    ReturnsInHanded {} Try.checked os 6 .any (Rows.responseplanUnitOrderSpec.pre6 enc Try.prog Try.f6 Rows.responseplanUnitOrderRow.domain false) (Rows.responseplanUnitOrderSpec.post enc Try.prog Try.f6 false true false false) := by
  refine returnsInHanded_of_change (C := Try.checked) own started (by kernel_rfl) Try.func6
    (ChangeSpec.witness6 (enc := enc) (C := Try.checked) false ⟨#[], #[.slice none 0 0, .slice none 0 0], []⟩ 8 (by kernel_rfl) (by kernel_rfl) (by kernel_rfl) (by kernel_rfl)) ?_
  intro W base args ds gs before hval0 hW hcnd _
  have hval : ∀ (j : Nat) t v, Try.f6.params[j]? = some t → args[j]? = some v → Value.okWide Try.prog W .any base t v := hval0
  have hW' := hW
  obtain ⟨p, q, hA0, hV, rfl, hfz, hnd⟩ := hW
  have hA : DataW.TrodAll enc Try.prog W 0 (fun _ => true) true Try.f6.params.toList args.toList ds p := hA0
  rw [Try.params6] at hA hval
  obtain ⟨v0, vs0, d0, ds0, p0, q0, hargs, rfl, rfl, h0, r0⟩ := trodAll_cons hA
  obtain ⟨v1, vs1, d1, ds1, p1, q1, rfl, rfl, rfl, h1, r1⟩ := trodAll_cons r0
  obtain ⟨rfl, rfl, rfl⟩ := trodAll_nil r1
  obtain rfl : args = #[v0, v1] := by cases args; simp_all
  obtain ⟨rfl, rfl⟩ := trodVars_none hV
  obtain ⟨A0, z0, c0, rfl, hs0, hw0, hc0, hm0⟩ := open_sl Try.underlying24 Try.underlying3 (by kernel_rfl) (hval 0 24 v0 rfl rfl) h0
  obtain ⟨A1, z1, c1, rfl, hs1, hw1, hc1, hm1⟩ := open_sl Try.underlying24 Try.underlying3 (by kernel_rfl) (hval 1 24 v1 rfl rfl) h1
  clear hA0 hval0
  refine (walk W A0 z0 c0 hs0 hw0 hc0 hm0 A1 z1 c1 hs1 hw1 hc1 hm1).mono fun e W' ⟨he, hb⟩ => ?_
  subst he
  exact ⟨_, rfl, law_post laidOut (by kernel_rfl) rfl Try.underlying4 rfl hW' rfl rfl rfl hb⟩

theorem over : Rows.responseplanUnitOrderRow.holds Try.pinned (OpenSpec.ofChange Rows.responseplanUnitOrderSpec) :=
  OpenClaim.holds_of_wide 6 Try.f6 rfl rfl rfl rfl rfl rfl rfl ⟨rfl, rfl, rfl, rfl, rfl⟩ rfl rfl rfl rfl rfl (by kernel_rfl) Try.func6 (by kernel_rfl)
    (of_decide_eq_true (by kernel_rfl)) (by unfold Func.isWrapper; first | (rw [if_pos (by decide +kernel)]; kernel_rfl) | (rw [if_neg (by decide +kernel)]; exact ⟨rfl, rfl⟩))
    (fun os started H enc _ => lifted os started H enc)

theorem proved : Rows.ResponseplanUnitOrderSaid := over
#print axioms proved
end Go.Proofs.Ytfojdodeokdanaa.l31UnitOrder
