/-
  samaritanlaw35.DispatchcostSlots returns true for every input, and the arguments read afterwards as before.
  No condition beyond those of the given row.
-/
import Derived.Test.YtpomakmmjbimfaaRows
import Derived.Test.YtpomakmmjbimfaaNetB
import Derived.Test.YtpomakmmjbimfaaSlotsC
import Derived.Test.YtpomakmmjbimfaaLift
namespace Go.Proofs.Ytpomakmmjbimfaa.l35Slots
open Go.ChangeShapes Go.WideShapes Go.ChangeAt Go.RowKit Go.Maps
open Go.ChangeMaps (open_string shut_string)

theorem own : ownKnob Try.prog.godebug = none := by kernel_rfl
theorem laidOut : laidOutB Try.prog = true := by kernel_rfl

set_option maxRecDepth 100000 in
set_option maxHeartbeats 2000000 in
theorem walk (w : World) (A0 : Option Addr) (xs : List IncT) (c0 : Nat) (hi : IncsAt w w.heap.size A0 xs) (hnd : NodesAt w w.heap.size xs) (hwf : ∀ x ∈ xs, IncWf x) (hc0 : xs.length ≤ c0) (hm0 : c0 ≤ 9223372036854775807) (_hn0 : A0 = none → c0 = 0)
    (A1 : Option Addr) (us : List UnitT) (c1 : Nat) (hu : UnitsAt w w.heap.size A1 us) (huw : ∀ u ∈ us, UnitWf u) (hc1 : us.length ≤ c1) (hm1 : c1 ≤ 9223372036854775807) (_hn1 : A1 = none → c1 = 0)
    (A2 : Option Addr) (ps : List Plan) (c2 : Nat) (hp : Plans w w.heap.size A2 ps) (hc2 : ps.length ≤ c2) (hm2 : c2 ≤ 9223372036854775807) :
    Calls Try.prog 6 #[.slice A0 xs.length c0, .slice A1 us.length c1, .slice A2 ps.length c2] w fun e w' => e = .returned (.bool true) ∧ Below w.heap.size w w' := by
  have HI := Lib.hid hi
  have HND := Lib.hid hnd
  have HWF := Lib.hid hwf
  have HU := Lib.hid hu
  have HUW := Lib.hid huw
  have HP := Lib.hid hp
  clear hi hnd hwf hu huw hp
  go_enter Try.func6, Try.ntmps6
  go_wp2_with fail
  refine (wakes35_any _).mono ?_
  rintro e w1 ⟨rfl, hb⟩
  have HB := Lib.hid hb
  clear hb
  go_wp2_with fail
  ((with_reducible refine (small35_any A0 A1 A2 c0 c1 c2 xs us ps w1 w.heap.size (HI.out.below HB.out) HWF.out (by omega) (by omega) (HP.out.below HB.out) (by omega)).mono ?_))
  rintro e w' ⟨b, rfl, hsm, rfl⟩
  have HSM := Lib.hid hsm
  clear hsm
  cases b
  · go_wp2_with fail
    go_ret
    exact ⟨rfl, HB.out⟩
  · obtain ⟨s1, s2, s3, s4, s5⟩ := HSM.out rfl
    have HS3 := Lib.hid s3
    have HS5 := Lib.hid s5
    clear s3 s5 HSM
    go_wp2_with fail
    ((with_reducible refine (slots_any A0 A1 A2 c0 c1 c2 xs us ps w1 ((HI.out.below HB.out).more HB.out.size) ((HND.out.below HB.out).more HB.out.size) HWF.out (by omega) (fun x hx => by have := HS5.out x hx; omega) ((HU.out.below HB.out).more HB.out.size) HUW.out (by omega) ((HP.out.below HB.out).more HB.out.size) (by omega) HS3.out).mono ?_))
    rintro e w2 ⟨A3, c3, ss, rfl, hst, hb2⟩
    have HB2 := Lib.hid (HB.out.trans (hb2.mono HB.out.size))
    obtain ⟨_, _, e3, hsl⟩ := hst.own.sl
    cases e3
    have hsn : SNodes w2 w2.heap.size ss := fun s hs => own_sl (hst.rows s hs)
    have HSN := Lib.hid hsn
    have HSTR := Lib.hid hst.strip
    have hsl20 : ss.length ≤ 400 := by
      have h1 := congrArg List.length hst.strip
      rw [List.length_map] at h1
      have h2 := slots_len HS3.out us (sortK (xs.filter openI))
      rw [sortK_len] at h2
      have h3 := List.length_filter_le openI xs
      unfold slotsL at h1
      omega
    have HCV := Lib.hid (conv_any A3 c3 ss w2 hsl (by omega))
    clear hst hb2 hsl hsn
    go_wp2_with fail
    ((with_reducible refine HCV.out.mono ?_))
    rintro e w3 ⟨A4, c4, rfl, hsl4, hb3⟩
    have HB3 := Lib.hid (HB2.out.trans (hb3.mono HB2.out.size))
    have HSL4 := Lib.hid hsl4
    have HSN3 : Hid (SNodes w3 w3.heap.size ss) := Lib.hid (fun s hs => ((HSN.out s hs).below hb3).more hb3.size)
    clear hsl4 hb3 HCV HSN
    go_wp2_with fail
    ((with_reducible refine (refSlots_any A0 A1 A2 c0 c1 c2 xs us ps w3 ((HI.out.below HB3.out).more HB3.out.size) ((HND.out.below HB3.out).more HB3.out.size) (by omega) ((HU.out.below HB3.out).more HB3.out.size) (by omega) ((HP.out.below HB3.out).more HB3.out.size) (by omega) HS3.out).mono ?_))
    rintro e w4 ⟨A5, c5, tt, rfl, hsl5, hsn5, hstr5, hb4⟩
    have HB4 := Lib.hid (HB3.out.trans (hb4.mono HB3.out.size))
    have hnl : ∀ s ∈ ss, s.nodes.length ≤ 65536 := fun s hs => by
      have hm : strip s ∈ slotsL xs us ps := by
        rw [← HSTR.out]
        exact List.mem_map_of_mem hs
      unfold slotsL at hm
      rw [List.mem_flatMap] at hm
      obtain ⟨x, hx, hm⟩ := hm
      rw [mem_sortK, List.mem_filter] at hx
      unfold slotsX at hm
      rw [List.mem_map] at hm
      obtain ⟨kd, _, hk⟩ := hm
      have h1 := HS5.out x hx.1
      have h2 := congrArg SlotP.nodes hk
      simp only [strip] at h2
      rw [← h2]
      omega
    have HSA := Lib.hid (sameSlots_any A4 A5 c4 c5 ss tt w4 ((HSL4.out.below hb4).more hb4.size) hsl5 (fun s hs => ((HSN3.out s hs).below hb4).more hb4.size) hsn5 (HSTR.out.trans hstr5.symm) (by omega) hnl)
    clear hsl5 hsn5 hstr5 hb4 hnl
    go_wp2_with fail
    ((with_reducible refine HSA.out.mono ?_))
    rintro e w5 ⟨rfl, hb5⟩
    go_wp2_with fail
    go_ret
    exact ⟨rfl, HB4.out.trans (hb5.mono HB4.out.size)⟩

set_option maxRecDepth 100000 in
theorem lifted (os : Os) (started : os.Started) (H : Type) (enc : TypeId × Value → H) :
    ReturnsInHanded {} Try.checked os 6 .any (Rows.dispatchcostSlotsSpec.pre6 enc Try.prog Try.f6 Rows.dispatchcostSlotsRow.domain false) (Rows.dispatchcostSlotsSpec.post enc Try.prog Try.f6 false true false false) := by
  refine returnsInHanded_of_change (C := Try.checked) own started (by kernel_rfl) Try.func6
    (ChangeSpec.witness6 (enc := enc) (C := Try.checked) false ⟨#[], #[.slice none 0 0, .slice none 0 0, .slice none 0 0], []⟩ 8 (by kernel_rfl) (by kernel_rfl) (by kernel_rfl) (by kernel_rfl)) ?_
  intro W base args ds gs before hval0 hW hcnd _
  have hval : ∀ (j : Nat) t v, Try.f6.params[j]? = some t → args[j]? = some v → Value.okWide Try.prog W .any base t v := hval0
  have hW' := hW
  obtain ⟨p, q, hA0, hV, rfl, hfz, hnd⟩ := hW
  have hA : DataW.TrodAll enc Try.prog W 0 (fun _ => true) true Try.f6.params.toList args.toList ds p := hA0
  rw [Try.params6] at hA hval
  obtain ⟨v0, vs0, d0, ds0, p0, q0, hargs, rfl, rfl, h0, r0⟩ := trodAll_cons hA
  obtain ⟨v1, vs1, d1, ds1, p1, q1, rfl, rfl, rfl, h1, r1⟩ := trodAll_cons r0
  obtain ⟨v2, vs2, d2, ds2, p2, q2, rfl, rfl, rfl, h2, r2⟩ := trodAll_cons r1
  obtain ⟨rfl, rfl, rfl⟩ := trodAll_nil r2
  obtain rfl : args = #[v0, v1, v2] := by cases args; simp_all
  obtain ⟨rfl, rfl⟩ := trodVars_none hV
  obtain ⟨A0, x0, c0, rfl, hi0, hnd0, hwf0, hc0, hm0, hn0⟩ := open_incs (hval 0 54 v0 rfl rfl) h0
  obtain ⟨A1, u1, c1, rfl, hs1, hwf1, hc1, hm1, hn1⟩ := open_units (hval 1 36 v1 rfl rfl) h1
  obtain ⟨A2, z2, c2, rfl, hs2, hc2, hm2⟩ := open_plans (hval 2 55 v2 rfl rfl) h2
  clear hA0 hval0
  refine (walk W A0 x0 c0 hi0 hnd0 hwf0 hc0 hm0 hn0 A1 u1 c1 hs1 hwf1 hc1 hm1 hn1 A2 z2 c2 hs2 hc2 hm2).mono fun e W' ⟨he, hb⟩ => ?_
  subst he
  exact ⟨_, rfl, law_post laidOut (by kernel_rfl) rfl Try.underlying4 rfl hW' rfl rfl rfl hb⟩

theorem over : Rows.dispatchcostSlotsRow.holds Try.pinned (OpenSpec.ofChange Rows.dispatchcostSlotsSpec) :=
  OpenClaim.holds_of_wide 6 Try.f6 rfl rfl rfl rfl rfl rfl rfl ⟨rfl, rfl, rfl, rfl, rfl⟩ rfl rfl rfl rfl rfl (by kernel_rfl) Try.func6 (by kernel_rfl)
    (of_decide_eq_true (by kernel_rfl)) (by unfold Func.isWrapper; first | (rw [if_pos (by decide +kernel)]; kernel_rfl) | (rw [if_neg (by decide +kernel)]; exact ⟨rfl, rfl⟩))
    (fun os started H enc _ => lifted os started H enc)

theorem proved : Rows.DispatchcostSlotsSaid := over
#print axioms proved
end Go.Proofs.Ytpomakmmjbimfaa.l35Slots
