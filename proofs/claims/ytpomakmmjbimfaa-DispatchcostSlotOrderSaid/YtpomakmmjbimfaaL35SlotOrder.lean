/-
  samaritanlaw35.DispatchcostSlotOrder returns true for every input, and the arguments read afterwards as before.
  No condition beyond those of the given row.
-/
import Derived.Test.YtpomakmmjbimfaaRows
import Derived.Test.YtpomakmmjbimfaaNetB
import Derived.Test.YtpomakmmjbimfaaSlotsD
import Derived.Test.YtpomakmmjbimfaaLift
namespace Go.Proofs.Ytpomakmmjbimfaa.l35SlotOrder
open Go.ChangeShapes Go.WideShapes Go.ChangeAt Go.RowKit Go.Maps
open Go.ChangeMaps (open_string shut_string)

theorem own : ownKnob Try.prog.godebug = none := by kernel_rfl
theorem laidOut : laidOutB Try.prog = true := by kernel_rfl

set_option maxRecDepth 100000 in
set_option maxHeartbeats 4000000 in
theorem walk (w : World) (A0 : Option Addr) (xs : List IncT) (c0 : Nat) (hi : IncsAt w w.heap.size A0 xs) (hnd : NodesAt w w.heap.size xs) (hwf : ∀ x ∈ xs, IncWf x) (hc0 : xs.length ≤ c0) (hm0 : c0 ≤ 9223372036854775807) (_hn0 : A0 = none → c0 = 0)
    (A1 : Option Addr) (us : List UnitT) (c1 : Nat) (hu : UnitsAt w w.heap.size A1 us) (huw : ∀ u ∈ us, UnitWf u) (hc1 : us.length ≤ c1) (hm1 : c1 ≤ 9223372036854775807) (_hn1 : A1 = none → c1 = 0)
    (A2 : Option Addr) (ps : List Plan) (c2 : Nat) (hp : Plans w w.heap.size A2 ps) (hc2 : ps.length ≤ c2) (hm2 : c2 ≤ 9223372036854775807) :
    Calls Try.prog 8 #[.slice A0 xs.length c0, .slice A1 us.length c1, .slice A2 ps.length c2] w fun e w' => e = .returned (.bool true) ∧ Below w.heap.size w w' := by
  have HI := Lib.hid hi
  have HND := Lib.hid hnd
  have HWF := Lib.hid hwf
  have HU := Lib.hid hu
  have HUW := Lib.hid huw
  have HP := Lib.hid hp
  clear hi hnd hwf hu huw hp
  go_enter Try.func8, Try.ntmps8
  go_wp2_with fail
  refine (wakes35_any _).mono ?_
  rintro e w1 ⟨rfl, hb⟩
  have HB := Lib.hid hb
  clear hb
  go_wp2_with fail
  ((with_reducible refine (small35_any A0 A1 A2 c0 c1 c2 xs us ps w1 w.heap.size (HI.out.below HB.out) HWF.out (by omega) (by omega) (HP.out.below HB.out) (by omega)).mono ?_))
  rintro e w' ⟨b, rfl, hsm, rfl⟩
  have HSM := Lib.hid hsm
  clear hsm
  cases b
  · go_wp2_with fail
    go_ret
    exact ⟨rfl, HB.out⟩
  · obtain ⟨s1, s2, s3, s4, s5⟩ := HSM.out rfl
    have HS3 := Lib.hid s3
    have HS5 := Lib.hid s5
    clear s3 s5 HSM
    go_wp2_with fail
    ((with_reducible refine (slots_any A0 A1 A2 c0 c1 c2 xs us ps w1 ((HI.out.below HB.out).more HB.out.size) ((HND.out.below HB.out).more HB.out.size) HWF.out (by omega) (fun x hx => by have := HS5.out x hx; omega) ((HU.out.below HB.out).more HB.out.size) HUW.out (by omega) ((HP.out.below HB.out).more HB.out.size) (by omega) HS3.out).mono ?_))
    rintro e w2 ⟨A3, c3, ss, rfl, hst, hb2⟩
    have HB2 := Lib.hid (HB.out.trans (hb2.mono HB.out.size))
    obtain ⟨_, _, e3, hsl⟩ := hst.own.sl
    cases e3
    have HSL := Lib.hid hsl
    have HORD : Hid (∀ (i : Nat) (s t : SlotT), ss[i]? = some s → ss[i + 1]? = some t → s.urg < t.urg ∨ (s.urg = t.urg ∧ s.since ≤ t.since)) := Lib.hid (by
      intro i s t hs ht
      have h1 : (slotsL xs us ps)[i]? = some (strip s) := by rw [← hst.strip, List.getElem?_map, hs]; rfl
      have h2 : (slotsL xs us ps)[i + 1]? = some (strip t) := by rw [← hst.strip, List.getElem?_map, ht]; rfl
      exact slotsL_ord xs us ps h1 h2)
    have HOPEN : Hid (∀ s ∈ ss, xs.any (mtI s.inc s.urg) = true) := Lib.hid (by
      intro s hs
      have hm : strip s ∈ slotsL xs us ps := by
        rw [← hst.strip]
        exact List.mem_map_of_mem hs
      exact slotsL_open xs us ps hm)
    have hsl20 : ss.length ≤ 400 := by
      have h1 := congrArg List.length hst.strip
      rw [List.length_map] at h1
      have h2 := slots_len HS3.out us (sortK (xs.filter openI))
      rw [sortK_len] at h2
      have h3 := List.length_filter_le openI xs
      unfold slotsL at h1
      omega
    clear hst hb2 hsl
    go_wp2_with fail
    go_loopw [26] (fun iv wr => ∃ k : Nat, k ≤ ss.length ∧ iv = .int .i64 k ∧ Below w2.heap.size w2 wr) (fun i _ => ss.length - (intOf i).toNat)
    case atStart => exact ⟨0, Nat.zero_le _, rfl, Below.refl _ _⟩
    case round =>
      obtain ⟨k, hk, rfl, hb⟩ := hrel
      have HBR := Lib.hid hb
      have hmb := hb.size
      by_cases hlt : k < ss.length
      · obtain ⟨s, hs⟩ : ∃ s, ss[k]? = some s := ⟨ss[k], by simp⟩
        obtain ⟨bs, os, rfl, hbs, q0, q1, q2, q3, q4⟩ := slot_at (HSL.out.below hb) hs
        have HANY := Lib.hid (HOPEN.out s (List.mem_of_getElem? hs))
        have HSK := Lib.hid hs
        obtain ⟨inc, urg, since, kind, nA, nodes, nc⟩ := s
        simp only at q0 q1 q2 q3 q4 HANY
        obtain ⟨wx, hwx⟩ : ∃ wx, wx = wr.alloc (.cells #[.int .i64 inc, .int .i64 urg, .int .i64 since, .int .i64 kind, .slice nA nodes.length nc] 48) := ⟨_, rfl⟩
        have HXB : Hid (Below w2.heap.size w2 wx) := Lib.hid (by rw [hwx]; exact hb.alloc hmb _)
        have HX0 : Hid (∀ W, Below wx.heap.size wx W → W.cell? ⟨wr.heap.size, 0, none⟩ = some (.int .i64 inc) ∧ W.cell? ⟨wr.heap.size, 1, none⟩ = some (.int .i64 urg) ∧ W.cell? ⟨wr.heap.size, 2, none⟩ = some (.int .i64 since)) := Lib.hid (by
          intro W hbW
          have hlt : wr.heap.size < wx.heap.size := by rw [hwx]; simp
          have key : ∀ j, W.cell? ⟨wr.heap.size, j, none⟩ = wx.cell? ⟨wr.heap.size, j, none⟩ := fun j => hbW.cell (p := ⟨wr.heap.size, j, none⟩) hlt
          refine ⟨?_, ?_, ?_⟩ <;> rw [key, hwx, World.cell?_alloc_at (hn := rfl)] <;> rfl)
        have hkj : (k : Int) < (ss.length : Int) := by omega
        clear hs hb
        have rest : ∀ (n : Nat), Below wx.heap.size wx (wx.drewN n) := fun n => ⟨rfl, rfl, rfl, Nat.le_refl _, fun _ _ => rfl⟩
        have HREST := Lib.hid rest
        clear rest
        go_upto_region 9 with (fail)
        rw [← hwx]
        obtain ⟨x0, x1, x2⟩ := HX0.out wx (Below.refl _ _)
        clear hwx q0 q1 q2 q3 q4
        obtain ⟨bx, hbx⟩ : ∃ bx, bx = wr.heap.size := ⟨_, rfl⟩
        rw [← hbx] at HX0 x0 x1 x2 ⊢
        clear hbx
        go_cut [65] (fun v wc => v = .bool false ∧ ∃ n, wc = wx.drewN n)
        case first =>
          cases k with
          | zero =>
            have d0 : decide ((0 : Int) < ((0 : Nat) : Int)) = false := by simp
            go_quiet (fail)
            go_wp2_with fail
            go_meet
            case rel => exact ⟨rfl, nq, rfl⟩
          | succ m =>
            obtain ⟨p, hp⟩ : ∃ p, ss[m]? = some p := ⟨ss[m]'(by omega), by simp⟩
            obtain ⟨b1, o1, e1, _, _, p1, p2, _⟩ := slot_at (HSL.out.below HXB.out) hp
            cases e1
            have hor := HORD.out m p _ hp HSK.out
            simp only at hor
            have d0 : decide ((0 : Int) < ((m + 1 : Nat) : Int)) = true := by simp
            have hwm : IntKind.i64.wrap (((m + 1 : Nat) : Int) - 1) = (m : Int) := by rw [show (((m + 1 : Nat) : Int) - 1) = (m : Int) from by omega]; exact IntWalk.i64_in _ (by omega)
            have hwm' : IntKind.i64.wrap ((m : Int) + 1 - 1) = (m : Int) := by rw [show ((m : Int) + 1 - 1) = (m : Int) from by omega]; exact IntWalk.i64_in _ (by omega)
            have hwm2 : IntKind.i64.wrap (m : Int) = (m : Int) := IntWalk.i64_in _ (by omega)
            have hmn : m < ss.length := by omega
            have hmj : (m : Int) < (ss.length : Int) := by omega
            have g1 : decide (urg < p.urg) = false := decide_eq_false (by omega)
            clear hp
            by_cases hq : p.urg = urg
            · have g2 : (p.urg == urg) = true := by simp [hq]
              have g3 : decide (since < p.since) = false := decide_eq_false (by omega)
              clear hq hor
              go_quiet (fail)
              go_wp2_with fail
              go_meet
              case rel => exact ⟨rfl, nq, rfl⟩
            · have g2 : (p.urg == urg) = false := by simp [hq]
              clear hq hor
              go_quiet (fail)
              go_wp2_with fail
              go_meet
              case rel => exact ⟨rfl, nq, rfl⟩
        case rest =>
        obtain ⟨rfl, nn, rfl⟩ := hcut
        have HBN := Lib.hid (HREST.out nn)
        have HBN2 : Hid (Below w2.heap.size w2 (wx.drewN nn)) := Lib.hid (HXB.out.trans (HBN.out.mono HXB.out.size))
        clear x0 x1 x2 HREST
        generalize wx.drewN nn = wn at *
        go_wp2_with fail
        go_loopw [10, 68] (fun ov jv wr => ∃ j : Nat, j ≤ xs.length ∧ jv = .int .i64 j ∧ ov = .bool ((xs.take j).any (mtI inc urg)) ∧ Below wn.heap.size wn wr) (fun _ i _ => xs.length - (intOf i).toNat)
        case atStart => exact ⟨0, Nat.zero_le _, rfl, rfl, Below.refl _ _⟩
        case round =>
          obtain ⟨j, hj, rfl, rfl, hb⟩ := hrel
          have HBJ := Lib.hid hb
          have hmj := hb.size
          obtain ⟨x0, x1, x2⟩ := HX0.out wr (HBN.out.trans (hb.mono HBN.out.size))
          have hbx : bx < wr.heap.size := by
            have h1 := World.block_lt_of_cell? wr _ x0
            exact h1
          by_cases hjl : j < xs.length
          · obtain ⟨y, hy⟩ : ∃ y, xs[j]? = some y := ⟨xs[j], by simp⟩
            have HBW : Hid (Below w.heap.size w wr) := Lib.hid (HB2.out.trans ((HBN2.out.trans (hb.mono HBN2.out.size)).mono HB2.out.size))
            obtain ⟨b1, o1, rfl, _, y0, y1, y2, y3, y4, y5, y6, y7, y8, y9⟩ := inc_at (HI.out.below HBW.out) hy
            have HT : Hid ((xs.take (j + 1)).any (mtI inc urg) = ((xs.take j).any (mtI inc urg) || mtI inc urg y)) := Lib.hid (by rw [take_snoc' hy]; simp)
            have HBA := Lib.hid (hb.alloc hmj (objI y))
            unfold objI at HBA
            have hjj : (j : Int) < (xs.length : Int) := by omega
            have hbxe : ¬ bx = wr.heap.size := by omega
            obtain ⟨yid, yurg, ycode, ynA, ynodes, ync, ydist, ysince, ycA, ycl, ycc, yuA, yul, yuc, ymerged, yclosed⟩ := y
            simp only at y0 y1 y2 y3 y4 y5 y6 y7 y8 y9 HBA
            obtain ⟨ob, hob⟩ : ∃ ob, ob = (xs.take j).any (mtI inc urg) := ⟨_, rfl⟩
            rw [← hob] at HT ⊢
            clear hy hb hob
            cases ob
            · by_cases t1 : yid = inc
              · have e1 : (yid == inc) = true := by simp [t1]
                cases yclosed
                · by_cases t3 : ymerged = 0
                  · have e3 : (ymerged == 0) = true := by simp [t3]
                    by_cases t4 : yurg = urg
                    · have e4 : (yurg == urg) = true := by simp [t4]
                      have HV : Hid ((xs.take (j + 1)).any (mtI inc urg) = true) := Lib.hid (by rw [HT.out]; simp [mtI, t1, t3, t4])
                      clear t1 t3 t4
                      go_wp2_with fail
                      go_roundw
                      case rel => exact ⟨j + 1, by omega, by go_num, by rw [HV.out], HBA.out⟩
                      case measure => simp [intOf]; omega
                    · have e4 : (yurg == urg) = false := by simp [t4]
                      have HV : Hid ((xs.take (j + 1)).any (mtI inc urg) = false) := Lib.hid (by rw [HT.out]; simp [mtI, t4])
                      clear t1 t3 t4
                      go_wp2_with fail
                      go_roundw
                      case rel => exact ⟨j + 1, by omega, by go_num, by rw [HV.out], HBA.out⟩
                      case measure => simp [intOf]; omega
                  · have e3 : (ymerged == 0) = false := by simp [t3]
                    have HV : Hid ((xs.take (j + 1)).any (mtI inc urg) = false) := Lib.hid (by rw [HT.out]; simp [mtI, t3])
                    clear t1 t3
                    go_wp2_with fail
                    go_roundw
                    case rel => exact ⟨j + 1, by omega, by go_num, by rw [HV.out], HBA.out⟩
                    case measure => simp [intOf]; omega
                · have HV : Hid ((xs.take (j + 1)).any (mtI inc urg) = false) := Lib.hid (by rw [HT.out]; simp [mtI])
                  clear t1
                  go_wp2_with fail
                  go_roundw
                  case rel => exact ⟨j + 1, by omega, by go_num, by rw [HV.out], HBA.out⟩
                  case measure => simp [intOf]; omega
              · have e1 : (yid == inc) = false := by simp [t1]
                have HV : Hid ((xs.take (j + 1)).any (mtI inc urg) = false) := Lib.hid (by rw [HT.out]; simp [mtI, t1])
                clear t1
                go_wp2_with fail
                go_roundw
                case rel => exact ⟨j + 1, by omega, by go_num, by rw [HV.out], HBA.out⟩
                case measure => simp [intOf]; omega
            · have HV : Hid ((xs.take (j + 1)).any (mtI inc urg) = true) := Lib.hid (by rw [HT.out]; simp)
              go_wp2_with fail
              go_roundw
              case rel => exact ⟨j + 1, by omega, by go_num, by rw [HV.out], HBA.out⟩
              case measure => simp [intOf]; omega
          · have hjj : j = xs.length := by omega
            subst hjj
            have hany : (xs.take xs.length).any (mtI inc urg) = true := by rw [List.take_length]; exact HANY.out
            rw [hany]
            clear hany
            go_wp2_with fail
            go_roundw
            case rel => exact ⟨k + 1, by omega, by go_num, HBN2.out.trans (HBJ.out.mono HBN2.out.size)⟩
            case measure => simp [intOf]; omega
      · have hkk : k = ss.length := by omega
        subst hkk
        go_wp2_with fail
        go_ret
        exact ⟨rfl, HB2.out.trans (hb.mono HB2.out.size)⟩

set_option maxRecDepth 100000 in
theorem lifted (os : Os) (started : os.Started) (H : Type) (enc : TypeId × Value → H) :
    ReturnsInHanded {} Try.checked os 8 .any (Rows.dispatchcostSlotOrderSpec.pre6 enc Try.prog Try.f8 Rows.dispatchcostSlotOrderRow.domain false) (Rows.dispatchcostSlotOrderSpec.post enc Try.prog Try.f8 false true false false) := by
  refine returnsInHanded_of_change (C := Try.checked) own started (by kernel_rfl) Try.func8
    (ChangeSpec.witness6 (enc := enc) (C := Try.checked) false ⟨#[], #[.slice none 0 0, .slice none 0 0, .slice none 0 0], []⟩ 8 (by kernel_rfl) (by kernel_rfl) (by kernel_rfl) (by kernel_rfl)) ?_
  intro W base args ds gs before hval0 hW hcnd _
  have hval : ∀ (j : Nat) t v, Try.f8.params[j]? = some t → args[j]? = some v → Value.okWide Try.prog W .any base t v := hval0
  have hW' := hW
  obtain ⟨p, q, hA0, hV, rfl, hfz, hnd⟩ := hW
  have hA : DataW.TrodAll enc Try.prog W 0 (fun _ => true) true Try.f8.params.toList args.toList ds p := hA0
  rw [Try.params8] at hA hval
  obtain ⟨v0, vs0, d0, ds0, p0, q0, hargs, rfl, rfl, h0, r0⟩ := trodAll_cons hA
  obtain ⟨v1, vs1, d1, ds1, p1, q1, rfl, rfl, rfl, h1, r1⟩ := trodAll_cons r0
  obtain ⟨v2, vs2, d2, ds2, p2, q2, rfl, rfl, rfl, h2, r2⟩ := trodAll_cons r1
  obtain ⟨rfl, rfl, rfl⟩ := trodAll_nil r2
  obtain rfl : args = #[v0, v1, v2] := by cases args; simp_all
  obtain ⟨rfl, rfl⟩ := trodVars_none hV
  obtain ⟨A0, x0, c0, rfl, hi0, hnd0, hwf0, hc0, hm0, hn0⟩ := open_incs (hval 0 54 v0 rfl rfl) h0
  obtain ⟨A1, u1, c1, rfl, hs1, hwf1, hc1, hm1, hn1⟩ := open_units (hval 1 36 v1 rfl rfl) h1
  obtain ⟨A2, z2, c2, rfl, hs2, hc2, hm2⟩ := open_plans (hval 2 55 v2 rfl rfl) h2
  clear hA0 hval0
  refine (walk W A0 x0 c0 hi0 hnd0 hwf0 hc0 hm0 hn0 A1 u1 c1 hs1 hwf1 hc1 hm1 hn1 A2 z2 c2 hs2 hc2 hm2).mono fun e W' ⟨he, hb⟩ => ?_
  subst he
  exact ⟨_, rfl, law_post laidOut (by kernel_rfl) rfl Try.underlying4 rfl hW' rfl rfl rfl hb⟩

theorem over : Rows.dispatchcostSlotOrderRow.holds Try.pinned (OpenSpec.ofChange Rows.dispatchcostSlotOrderSpec) :=
  OpenClaim.holds_of_wide 8 Try.f8 rfl rfl rfl rfl rfl rfl rfl ⟨rfl, rfl, rfl, rfl, rfl⟩ rfl rfl rfl rfl rfl (by kernel_rfl) Try.func8 (by kernel_rfl)
    (of_decide_eq_true (by kernel_rfl)) (by unfold Func.isWrapper; first | (rw [if_pos (by decide +kernel)]; kernel_rfl) | (rw [if_neg (by decide +kernel)]; exact ⟨rfl, rfl⟩))
    (fun os started H enc _ => lifted os started H enc)

theorem proved : Rows.DispatchcostSlotOrderSaid := over
#print axioms proved
end Go.Proofs.Ytpomakmmjbimfaa.l35SlotOrder
