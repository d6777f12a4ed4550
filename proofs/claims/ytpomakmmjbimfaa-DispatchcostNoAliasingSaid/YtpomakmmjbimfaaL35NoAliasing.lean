/-
  samaritanlaw35.DispatchcostNoAliasing returns true for every input, and the arguments read afterwards as before.
  No condition beyond those of the given row.
-/
import Derived.Test.YtpomakmmjbimfaaRows
import Derived.Test.YtpomakmmjbimfaaNetB
import Derived.Test.YtpomakmmjbimfaaDeep
import Derived.Test.YtpomakmmjbimfaaLift
namespace Go.Proofs.Ytpomakmmjbimfaa.l35NoAliasing
open Go.ChangeShapes Go.WideShapes Go.ChangeAt Go.RowKit Go.Maps
open Go.ChangeMaps (open_string shut_string)

theorem own : ownKnob Try.prog.godebug = none := by kernel_rfl
theorem laidOut : laidOutB Try.prog = true := by kernel_rfl

set_option maxRecDepth 100000 in
set_option maxHeartbeats 4000000 in
theorem walk (w : World) (A0 : Option Addr) (xs : List IncT) (c0 : Nat) (hi : IncsAt w w.heap.size A0 xs) (hnd : NodesAt w w.heap.size xs) (hwf : ∀ x ∈ xs, IncWf x) (hc0 : xs.length ≤ c0) (hm0 : c0 ≤ 9223372036854775807) (_hn0 : A0 = none → c0 = 0) :
    Calls Try.prog 9 #[.slice A0 xs.length c0] w fun e w' => e = .returned (.bool true) ∧ Below w.heap.size w w' := by
  have HI := Lib.hid hi
  have HND := Lib.hid hnd
  have HWF := Lib.hid hwf
  have HPN : Hid (∀ (W : World) (B : Nat), Plans W B none []) := Lib.hid (fun W B i p h => by simp at h)
  have HSP : Hid (smallP [] = true) := Lib.hid rfl
  clear hi hnd hwf
  have HREF : Hid (∀ W, Below w.heap.size w W → xs.length ≤ 10 → Calls Try.prog 23 #[.slice A0 xs.length c0, .slice none 0 0, .slice none 0 0] W (RetSlots W (slotsL xs [] []))) := Lib.hid (fun W hb hl =>
    refSlots_any A0 none none c0 0 0 xs [] [] W ((HI.out.below hb).more hb.size) ((HND.out.below hb).more hb.size) HWF.out (by omega) RecsAt.empty (by simp) (HPN.out W _) (by simp) HSP.out)
  go_enter Try.func9, Try.ntmps9
  go_wp2_with fail
  refine (wakes35_any _).mono ?_
  rintro e w1 ⟨rfl, hb⟩
  have HB := Lib.hid hb
  have hsma : Calls Try.prog 19 #[.slice A0 xs.length c0, .slice none 0 0, .slice none 0 0] w1 _ := small35_any A0 none none c0 0 0 xs [] [] w1 w.heap.size (HI.out.below HB.out) HWF.out (by omega) (by simp) (HPN.out _ _) (by simp)
  have HSMA := Lib.hid hsma
  clear hb hsma
  go_wp2_with fail
  ((with_reducible refine HSMA.out.mono ?_))
  rintro e w' ⟨b, rfl, hsm, rfl⟩
  have HSM := Lib.hid hsm
  clear hsm HSMA
  cases b
  · go_wp2_with fail
    go_ret
    exact ⟨rfl, HB.out⟩
  · obtain ⟨s1, _, _, _, s5⟩ := HSM.out rfl
    have HS5 := Lib.hid s5
    clear s5 HSM
    have HRF1 := Lib.hid (HREF.out w1 HB.out s1)
    go_wp2_with fail
    ((with_reducible refine HRF1.out.mono ?_))
    rintro e w2 ⟨A3, c3, tt, rfl, hsl, hsn, hstr, hnil, hb2⟩
    have HNILT := Lib.hid hnil
    have HB2 := Lib.hid (HB.out.trans (hb2.mono HB.out.size))
    have HSL := Lib.hid hsl
    have HSN := Lib.hid hsn
    have HSTR := Lib.hid hstr
    have hsl20 : tt.length ≤ 400 := by
      have h1 := congrArg List.length hstr
      rw [List.length_map] at h1
      have h2 := slots_len HSP.out [] (sortK (xs.filter openI))
      rw [sortK_len] at h2
      have h3 := List.length_filter_le openI xs
      unfold slotsL at h1
      omega
    have HNL : Hid (∀ s : SlotT, strip s ∈ slotsL xs [] [] → s.nodes.length ≤ 20) := Lib.hid (fun s hm => by
      unfold slotsL at hm
      rw [List.mem_flatMap] at hm
      obtain ⟨x, hx, hm⟩ := hm
      rw [mem_sortK, List.mem_filter] at hx
      unfold slotsX at hm
      rw [List.mem_map] at hm
      obtain ⟨kd, _, hk⟩ := hm
      have h1 := HS5.out x hx.1
      have h2 := congrArg SlotP.nodes hk
      simp only [strip] at h2
      rw [← h2]
      exact h1)
    have HNLT : Hid (∀ s ∈ tt, s.nodes.length ≤ 20) := Lib.hid (fun s hs => HNL.out s (by rw [← HSTR.out]; exact List.mem_map_of_mem hs))
    clear hsl hsn hstr hnil hb2 HRF1
    go_wp2_with fail
    go_loopw [4, 19] (fun v iv wr => ∃ (k : Nat) (dd : List SlotT), k ≤ tt.length ∧ iv = .int .i64 k ∧ DeepTo w2.heap.size v ((tt.take k).map strip) wr dd ∧ Below w2.heap.size w2 wr) (fun _ i _ => tt.length - (intOf i).toNat)
    case atStart => exact ⟨0, [], Nat.zero_le _, rfl, DeepTo.start _ _, Below.refl _ _⟩
    case round =>
      obtain ⟨k, dd, hk, rfl, hst, hb⟩ := hrel
      have HST := Lib.hid hst
      have HBR := Lib.hid hb
      have hmb := hb.size
      have hddl : dd.length ≤ 400 := by
        have := congrArg List.length hst.strip
        rw [List.length_map, List.length_map, List.length_take] at this
        omega
      by_cases hlt : k < tt.length
      · obtain ⟨s, hs⟩ : ∃ s, tt[k]? = some s := ⟨tt[k], by simp⟩
        obtain ⟨bs, os, rfl, hbs, q0, q1, q2, q3, q4⟩ := slot_at (HSL.out.below hb) hs
        have hsm : s ∈ tt := List.mem_of_getElem? hs
        have HNS : Hid (Sl w2 w2.heap.size s.nA (s.nodes.map (Value.int .i64))) := Lib.hid (HSN.out s hsm)
        have hnl : s.nodes.length ≤ 20 := HNLT.out s hsm
        have HTK : Hid ((tt.take (k + 1)).map strip = (tt.take k).map strip ++ [⟨s.inc, s.urg, s.since, s.kind, s.nodes⟩]) := Lib.hid (by rw [take_snoc' hs, List.map_append]; rfl)
        have HNA : Hid (s.nA = none → s.nc = 0) := Lib.hid (HNILT.out s hsm)
        have hkj : (k : Int) < (tt.length : Int) := by omega
        clear hs hst hb hsm
        obtain ⟨wx, hwx⟩ : ∃ wx, wx = wr.alloc (.cells #[.int .i64 s.inc, .int .i64 s.urg, .int .i64 s.since, .int .i64 s.kind, .slice s.nA s.nodes.length s.nc] 46) := ⟨_, rfl⟩
        have HXB : Hid (Below wr.heap.size wr wx) := Lib.hid (by rw [hwx]; exact (Below.refl _ _).alloc (Nat.le_refl _) _)
        have HX0 : Hid (∀ W, Below wx.heap.size wx W → W.cell? ⟨wr.heap.size, 0, none⟩ = some (.int .i64 s.inc) ∧ W.cell? ⟨wr.heap.size, 1, none⟩ = some (.int .i64 s.urg) ∧ W.cell? ⟨wr.heap.size, 2, none⟩ = some (.int .i64 s.since) ∧ W.cell? ⟨wr.heap.size, 3, none⟩ = some (.int .i64 s.kind) ∧ W.cell? ⟨wr.heap.size, 4, none⟩ = some (.slice s.nA s.nodes.length s.nc) ∧ W.frozen? ⟨wr.heap.size, 4, none⟩ = false) := Lib.hid (by
          intro W hbW
          have hlt : wr.heap.size < wx.heap.size := by rw [hwx]; simp
          have key : ∀ j, W.cell? ⟨wr.heap.size, j, none⟩ = wx.cell? ⟨wr.heap.size, j, none⟩ := fun j => hbW.cell (p := ⟨wr.heap.size, j, none⟩) hlt
          refine ⟨?_, ?_, ?_, ?_, ?_, ?_⟩
          · rw [key, hwx, World.cell?_alloc_at (hn := rfl)]; rfl
          · rw [key, hwx, World.cell?_alloc_at (hn := rfl)]; rfl
          · rw [key, hwx, World.cell?_alloc_at (hn := rfl)]; rfl
          · rw [key, hwx, World.cell?_alloc_at (hn := rfl)]; rfl
          · rw [key, hwx, World.cell?_alloc_at (hn := rfl)]; rfl
          · rw [hbW.frozen (p := ⟨wr.heap.size, 4, none⟩) hlt, hwx]; simp)
        have hxz : wr.heap.size < wx.heap.size := by rw [hwx]; simp
        go_upto_region 10 with (fail)
        rw [← hwx]
        clear hwx q0 q1 q2 q3 q4
        have HWX2 : Hid (Below w2.heap.size w2 wx) := Lib.hid (HBR.out.trans (HXB.out.mono HBR.out.size))
        have hE0 : OwnI (wx.alloc (.cells #[] 3)) wx.heap.size 3 (.slice (some ⟨wx.heap.size, 0, none⟩) 0 0) [] := OwnV.lit wx wx.heap.size 3 [] (f := Value.int .i64) rfl (Nat.le_refl _) (by simp) #[] rfl
        have hbe : Below wx.heap.size wx (wx.alloc (.cells #[] 3)) := (Below.refl _ _).alloc (Nat.le_refl _) _
        have hsrc : Sl (wx.alloc (.cells #[] 3)) w2.heap.size s.nA (s.nodes.map (Value.int .i64)) := (HNS.out.below HWX2.out).alloc HWX2.out.size _
        obtain ⟨x0, x1, x2, x3, x4, x5⟩ := HX0.out _ hbe
        have hxe : ¬ wr.heap.size = wx.heap.size := by omega
        have hws : wx.heap.size ≤ (wx.alloc (.cells #[] 3)).heap.size := hbe.size
        have hwr2 : w2.heap.size ≤ wr.heap.size := hmb
        go_wp2_with (first
          | (refine wpList_append_sl _ rfl (.tmp 23) (.tmp 25) 28 rfl 3 Try.underlying28 int_info rfl (by omega) wx.heap.size _ [] rfl hE0 w2.heap.size _ _ _ s.nodes rfl rfl HNA.out hsrc (by intro y _; rfl) (by simp; omega) hws ?_; intro v6 w6 hown6 hg6; rw [List.nil_append] at hown6; obtain ⟨A6, c6, rfl, _⟩ := OwnV.sl hown6; have hb6 : Below wx.heap.size wx w6 := hbe.grown hg6 hws (fun j hj => OwnV.ge_base hE0 j hj); have hd7 := DeepTo.setBox HST.out (HXB.out.trans (hb6.mono HXB.out.size)) 4 (.slice A6 s.nodes.length c6); have hz7 : w2.heap.size ≤ (w6.setCell ⟨wr.heap.size, 4, none⟩ (.slice A6 s.nodes.length c6)).heap.size := (by have h1 := hb6.size; simp; omega); obtain ⟨z0, z1, z2, z3, z4, z5⟩ := HX0.out _ hb6)
          | (at_builtin; refine wpList_append_rec _ rfl (.tmp 28) (.tmp 30) 41 rfl w2.heap.size 46 Try.underlying41 rslot_info rfl (by omega) (by omega) cellsS_len _ _ (w6.setCell ⟨wr.heap.size, 4, none⟩ (.slice A6 s.nodes.length c6)) ⟨s.inc, s.urg, s.since, s.kind, A6, s.nodes, c6⟩ (cellsS_one _) _ rfl rfl rfl hd7.own _ rfl (by simp) (by omega) hz7 ?_; intro v8 w8 hown8 hg8))
        go_roundw
        case rel =>
          refine ⟨k + 1, dd ++ [⟨s.inc, s.urg, s.since, s.kind, A6, s.nodes, c6⟩], by omega, by go_num, ?_, ?_⟩
          · rw [HTK.out]
            refine hd7.append ⟨s.inc, s.urg, s.since, s.kind, A6, s.nodes, c6⟩ ?_ hown8 hg8
            refine OwnV.setCell_other (OwnV.base_le hown6 HWX2.out.size) (a := ⟨wr.heap.size, 4, none⟩) (fun e => ?_) _
            have := OwnV.ge_base hown6 _ e
            simp at this
            omega
          · exact ((HWX2.out.trans (hb6.mono HWX2.out.size)).setCell (p := ⟨wr.heap.size, 4, none⟩) hwr2 _).grown hg8 hz7 (fun j hj => hd7.own.ge_base j hj)
        case measure => simp [intOf]; omega
      · have hkk : k = tt.length := by omega
        subst hkk
        rw [List.take_length] at hst
        have HST5 := Lib.hid hst
        have HB5 := Lib.hid (HB2.out.trans (hb.mono HB2.out.size))
        have hsd : Calls Try.prog 22 #[.slice A0 xs.length c0, .slice none 0 0, .slice none 0 0] wr _ := slots_any A0 none none c0 0 0 xs [] [] wr ((HI.out.below HB5.out).more HB5.out.size) ((HND.out.below HB5.out).more HB5.out.size) HWF.out (by omega) (fun x hx => by have := HS5.out x hx; omega) RecsAt.empty (by simp) (by simp) (HPN.out _ _) (by simp) HSP.out
        have HSD := Lib.hid hsd
        obtain ⟨w5, hw5⟩ : ∃ w5, w5 = wr := ⟨_, rfl⟩
        rw [← hw5] at HST5 HB5 HSD ⊢
        clear hst hb hsd hw5 HST HBR hmb
        obtain ⟨A4, c4, rfl, hsl4⟩ := HST5.out.own.sl
        have HSL4 := Lib.hid hsl4
        clear hsl4
        go_wp2_with fail
        ((with_reducible refine HSD.out.mono ?_))
        rintro e w7 ⟨A7, c7, ss, rfl, hst7, hb7⟩
        have HLO : Hid (Loose w5.heap.size (.slice A7 ss.length c7) ss w7) := Lib.hid ⟨hst7.own, fun s hs => ⟨s.nodes, rfl, hst7.rows s hs⟩⟩
        have HB7 := Lib.hid hb7
        have hssl : ss.length ≤ 400 := by
          have h1 := congrArg List.length hst7.strip
          rw [List.length_map] at h1
          have h2 := slots_len HSP.out [] (sortK (xs.filter openI))
          rw [sortK_len] at h2
          have h3 := List.length_filter_le openI xs
          unfold slotsL at h1
          omega
        have HNLS : Hid (∀ s ∈ ss, s.nodes.length ≤ 20) := Lib.hid (fun s hs => HNL.out s (by rw [← hst7.strip]; exact List.mem_map_of_mem hs))
        clear hst7 hb7 HSD
        go_wp2_with fail
        go_loopw [36] (fun iv wr => ∃ k : Nat, k ≤ ss.length ∧ iv = .int .i64 k ∧ Loose w5.heap.size (.slice A7 ss.length c7) ss wr ∧ Below w5.heap.size w5 wr) (fun i _ => ss.length - (intOf i).toNat)
        case atStart => exact ⟨0, Nat.zero_le _, rfl, HLO.out, HB7.out⟩
        case round =>
          clear HLO HB7
          obtain ⟨k, hk, rfl, hlo, hb⟩ := hrel
          have HLO := Lib.hid hlo
          have HBR := Lib.hid hb
          have hmb := hb.size
          by_cases hlt2 : k < ss.length
          · obtain ⟨s, hs⟩ : ∃ s, ss[k]? = some s := ⟨ss[k], by simp⟩
            obtain ⟨_, _, e7, hsl7⟩ := hlo.own.sl
            cases e7
            obtain ⟨bs, os, rfl, hbs, q0, q1, q2, q3, q4⟩ := slot_at hsl7 hs
            have hsm : s ∈ ss := List.mem_of_getElem? hs
            have HSM2 := Lib.hid hsm
            have hnl : s.nodes.length ≤ 20 := HNLS.out s hsm
            have HG : Hid (∀ g, s.nA = some ⟨g, 0, none⟩ → 0 < s.nodes.length → g < wr.heap.size) := Lib.hid (fun g hg h0 => by
              obtain ⟨g', e, hl, _⟩ := hlo.put hsm h0
              rw [hg] at e
              cases e
              exact hl)
            have hkj : (k : Int) < (ss.length : Int) := by omega
            obtain ⟨wx, hwx⟩ : ∃ wx, wx = wr.alloc (.cells #[.int .i64 s.inc, .int .i64 s.urg, .int .i64 s.since, .int .i64 s.kind, .slice s.nA s.nodes.length s.nc] 48) := ⟨_, rfl⟩
            have hxb : Below wr.heap.size wr wx := by rw [hwx]; exact (Below.refl _ _).alloc (Nat.le_refl _) _
            have HXC : Hid (wx.cell? ⟨wr.heap.size, 4, none⟩ = some (.slice s.nA s.nodes.length s.nc)) := Lib.hid (by rw [hwx, World.cell?_alloc_at (hn := rfl)]; rfl)
            have HLX := Lib.hid (HLO.out.kept_new hxb)
            have HBX := Lib.hid (HBR.out.trans (hxb.mono hmb))
            have xc := HXC.out
            clear hs hsm hlo hb hsl7 hxb
            go_upto_region 16 with (fail)
            rw [← hwx]
            clear hwx q0 q1 q2 q3 q4
            go_wp2_with fail
            clear xc
            obtain ⟨bx, hbx⟩ : ∃ bx, bx = wr.heap.size := ⟨_, rfl⟩
            rw [← hbx] at HXC HG ⊢
            clear hbx
            go_loopw [43] (fun jv wr => ∃ j : Nat, j ≤ s.nodes.length ∧ jv = .int .i64 j ∧ Loose w5.heap.size (.slice (some ⟨bs, os, none⟩) ss.length c7) ss wr ∧ Below w5.heap.size w5 wr ∧ wr.cell? ⟨bx, 4, none⟩ = some (.slice s.nA s.nodes.length s.nc)) (fun i _ => s.nodes.length - (intOf i).toNat)
            case atStart => exact ⟨0, Nat.zero_le _, rfl, HLX.out, HBX.out, HXC.out⟩
            case round =>
              obtain ⟨j, hj, rfl, hlo, hb, hc⟩ := hrel
              by_cases hjl : j < s.nodes.length
              · obtain ⟨g, e, hgl, hgb, ⟨z, hz⟩, hf, hput⟩ := hlo.put HSM2.out hjl
                have hgx : g < bx := HG.out g e (by omega)
                have HP2 := Lib.hid (hput (-7))
                have HB2' := Lib.hid (hb.setCell (p := ⟨g, j, none⟩) hgb (.int .i64 (-7)))
                have HC2 : Hid ((wr.setCell ⟨g, j, none⟩ (.int .i64 (-7))).cell? ⟨bx, 4, none⟩ = some (.slice s.nA s.nodes.length s.nc)) := Lib.hid ((World.cell?_setCell_other wr _ _ _ (fun q => by injection q with q; omega)).trans hc)
                have hjj : (j : Int) < (s.nodes.length : Int) := by omega
                rw [e] at hc
                have HE := Lib.hid e
                clear hlo hb hput e
                go_wp2_with fail
                go_roundw
                case rel => exact ⟨j + 1, by omega, by go_num, HP2.out, HB2'.out, HC2.out⟩
                case measure => simp [intOf]; omega
              · have hjj : j = s.nodes.length := by omega
                subst hjj
                have HL2 := Lib.hid hlo
                clear hlo
                go_wp2_with fail
                go_roundw
                case rel => exact ⟨k + 1, by omega, by go_num, HL2.out, hb⟩
                case measure => simp [intOf]; omega
          · have hkk : k = ss.length := by omega
            subst hkk
            have HB9 : Hid (Below w.heap.size w wr) := Lib.hid (HB5.out.trans (hb.mono HB5.out.size))
            have HRF2 := Lib.hid (HREF.out wr HB9.out s1)
            clear hlo hb HLO
            go_wp2_with fail
            ((with_reducible refine HRF2.out.mono ?_))
            rintro e w10 ⟨A8, c8, uu, rfl, hsl8, hsn8, hstr8, _, hb8⟩
            have HB10 : Hid (Below w5.heap.size w5 w10) := Lib.hid (HBR.out.trans (hb8.mono HBR.out.size))
            have HBW := Lib.hid (HB9.out.trans (hb8.mono HB9.out.size))
            have huul : uu.length ≤ 400 := by
              have h1 := congrArg List.length hstr8
              rw [List.length_map] at h1
              have h2 := slots_len HSP.out [] (sortK (xs.filter openI))
              rw [sortK_len] at h2
              have h3 := List.length_filter_le openI xs
              unfold slotsL at h1
              omega
            have hnlu : ∀ s ∈ uu, s.nodes.length ≤ 65536 := fun s hs => by
              have := HNL.out s (by rw [← hstr8]; exact List.mem_map_of_mem hs)
              omega
            have hsame := sameSlots_any A8 A4 c8 c4 uu dd w10 hsl8 ((HSL4.out.below HB10.out).more HB10.out.size) hsn8 (fun s hs => ((own_sl (HST5.out.rows s hs)).below HB10.out).more HB10.out.size) (hstr8.trans (HSTR.out.symm.trans HST5.out.strip.symm)) (by omega) hnlu
            have HSAME := Lib.hid hsame
            clear hsl8 hsn8 hstr8 hb8 hsame hnlu
            go_wp2_with fail
            ((with_reducible refine HSAME.out.mono ?_))
            rintro e w11 ⟨rfl, hb11⟩
            go_wp2_with fail
            go_ret
            exact ⟨rfl, HBW.out.trans (hb11.mono HBW.out.size)⟩

set_option maxRecDepth 100000 in
theorem lifted (os : Os) (started : os.Started) (H : Type) (enc : TypeId × Value → H) :
    ReturnsInHanded {} Try.checked os 9 .any (Rows.dispatchcostNoAliasingSpec.pre6 enc Try.prog Try.f9 Rows.dispatchcostNoAliasingRow.domain false) (Rows.dispatchcostNoAliasingSpec.post enc Try.prog Try.f9 false true false false) := by
  refine returnsInHanded_of_change (C := Try.checked) own started (by kernel_rfl) Try.func9
    (ChangeSpec.witness6 (enc := enc) (C := Try.checked) false ⟨#[], #[.slice none 0 0], []⟩ 8 (by kernel_rfl) (by kernel_rfl) (by kernel_rfl) (by kernel_rfl)) ?_
  intro W base args ds gs before hval0 hW hcnd _
  have hval : ∀ (j : Nat) t v, Try.f9.params[j]? = some t → args[j]? = some v → Value.okWide Try.prog W .any base t v := hval0
  have hW' := hW
  obtain ⟨p, q, hA0, hV, rfl, hfz, hnd⟩ := hW
  have hA : DataW.TrodAll enc Try.prog W 0 (fun _ => true) true Try.f9.params.toList args.toList ds p := hA0
  rw [Try.params9] at hA hval
  obtain ⟨v0, vs0, d0, ds0, p0, q0, hargs, rfl, rfl, h0, r0⟩ := trodAll_cons hA
  obtain ⟨rfl, rfl, rfl⟩ := trodAll_nil r0
  obtain rfl : args = #[v0] := by cases args; simp_all
  obtain ⟨rfl, rfl⟩ := trodVars_none hV
  obtain ⟨A0, x0, c0, rfl, hi0, hnd0, hwf0, hc0, hm0, hn0⟩ := open_incs (hval 0 54 v0 rfl rfl) h0
  clear hA0 hval0
  refine (walk W A0 x0 c0 hi0 hnd0 hwf0 hc0 hm0 hn0).mono fun e W' ⟨he, hb⟩ => ?_
  subst he
  exact ⟨_, rfl, law_post laidOut (by kernel_rfl) rfl Try.underlying4 rfl hW' rfl rfl rfl hb⟩

theorem over : Rows.dispatchcostNoAliasingRow.holds Try.pinned (OpenSpec.ofChange Rows.dispatchcostNoAliasingSpec) :=
  OpenClaim.holds_of_wide 9 Try.f9 rfl rfl rfl rfl rfl rfl rfl ⟨rfl, rfl, rfl, rfl, rfl⟩ rfl rfl rfl rfl rfl (by kernel_rfl) Try.func9 (by kernel_rfl)
    (of_decide_eq_true (by kernel_rfl)) (by unfold Func.isWrapper; first | (rw [if_pos (by decide +kernel)]; kernel_rfl) | (rw [if_neg (by decide +kernel)]; exact ⟨rfl, rfl⟩))
    (fun os started H enc _ => lifted os started H enc)

theorem proved : Rows.DispatchcostNoAliasingSaid := over
#print axioms proved
end Go.Proofs.Ytpomakmmjbimfaa.l35NoAliasing
