/-
  dispatch.Assign: the walk.
  samaritanlaw38.awake returns true.
  How a choice comes in.
  What the row's list gives: the world is ready for the contracts of dispatch.
-/
import Derived.Test.YtimijjhdgihobaaDoorMqzb
import Derived.BigRegion
import Derived.Test.YtimijjhdgihobaaDoorMqza
import Derived.Test.YtimijjhdgihobaaDoorMqj
import Derived.Test.YtimijjhdgihobaaDoorMqs
import Derived.Test.YtimijjhdgihobaaDoorMqf
import Derived.Test.YtimijjhdgihobaaDoorMqb
import Derived.Test.YtimijjhdgihobaaDoorRows
import Derived.Stop.LaidErr
import Derived.MakeChecks
import Derived.Lay
import Derived.ProofKit
import Derived.OpenShut
import Derived.Deep.DeepWitnessRowRef
namespace Go.Proofs.YtimijjhdgihobaaDoor
section
open Go.RowKit Go.Maps

set_option maxRecDepth 100000 in
set_option maxHeartbeats 16000000 in
theorem assign_any (p n : Nat) (E : List EdgeT) (A1 A A3 A2 : Option Addr) (c1 c c3 c2 : Nat) (ts : List Int) (xs : List IncT) (us : List UnitT) (ps : List Plan) (rsv : Int) (w : World)
    (hg : GraphAt w w.heap.size p n E) (hn : n ≤ 256) (hE : E.length ≤ 16384) (hok : ∀ e ∈ E, 0 ≤ e.dst ∧ e.dst < n) (hs : Sl w w.heap.size A1 (ts.map (Value.int .i64)))
    (hi : IncsAt w w.heap.size A xs) (hnd : NodesAt w w.heap.size xs) (hwf : ∀ x ∈ xs, IncWf x) (hl : xs.length ≤ 19) (hsml : ∀ x ∈ xs, x.nodes.length ≤ 1000)
    (hu : UnitsAt w w.heap.size A3 us) (huw : ∀ u ∈ us, UnitWf u) (hul : us.length ≤ 64) (hnil : A3 = none → c3 = 0) (hp : Plans w w.heap.size A2 ps) (hpl : ps.length ≤ 9223372036854775807) (hsm : smallP ps = true) :
    Calls Tryd.prog 15 #[.pointer (some ⟨p, 0, none⟩), .slice A1 ts.length c1, .slice A xs.length c, .slice A3 us.length c3, .slice A2 ps.length c2, .int .i64 rsv] w (RetAsg w n E ts xs ps rsv us) := by
  have HCL := Lib.hid (cloneU_any A3 c3 us w hu (by omega) hnil)
  have HARG := Lib.hid (And.intro hg (And.intro hs (And.intro hi (And.intro hnd hp))))
  have HOK := Lib.hid hok
  have HWF := Lib.hid hwf
  have HSML := Lib.hid hsml
  have HUW := Lib.hid huw
  have HSM := Lib.hid hsm
  clear hg hok hs hi hnd hwf hsml hu huw hnil hp hsm
  go_enter Tryd.func15, Tryd.ntmps15
  go_wp2_with fail
  refine HCL.out.mono ?_
  rintro e w1 ⟨sv, rfl, hown1, hb1⟩
  obtain ⟨As, cs0, rfl, _⟩ := hown1.sl
  have HO1 := Lib.hid (And.intro hown1 hb1)
  clear HCL hown1 hb1
  go_wp2_with fail
  go_loopw [14, 15] (fun cv iv Y => ∃ (g : Nat) (cs : List ChoT) (L : List UnitT), 1 ≤ g ∧ g ≤ 6 ∧ iv = .int .i64 g ∧ Hid (RunR n E ts xs ps rsv (urgs g) us cs L ∧ cs.length ≤ 64 * (g - 1) ∧ L.length = us.length ∧ ∀ u ∈ L, UnitWf u) ∧ OwnU Y w.heap.size 44 (.slice As us.length cs0) L ∧ OwnCh Y w.heap.size 46 cv cs ∧ Below w.heap.size w Y) (fun _ iv _ => 6 - (intOf iv).toNat)
  case atStart => exact ⟨1, [], us, by omega, by omega, rfl, Lib.hid ⟨⟨rfl, rfl⟩, by simp, rfl, HUW.out⟩, HO1.out.1, OwnR.nil _ _ _, HO1.out.2⟩
  case round =>
    obtain ⟨g, cs, L, hg1, hg6, rfl, HRUN, hownU, hownC, hb⟩ := hrel
    have HR := Lib.hid (And.intro hownU (And.intro hownC hb))
    obtain ⟨cv, hcv⟩ : ∃ v, v = u14 := ⟨_, rfl⟩
    subst hcv
    clear hownU hownC hb HO1
    obtain ⟨wA, hwA⟩ : ∃ w', w' = wr := ⟨_, rfl⟩
    subst hwA
    by_cases hlt : g ≤ 5
    · have hlt' : (g : Int) ≤ 5 := by omega
      have HSO : Hid (Calls Tryd.prog 27 #[.slice A xs.length c, .slice As us.length cs0, .slice A2 ps.length c2, .int .i64 g] wA (RetSlU wA (slotsU xs L ps g))) := Lib.hid (by
        have hz := HR.out.2.2.size
        have h := slotsOf_any A As A2 c cs0 c2 xs L ps g wA ((HARG.out.2.2.1.below HR.out.2.2).more hz) ((HARG.out.2.2.2.1.below HR.out.2.2).more hz) HWF.out hl HSML.out (own_recs HR.out.1) HRUN.out.2.2.2 (by rw [HRUN.out.2.2.1]; omega) ((HARG.out.2.2.2.2.below HR.out.2.2).more hz) hpl HSM.out (slotsL_len HSM.out hl)
        rw [HRUN.out.2.2.1] at h
        exact h)
      go_wp2_with fail
      ((with_reducible refine HSO.out.mono ?_))
      rintro e w2 ⟨A0, c0, ss, rfl, h1, h2, h3, h4, h5, h6⟩
      have HS := Lib.hid (And.intro h1 (And.intro h2 (And.intro h3 (And.intro h4 (And.intro h5 h6)))))
      have hsl : ss.length ≤ 64 := by
        have := slotsU_len xs L ps g
        rw [← h3, List.length_map] at this
        exact this
      clear HSO h1 h2 h3 h4 h5 h6
      by_cases hz0 : ss.length = 0
      · have hz0' : ((ss.length : Int) == 0) = true := by simp [hz0]
        have HZ := Lib.hid hz0
        clear hz0
        go_wp2_with fail
        go_roundw
        case rel =>
          refine ⟨g + 1, cs, L, by omega, by omega, by go_num, Lib.hid ⟨?_, by have := HRUN.out.2.1; omega, HRUN.out.2.2⟩, HR.out.1.kept_new HS.out.2.2.2.2.2, HR.out.2.1.kept_new HS.out.2.2.2.2.2, HR.out.2.2.trans (HS.out.2.2.2.2.2.mono HR.out.2.2.size)⟩
          rw [urgs_next hg1]
          have h := HRUN.out.1.snoc (StepR.none (urg := (g : Int)) (by
            rw [← HS.out.2.2.1, List.eq_nil_of_length_eq_zero HZ.out]
            rfl))
          rw [List.append_nil] at h
          exact h
        case measure => simp [intOf]; omega
      · have hz0' : ((ss.length : Int) == 0) = false := beq_eq_false_iff_ne.2 (by omega)
        have hsp : 0 < ss.length := by omega
        clear hz0
        obtain ⟨SP, hSP⟩ : ∃ SP, SP = spareR (effR g rsv) L L.length := ⟨_, rfl⟩
        have HDI : Hid (Calls Tryd.prog 29 #[.slice As us.length cs0, .int .i64 g, .int .i64 rsv] w2 (RetUnits w2 SP)) := Lib.hid (by
          have hul2 : L.length = us.length := HRUN.out.2.2.1
          have h := dispatchable_any As cs0 L g rsv w2 (((own_recs HR.out.1).below HS.out.2.2.2.2.2).more HS.out.2.2.2.2.2.size) HRUN.out.2.2.2 (by rw [HRUN.out.2.2.1]; omega)
          rw [← hSP, HRUN.out.2.2.1] at h
          exact h)
        have HSPL : Hid ((∀ u ∈ SP, UnitWf u) ∧ SP.length ≤ 64) := Lib.hid (by
          rw [hSP]
          refine ⟨fun u hu => HRUN.out.2.2.2 u (spareR_mem hu), ?_⟩
          have := spareR_len (effR g rsv) L L.length
          rw [HRUN.out.2.2.1] at this
          rw [HRUN.out.2.2.1]
          omega)
        have HSPE := Lib.hid hSP
        clear hSP
        go_wp2_with fail
        ((with_reducible refine HDI.out.mono ?_))
        rintro e w3 ⟨v3, rfl, hown3, hb3⟩
        obtain ⟨A4, c4, rfl, hat3⟩ := hown3.sl
        have HB3 := Lib.hid hb3
        have HB23 := Lib.hid (HS.out.2.2.2.2.2.trans (hb3.mono HS.out.2.2.2.2.2.size))
        have HBW3 := Lib.hid (HR.out.2.2.trans (HB23.out.mono HR.out.2.2.size))
        have HCA := Lib.hid (candidates_any p n E A1 A0 A4 c1 c0 c4 ts ss SP w3 ((HARG.out.1.below HBW3.out).more HBW3.out.size) hn hE HOK.out ((HARG.out.2.1.below HBW3.out).more HBW3.out.size) ((HS.out.1.below hb3).more hb3.size) (fun s hs => ((HS.out.2.1 s hs).below hb3).more hb3.size) (fun s hs => by
          have : strip s ∈ slotsU xs L ps g := by rw [← HS.out.2.2.1]; exact List.mem_map.2 ⟨s, hs, rfl⟩
          obtain ⟨x, hx, _, _, _, e⟩ := slotsL_mem (slotsU_mem this).1
          have := HSML.out x hx
          have e : s.nodes = x.nodes := e
          rw [e]
          omega) hsl hat3 HSPL.out.1 HSPL.out.2)
        clear HDI hown3 hat3 hb3
        go_wp2_with fail
        ((with_reducible refine HCA.out.mono ?_))
        rintro e w4 ⟨v4, gb, F, P, M, rfl, k1, k2, k3, k4, k5, k6⟩
        obtain ⟨A5, c5, rfl, _⟩ := k1.sl
        have HK := Lib.hid (And.intro k1 (And.intro k2 (And.intro k3 (And.intro k4 (And.intro k5 k6)))))
        clear HCA k1 k2 k3 k4 k5 k6
        obtain ⟨CU, hCU⟩ : ∃ CU, CU = candU n E ts (ss.map strip) SP := ⟨_, rfl⟩
        rw [← hCU] at HK ⊢
        have hcl : CU.length ≤ 64 := by rw [hCU]; exact candU_len _ _ _ _ _
        have HCU := Lib.hid hCU
        clear hCU
        have HSV := Lib.hid (Solve_any w4 (some ⟨gb, 0, none⟩) ss.length M ss.length CU.length (by rw [HK.out.2.1.len, List.length_map]) hsp hsl hcl HK.out.2.1.rows HK.out.2.1.isC (fam_mat HK.out.2.2.1 (by rw [HK.out.2.1.len, List.length_map]) HK.out.2.2.2.1 (by have := HK.out.2.2.1.room; omega)))
        go_wp2_with fail
        ((with_reducible refine HSV.out.mono ?_))
        rintro e w5 ⟨v5, t5, rfl, mb, m, rfl, j1, j2, j3, j4, j5⟩
        have HM := Lib.hid (And.intro j1 (And.intro j2 (And.intro j3 (And.intro j4 j5))))
        have HB45 := Lib.hid ((HB23.out.trans (HK.out.2.2.2.2.2.mono HB23.out.size)))
        have HB5 := Lib.hid (HB45.out.trans (j5.mono HB45.out.size))
        clear HSV j1 j2 j3 j4 j5
        have HLO : Hid ((∀ k, (Value.slice As us.length cs0).ownBlock = some k → k < wA.heap.size) ∧ (∀ k, cv.ownBlock = some k → k < wA.heap.size) ∧ (∀ k, (Value.slice As us.length cs0).ownBlock = some k → w.heap.size ≤ k) ∧ ∀ k, cv.ownBlock = some k → w.heap.size ≤ k) := Lib.hid ⟨HR.out.1.lt_size, HR.out.2.1.lt_size, HR.out.1.ge_base, HR.out.2.1.ge_base⟩
        go_wp2_with fail
        go_loopw [14, 60] (fun v iv Y => ∃ i : Nat, i ≤ ss.length ∧ iv = .int .i64 i ∧ AsgI w.heap.size w5 (.slice As us.length cs0) cv L cs (choTo (ss.map strip) CU M m i) v Y) (fun _ iv _ => ss.length - (intOf iv).toNat)
        case atStart => exact ⟨0, Nat.zero_le _, rfl, AsgI.start (HR.out.1.kept_new HB5.out) (HR.out.2.1.kept_new HB5.out)⟩
        case round =>
          obtain ⟨i, hi, rfl, hA⟩ := hrel
          have HA := Lib.hid hA
          clear hA
          by_cases hli : i < ss.length
          · have hli' : (i : Int) < (ss.length : Int) := by omega
            have hrd : ∀ (b o : Nat) (u : Value), wA.heap.size ≤ b → b < w5.heap.size → w5.cell? ⟨b, o, none⟩ = some u → wr.cell? ⟨b, o, none⟩ = some u := fun b o u hb hl hu => HA.out.read HLO.out.1 HLO.out.2.1 hb hl hu
            have HRD := Lib.hid hrd
            clear hrd
            have cm := HRD.out _ _ _ (Nat.le_trans HB45.out.size HM.out.1) HM.out.2.1.lt (HM.out.2.1.cell (j := i) (by rw [HM.out.2.2.1]; exact hli))
            rcases HM.out.2.2.2.1.va.at_ i hli with hj | ⟨k, hk, hj, _⟩
            · rw [hj] at cm
              have HJ := Lib.hid hj
              clear hj
              go_wp2_with fail
              go_roundw
              case rel => exact ⟨i + 1, by omega, by go_num, by rw [choTo_no (choP_none HJ.out)]; exact HA.out⟩
              case measure => simp [intOf]; omega
            · rw [hj] at cm
              have HJ := Lib.hid hj
              clear hj
              have hk0 : ¬ ((k : Int) < 0) := by omega
              have hk' : (k : Int) < (CU.length : Int) := by omega
              obtain ⟨s, hsi⟩ : ∃ s, ss[i]? = some s := ⟨_, List.getElem?_eq_getElem hli⟩
              obtain ⟨u, huk⟩ : ∃ u, CU[k]? = some u := ⟨_, List.getElem?_eq_getElem hk⟩
              have hzz := HK.out.2.2.2.2.2.size
              have hz2 := HS.out.2.2.2.2.2.size
              have hz3 := HB3.out.size
              have hz5 := HM.out.2.2.2.2.size
              have hb25 : Below w2.heap.size w2 w5 := (HB3.out.trans (HK.out.2.2.2.2.2.mono hz3)).trans (HM.out.2.2.2.2.mono (by omega))
              obtain ⟨bs, os, rfl, hbs, s0, _, _, s3, _⟩ := slot_at (HS.out.1.below hb25) hsi
              obtain ⟨bu, ou, rfl, hbu, q0, _⟩ := unit_at ((own_recs HK.out.1).below HM.out.2.2.2.2) huk
              have hbu2 := own_lo HK.out.1
              have hbs2 := HS.out.2.2.2.1 bs os rfl
              have y0 := HRD.out _ _ _ hbs2 (by omega) s0
              have y3 := HRD.out _ _ _ hbs2 (by omega) s3
              have x0 := HRD.out _ _ _ (by omega) (by omega) q0
              obtain ⟨Ar, cr, eF, hr⟩ := OwnR.sl (HK.out.2.2.1.own i hli)
              have hMi := HK.out.2.2.2.1 i hli
              have hPl : (P i).length = CU.length := HK.out.2.1.rows _ (List.mem_of_getElem? hMi)
              unfold RecsAt at hr
              rw [flat_oneI] at hr
              obtain ⟨b2, o2, rfl, hb2, e2⟩ := hr.num (j := k) (by omega)
              have hown2 := HK.out.2.2.1.own i hli
              rw [eF] at hown2
              have hb22 := own_lo hown2
              have e1 := HK.out.2.2.1.cell i hli
              rw [eF, hPl] at e1
              have hgb0 := HK.out.2.2.2.2.1
              have hroom := HK.out.2.2.1.room
              have e1 : wr.cell? ⟨gb, i, none⟩ = some (.slice (some ⟨b2, o2, none⟩) CU.length cr) := HRD.out _ _ _ (by omega) (by omega) ((HM.out.2.2.2.2.cell (p := ⟨gb, i, none⟩) (by simp only; omega)).trans e1)
              have e2 := HRD.out _ _ _ (by omega) (by omega) ((HM.out.2.2.2.2.cell (p := ⟨b2, o2 + k, none⟩) hb2).trans e2)
              have hcf : mF (P i) k = cF M i k := by unfold cF; rw [hMi]; rfl
              rw [hcf] at e2
              obtain ⟨x, hx⟩ : ∃ x, x = cF M i k := ⟨_, rfl⟩
              rw [← hx] at e2
              have HCH : Hid (choP (ss.map strip) CU M m i = some ⟨s.inc, s.kind, u.id, x⟩) := Lib.hid (by
                rw [hx]
                exact choP_some (s := strip s) HJ.out (by rw [List.getElem?_map, hsi]; rfl) huk)
              have HSI := Lib.hid hsi
              have HUK := Lib.hid huk
              have hwz : w5.heap.size ≤ wr.heap.size := HA.out.on.size
              have n0 : bs < wr.heap.size ∧ bu < wr.heap.size ∧ gb < wr.heap.size ∧ b2 < wr.heap.size := ⟨by omega, by omega, by omega, by omega⟩
              have n1 : ¬ bs = wr.heap.size ∧ ¬ bu = wr.heap.size ∧ ¬ gb = wr.heap.size ∧ ¬ b2 = wr.heap.size := ⟨by omega, by omega, by omega, by omega⟩
              obtain ⟨n01, n02, n03, n04⟩ := n0
              obtain ⟨n11, n12, n13, n14⟩ := n1
              clear hsi huk hzz hz2 hz3 hz5 hb25 hbs s0 s3 hbu q0 hbu2 hbs2 eF hr hMi hPl hb2 hown2 hb22 hgb0 hroom hcf hx
              have hus : 0 < L.length := by
                have h1 : u ∈ CU := List.mem_of_getElem? HUK.out
                rw [HCU.out] at h1
                have h2 := candU_mem h1
                rw [HSPE.out] at h2
                exact List.length_pos_of_mem (spareR_mem h2)
              obtain ⟨ga, rfl⟩ := own_some HR.out.1 hus
              clear hus
              go_upto_region 15 with fail
              go_region
              clear y0 y3 x0 e1 e2 n01 n02 n03 n04 n11 n12 n13 n14
              have hvl : ∀ k, u14.ownBlock = some k → k < wr.heap.size := HA.out.ch.lt_size
              obtain ⟨W1, hW1⟩ : ∃ W, W = (wr.alloc (.cells #[.int .i64 s.inc, .int .i64 s.kind, .int .i64 u.id, .int .i64 x] 46)).drew := ⟨_, rfl⟩
              rw [← hW1]
              have hb1 : Below wr.heap.size wr W1 := by rw [hW1]; exact (below_newH wr _).drew
              have hblk : Blk W1 wr.heap.size 46 [.int .i64 s.inc, .int .i64 s.kind, .int .i64 u.id, .int .i64 x] := by rw [hW1]; exact blk_new wr [.int .i64 s.inc, .int .i64 s.kind, .int .i64 u.id, .int .i64 x] 46
              have HA1 := Lib.hid (HA.out.next hb1)
              have hf := fun (w6 : World) (hg : W1.grownBy w6 u14.ownBlock) (j : Nat) (v : Value) (hj : [Value.int .i64 s.inc, .int .i64 s.kind, .int .i64 u.id, .int .i64 x][j]? = some v) => (grown_cell hg (a := ⟨wr.heap.size, j, none⟩) hblk.lt (fun e => Nat.lt_irrefl _ (hvl _ e))).trans (hblk.cell hj)
              have HF := Lib.hid (fun (w6 : World) (hg : W1.grownBy w6 u14.ownBlock) => And.intro (hf w6 hg 0 _ rfl) (And.intro (hf w6 hg 1 _ rfl) (And.intro (hf w6 hg 2 _ rfl) (hf w6 hg 3 _ rfl))))
              have r0 := hblk.cell (j := 0) rfl
              have r1 := hblk.cell (j := 1) rfl
              have r2 := hblk.cell (j := 2) rfl
              have r3 := hblk.cell (j := 3) rfl
              have hw1 : w.heap.size ≤ W1.heap.size := Nat.le_trans (Nat.le_trans HR.out.2.2.size HB5.out.size) (Nat.le_trans hwz hb1.size)
              have hcl1 : (cs ++ choTo (ss.map strip) CU M m i).length ≤ 512 := by
                have h1 := HRUN.out.2.1
                have h2 := choTo_len (ss.map strip) CU M m i
                rw [List.length_append]
                omega
              clear hf hblk hb1 hvl hW1
              obtain ⟨D, hD⟩ : ∃ D, D = choTo (ss.map strip) CU M m i := ⟨_, rfl⟩
              have HD : Hid (choTo (ss.map strip) CU M m (i + 1) = D ++ [⟨s.inc, s.kind, u.id, x⟩]) := Lib.hid (by rw [hD]; exact choTo_yes HCH.out)
              rw [← hD] at HA1 hcl1
              clear hD HA HCH
              go_wp2_with (at_builtin; refine wpList_append_recL _ rfl (.tmp 90) (.tmp 92) 34 rfl w.heap.size 46 Tryd.underlying34 cho_info rfl (by decide) (by decide) cellsCh_len _ (cs ++ D) W1 ⟨s.inc, s.kind, u.id, x⟩ (cellsCh_one _) _ rfl rfl rfl HA1.out.ch _ rfl rfl (by omega) hw1 ?_; intro gc cap w6 hown6 hg6 hat6; obtain ⟨f0, f1, f2, f3⟩ := HF.out w6 hg6)
              have HM6 := Lib.hid (HA1.out.push hown6 hg6 rfl hat6)
              have HSN : Hid (Calls Tryd.prog 31 #[.slice (some ⟨ga, 0, none⟩) us.length cs0, .agg #[.int .i64 s.inc, .int .i64 s.kind, .int .i64 u.id, .int .i64 x]] w6 (RetSend w6 w.heap.size ga us.length cs0 (D.foldl sendU L) ⟨s.inc, s.kind, u.id, x⟩)) := Lib.hid (send_any w6 w.heap.size ga us.length cs0 _ ⟨s.inc, s.kind, u.id, x⟩ (by rw [sendAll_len, HRUN.out.2.2.1]; omega) HM6.out.st)
              ((with_reducible refine HSN.out.mono ?_))
              rintro e w7 ⟨rfl, t1, t2⟩
              have HI7 := Lib.hid (HM6.out.send t1 rfl t2)
              clear HSN t1 t2 hown6 hg6 hat6 f0 f1 f2 f3 r0 r1 r2 r3
              go_wp2_with fail
              go_roundw
              case rel =>
                refine ⟨i + 1, by omega, by go_num, ?_⟩
                rw [HD.out]
                have h7 := HI7.out
                rw [List.length_append] at h7
                exact h7
              case measure => simp [intOf]; omega
          · obtain rfl : i = ss.length := by omega
            have hst : StepR n E ts xs ps rsv g L (choTo (ss.map strip) CU M m ss.length) ((choTo (ss.map strip) CU M m ss.length).foldl sendU L) := by
              refine ⟨M, m, ?_, ?_, ?_, ?_, rfl⟩
              · rw [← HS.out.2.2.1, ← HSPE.out, ← HCU.out]
                exact HK.out.2.1
              · rw [← HS.out.2.2.1, List.length_map]
                exact HM.out.2.2.1
              · rw [← HS.out.2.2.1, ← HSPE.out, ← HCU.out, List.length_map]
                exact HM.out.2.2.2.1
              · rw [← HS.out.2.2.1, ← HSPE.out, ← HCU.out, List.length_map]
            have HST := Lib.hid hst
            clear hst
            go_wp2_with fail
            go_roundw
            case rel =>
              refine ⟨g + 1, cs ++ choTo (ss.map strip) CU M m ss.length, _, by omega, by omega, by go_num, Lib.hid ⟨?_, ?_, ?_, ?_⟩, HA.out.st, HA.out.ch, HR.out.2.2.trans (HA.out.below HR.out.2.2.size HB5.out HLO.out.2.2.1 HLO.out.2.2.2)⟩
              · rw [urgs_next hg1]
                exact HRUN.out.1.snoc HST.out
              · have h1 := HRUN.out.2.1
                have h2 := HST.out.len.1
                rw [List.length_append]
                omega
              · rw [HST.out.len.2, HRUN.out.2.2.1]
              · refine sendAll_wf HRUN.out.2.2.2 (fun c hc => ?_)
                obtain ⟨i', j', s', u', _, _, hs', _, rfl⟩ := choTo_mem hc
                have hm := List.mem_of_getElem? hs'
                rw [HS.out.2.2.1] at hm
                obtain ⟨y, hy, _, e, _⟩ := slotsL_mem (slotsU_mem hm).1
                simp only [e]
                exact (HWF.out y hy).id
            case measure => simp [intOf]; omega
    · obtain rfl : g = 6 := by omega
      go_wp2_with fail
      go_ret
      exact ⟨_, cs, L, rfl, HRUN.out.1, HR.out.2.1, by have := HRUN.out.2.1; omega, HR.out.2.2⟩
end
section
open Go.RowKit Go.Maps

theorem d_assign (w1 : World) (p : Nat) (hg : GraphAt w1 w1.heap.size p 2 dE) :
    Calls Tryd.prog 15 #[.pointer (some ⟨p, 0, none⟩), .slice (some ⟨w1.heap.size, 0, none⟩) 1 1, .slice (some ⟨w1.heap.size + 1 + 1, 0, none⟩) 1 1, .slice (some ⟨w1.heap.size + 1 + 1 + 1, 0, none⟩) 1 1, .slice none 0 0, .int .i64 1]
      ((((w1.alloc (.cells #[.int .i64 5] 2)).alloc (.cells #[.int .i64 1] 3)).alloc (.cells #[.int .i64 7, .int .i64 1, .string ⟨#[120]⟩, .slice (some ⟨w1.heap.size + 1, 0, none⟩) 1 1, .int .i64 0, .int .i64 0, .slice none 0 0, .slice none 0 0, .int .i64 0, .bool false] 38)).alloc
        (.cells #[.int .i64 3, .int .i64 1, .int .i64 0, .int .i64 1, .int .i64 0, .int .i64 0, .int .i64 0, .int .i64 0, .int .i64 0, .int .i64 0] 44))
      fun e w' => ∃ v B, e = .returned v ∧ OwnCh w' B 46 v [⟨7, 1, 3, 5⟩] ∧ Below w1.heap.size w1 w' := by
  obtain ⟨W1, hW1⟩ : ∃ W, W = w1.alloc (.cells #[.int .i64 5] 2) := ⟨_, rfl⟩
  rw [← hW1]
  obtain ⟨W2, hW2⟩ : ∃ W, W = W1.alloc (.cells #[.int .i64 1] 3) := ⟨_, rfl⟩
  rw [← hW2]
  obtain ⟨W3, hW3⟩ : ∃ W, W = W2.alloc (.cells #[.int .i64 7, .int .i64 1, .string ⟨#[120]⟩, .slice (some ⟨w1.heap.size + 1, 0, none⟩) 1 1, .int .i64 0, .int .i64 0, .slice none 0 0, .slice none 0 0, .int .i64 0, .bool false] 38) := ⟨_, rfl⟩
  rw [← hW3]
  obtain ⟨W4, hW4⟩ : ∃ W, W = W3.alloc (.cells #[.int .i64 3, .int .i64 1, .int .i64 0, .int .i64 1, .int .i64 0, .int .i64 0, .int .i64 0, .int .i64 0, .int .i64 0, .int .i64 0] 44) := ⟨_, rfl⟩
  rw [← hW4]
  have z1 : W1.heap.size = w1.heap.size + 1 := by rw [hW1]; simp
  have z2 : W2.heap.size = w1.heap.size + 1 + 1 := by rw [hW2]; simp [z1]
  have z3 : W3.heap.size = w1.heap.size + 1 + 1 + 1 := by rw [hW3]; simp [z2]
  have b4 : Below W3.heap.size W3 W4 := by rw [hW4]; exact below_newH _ _
  have b3 : Below W2.heap.size W2 W4 := (show Below W2.heap.size W2 W3 by rw [hW3]; exact below_newH _ _).trans (b4.mono (by omega))
  have b2 : Below W1.heap.size W1 W4 := (show Below W1.heap.size W1 W2 by rw [hW2]; exact below_newH _ _).trans (b3.mono (by omega))
  have b1 : Below w1.heap.size w1 W4 := (show Below w1.heap.size w1 W1 by rw [hW1]; exact below_newH _ _).trans (b2.mono (by omega))
  have s1 : Sl W4 W4.heap.size (some ⟨w1.heap.size, 0, none⟩) (([5] : List Int).map (Value.int .i64)) := by
    have h := Sl.lit w1 [.int .i64 5] 2 rfl
    rw [← hW1] at h
    exact (h.below b2).more b2.size
  have s2 : Sl W4 W4.heap.size (some ⟨w1.heap.size + 1, 0, none⟩) (([1] : List Int).map (Value.int .i64)) := by
    have h := Sl.lit W1 [.int .i64 1] 3 rfl
    rw [← hW2, z1] at h
    exact (h.below b3).more b3.size
  have s3 : IncsAt W4 W4.heap.size (some ⟨w1.heap.size + 1 + 1, 0, none⟩) [dI (some ⟨w1.heap.size + 1, 0, none⟩)] := by
    have h := RecsAt.lit (cs := cellsI) W2 [dI (some ⟨w1.heap.size + 1, 0, none⟩)] 38 rfl _ rfl
    have e : W2.alloc (.cells (([dI (some ⟨w1.heap.size + 1, 0, none⟩)].flatMap cellsI).toArray) 38) = W3 := hW3.symm
    rw [e, z2] at h
    exact (h.below b4).more b4.size
  have s4 : UnitsAt W4 W4.heap.size (some ⟨w1.heap.size + 1 + 1 + 1, 0, none⟩) [dU] := by
    have h := RecsAt.lit (cs := cellsU) W3 [dU] 44 rfl _ rfl
    have e : W3.alloc (.cells (([dU].flatMap cellsU).toArray) 44) = W4 := hW4.symm
    rw [e, z3] at h
    exact h
  refine (assign_any p 2 dE (some ⟨w1.heap.size, 0, none⟩) (some ⟨w1.heap.size + 1 + 1, 0, none⟩) (some ⟨w1.heap.size + 1 + 1 + 1, 0, none⟩) none 1 1 1 0 [5] [dI (some ⟨w1.heap.size + 1, 0, none⟩)] [dU] [] 1 W4 ((hg.below b1).more b1.size) (by decide) (by decide) (fun e he => ?_) s1 s3 (fun x hx => ?_) (fun x hx => ?_) (show 1 ≤ 19 by decide) (fun x hx => ?_) s4 (fun u hu => ?_) (by decide) (fun h => by cases h) (fun i p h => by simp at h) (by decide) rfl).mono ?_
  · simp only [dE, List.mem_cons, List.not_mem_nil, or_false] at he
    subst he
    exact ⟨by simp, by simp⟩
  · rw [List.mem_singleton] at hx
    subst hx
    exact s2
  · rw [List.mem_singleton] at hx
    subst hx
    exact ⟨rfl, show 1 ≤ 9223372036854775807 by decide, show 1 ≤ 1 by decide, show 1 ≤ 9223372036854775807 by decide, (fun h => by cases h), show 0 ≤ 9223372036854775807 by decide, show 0 ≤ 9223372036854775807 by decide⟩
  · rw [List.mem_singleton] at hx
    subst hx
    exact (show 1 ≤ 1000 by decide)
  · rw [List.mem_singleton] at hu
    subst hu
    exact ⟨rfl, rfl, rfl, rfl⟩
  · rintro e w' ⟨v, cs, us', rfl, hrun, hown, _, hb⟩
    obtain ⟨us2, h2⟩ := d_run (some ⟨w1.heap.size + 1, 0, none⟩)
    obtain ⟨rfl, _⟩ := hrun.unique h2
    exact ⟨v, _, rfl, hown, b1.trans (hb.mono b1.size)⟩
set_option maxRecDepth 100000 in
set_option maxHeartbeats 4000000 in
theorem awake38_any (w : World) (hr : Ready w) : Calls Tryd.prog 8 #[] w fun e w' => e = .returned (.bool true) ∧ Below w.heap.size w w' := by
  have HB1 := Lib.hid ((Below.refl w.heap.size w).alloc (Nat.le_refl _) (.cells #[.int .i64 0, .int .i64 1, .int .i64 5] 55))
  have hnew : Calls Tryd.prog 14 #[.int .i64 2, .slice (some ⟨w.heap.size, 0, none⟩) 1 1] (w.alloc (.cells #[.int .i64 0, .int .i64 1, .int .i64 5] 55)) _ := new_any 2 (some ⟨w.heap.size, 0, none⟩) 1 dE (w.alloc (.cells #[.int .i64 0, .int .i64 1, .int .i64 5] 55)) (by decide) (by decide) (by decide) (RecsAt.lit w dE 55 rfl _ rfl) (fun h => by cases h) (fun e he => by
    simp only [dE, List.mem_cons, List.not_mem_nil, or_false] at he
    subst he
    exact ⟨by simp, by simp, by simp, by simp, by simp⟩)
  have HN := Lib.hid hnew
  have HR := Lib.hid hr
  clear hnew hr
  go_enter Tryd.func8, Tryd.ntmps8
  go_wp2_with fail
  ((with_reducible refine HN.out.mono ?_))
  rintro e w1 ⟨p, rfl, hg, _, hb1⟩
  have HW1 := Lib.hid (HB1.out.trans (hb1.mono HB1.out.size))
  have HG := Lib.hid hg
  clear hg hb1 HN HB1
  go_wp2_with fail
  ((with_reducible refine (d_assign w1 p HG.out).mono ?_))
  rintro e w2 ⟨v, B, rfl, hown, hb2⟩
  obtain ⟨A2, c2, rfl, hs2⟩ := hown.sl
  obtain ⟨b2, o2, rfl, hb, hc⟩ := RecsAt.at cellsCh_len hs2 (i := 0) rfl (by decide)
  have k0 := hc 0 _ rfl
  have k1 := hc 1 _ rfl
  have k2 := hc 2 _ rfl
  have k3 := hc 3 _ rfl
  simp only [Nat.zero_mul, Nat.add_zero] at k0 k1 k2 k3
  have HW2 := Lib.hid (HW1.out.trans (hb2.mono HW1.out.size))
  have HF := Lib.hid (format38_any ⟨7, 1, 3, 65⟩ w2 ⟨by decide, by decide, by decide⟩ (HR.out.below HW2.out))
  clear hown hs2 hc hb2 HG
  go_wp2_with fail
  ((with_reducible refine HF.out.mono ?_))
  rintro e w3 ⟨rfl, hb3⟩
  have j0 := (hb3.cell (p := ⟨b2, o2, none⟩) hb).trans k0
  have j1 := (hb3.cell (p := ⟨b2, o2 + 1, none⟩) hb).trans k1
  have j2 := (hb3.cell (p := ⟨b2, o2 + 2, none⟩) hb).trans k2
  have j3 := (hb3.cell (p := ⟨b2, o2 + 3, none⟩) hb).trans k3
  have HW3 := Lib.hid (HW2.out.trans (hb3.mono HW2.out.size))
  clear hb3 k0 k1 k2 k3 HF
  rw [d_text]
  go_wp2_with fail
  go_ret
  exact ⟨rfl, HW3.out⟩
end
section
open Go.ChangeShapes Go.WideShapes Go.ChangeAt Go.RowKit
section
variable {H : Type} {enc : TypeId × Value → H}
set_option maxRecDepth 100000 in
theorem open_cho {W : World} {r : _} {b0 : Nat} {v : Value} {d : DataW H} {p : List MemPlace} {base : Nat} {spare : Nat → Bool} {held : Bool}
    (hv : Value.okWide Tryd.prog W r b0 46 v) (h : DataW.Trod enc Tryd.prog W base spare held 46 v d p) :
    ∃ c : ChoT, v = .agg #[.int .i64 c.inc, .int .i64 c.kind, .int .i64 c.unit, .int .i64 c.time] ∧ ChoWf c := by
  obtain ⟨cs, rfl, hsz⟩ := okWide_struct Tryd.underlying46 hv
  have hC : Tryd.prog.cellsOf 46 = 4 := by kernel_rfl
  have hC2 : Tryd.prog.cellsOf 2 = 1 := by kernel_rfl
  have hC3 : Tryd.prog.cellsOf 3 = 1 := by kernel_rfl
  obtain ⟨l⟩ := cs
  match l, hsz.trans hC with
  | [c0, c1, c2, c3], _ =>
    obtain ⟨fuel, hf⟩ := h
    obtain ⟨xs, n, _, hx, _, hlen, hg⟩ := DataW.trod_struct Tryd.underlying46 hf
    match xs, hlen with
    | [y0, y1, y2, y3], _ =>
      have g0 := hg 0 _ rfl
      have g1 := hg 1 _ rfl
      have g2 := hg 2 _ rfl
      have g3 := hg 3 _ rfl
      simp only [Value.cells, List.getElem?_cons_zero, List.getElem?_cons_succ] at g0 g1 g2 g3
      obtain ⟨z0, e0, _, k0⟩ := DataW.trod_int Tryd.underlying2 g0
      obtain ⟨z1, e1, _, k1⟩ := DataW.trod_int Tryd.underlying3 g1
      obtain ⟨z2, e2, _, k2⟩ := DataW.trod_int Tryd.underlying3 g2
      obtain ⟨z3, e3, _, k3⟩ := DataW.trod_int Tryd.underlying2 g3
      simp [hC2, hC3] at e0 e1 e2 e3
      subst e0 e1 e2 e3
      simp [Lit.wf] at k0 k1 k2
      exact ⟨⟨z0, z1, z2, z3⟩, rfl, ⟨k0, k2, k1⟩⟩
end
end
section
open Go.ChangeShapes Go.WideShapes Go.ChangeAt Go.RowKit

theorem own : ownKnob Tryd.prog.godebug = none := by kernel_rfl
theorem laidOut : laidOutB Tryd.prog = true := by kernel_rfl
theorem room_of {W : World} (h : W.ShapedOpen Tryd.prog) : Tryd.prog.globals.size ≤ W.heap.size := by
  obtain ⟨o, o₀, h1, _⟩ := h.2 Tryd.prog.globals.size (Nat.le_refl _) (of_decide_eq_true (by kernel_rfl))
  exact Nat.le_of_lt (Array.getElem?_eq_some_iff.1 h1).1
section
variable {P : Program}
theorem strs_cells {H : Type} {enc : TypeId × Value → H} {w : World} {base : Nat} {sp : Nat → Bool} {held : Bool} {fuel : Nat} {t e : TypeId} {n : Nat} {cs : List Value} {zs : List (List UInt8)} {p : List MemPlace}
    (ht : P.underlying t = some (.array n e)) (he : P.underlying e = some .string) (hce : P.cellsOf e = 1)
    (h : DataW.trod enc P w base sp held fuel t cs = some (.agg (zs.map fun z => .lit (.string z)), p)) : ∀ (i : Nat) (z : List UInt8), zs[i]? = some z → cs[i]? = some (.string (bs z)) := by
  obtain ⟨xs, m, _, hx, _, hl, hat⟩ := DataW.trod_array ht h
  have hxs : xs.map (·.1) = zs.map fun z => (DataW.lit (.string z) : DataW H) := by
    have := congrArg Prod.fst hx
    simpa using this.symm
  intro i z hz
  have hi : i < n := by
    have h1 := (List.getElem?_eq_some_iff.1 hz).1
    have h2 := congrArg List.length hxs
    simp at h2
    omega
  have h1 := hat i hi
  rw [hce, Nat.mul_one, List.getElem?_eq_getElem (by omega)] at h1
  obtain ⟨s, hcs, hxe, _⟩ := DataW.trod_string he h1
  have h2 : (xs.map (·.1))[i]? = some (DataW.lit (.string s.data.toList) : DataW H) := by
    rw [List.getElem?_map, List.getElem?_eq_getElem (by omega), hxe]
    rfl
  rw [hxs, List.getElem?_map, hz] at h2
  simp only [Option.map_some, Option.some.injEq, DataW.lit.injEq, Lit.string.injEq] at h2
  have h3 : cs[i]? = some (.string s) := by
    have := congrArg (·[0]?) hcs
    simpa [List.getElem?_take, List.getElem?_drop] using this
  rw [h3, h2, ← bs_of s]
end
theorem names_of {W : World} {r : List (String × DataW Unit)} (h : laidMet Tryd.prog (("samaritan/dispatch.kindNames", .agg [.lit (.string [98, 97, 115, 105, 99]), .lit (.string [100, 111, 99, 116, 111, 114]), .lit (.string [99, 97, 114]), .lit (.string [97, 105, 114])]) :: r) W) : NamesAt W := by
  obtain ⟨ps, ⟨g', t', cs, fuel, p, q, hg', ht', hvar, hd, _, _⟩, _⟩ := h
  obtain rfl := Option.some.inj (g_names.symm.trans hg')
  have hty : (Tryd.prog.globals[0]?).map (·.type) = some 58 := by kernel_rfl
  obtain rfl := Option.some.inj (hty.symm.trans ht')
  have key := strs_cells (zs := [[98, 97, 115, 105, 99], [100, 111, 99, 116, 111, 114], [99, 97, 114], [97, 105, 114]]) Tryd.underlying58 Tryd.underlying9 (by kernel_rfl) hd
  have cell : ∀ (i : Nat) z, ([[98, 97, 115, 105, 99], [100, 111, 99, 116, 111, 114], [99, 97, 114], [97, 105, 114]] : List (List UInt8))[i]? = some z → W.cell? ⟨0, i, none⟩ = some (.string (bs z)) := by
    intro i z hz
    have := World.var?_cell g_names hvar i
    rw [this]
    have h2 := key i z hz
    simpa using h2
  exact ⟨cell 0 _ rfl, cell 1 _ rfl, cell 2 _ rfl, cell 3 _ rfl⟩
theorem ready_of {W : World} {r1 r2 : List (String × DataW Unit)}
    (h1 : laidMet Tryd.prog (("internal/strconv.uint64pow10", Lib.tabData .u64 Lib.pow10Tab) :: r1) W) (h2 : laidMet Tryd.prog (("samaritan/dispatch.kindNames", .agg [.lit (.string [98, 97, 115, 105, 99]), .lit (.string [100, 111, 99, 116, 111, 114]), .lit (.string [99, 97, 114]), .lit (.string [97, 105, 114])]) :: r2) W) (hS : W.ShapedOpen Tryd.prog) : Ready W :=
  ⟨Lib.tabIs_of_head g_tab (by kernel_rfl) Tryd.underlying130 Tryd.underlying94 (by kernel_rfl) (by kernel_rfl) h1, room_of hS, names_of h2⟩

/-- the list that the rows of this seat share. -/
noncomputable abbrev laidList : List (String × DataW Unit) := Rows.dispatchFormatRow.laid
theorem laid_fits (os : Os) : (World.holding Tryd.prog os ⟨#[], #[], []⟩).layFits Tryd.prog laidList [] = true := by kernel_rfl
theorem laid_ifaces (os : Os) : (World.holding Tryd.prog os ⟨#[], #[], []⟩).layIfaces Tryd.prog laidList (World.laidAll Tryd.prog os laidList) = true := by kernel_rfl
theorem laid_vars (os : Os) (args : Array Value) : ((World.laidAll Tryd.prog os laidList).forCall (fun _ _ => 0) ⟨#[], args, []⟩).variablesRefB Tryd.prog = true := by kernel_rfl
theorem laid_rest (os : Os) (args : Array Value) : (((World.laidAll Tryd.prog os laidList).forCall (fun _ _ => 0) ⟨#[], args, []⟩).heap.toList.drop Tryd.prog.globals.size).take ((begin Tryd.prog (fun _ _ => 0) default).world.heap.size - Tryd.prog.globals.size) =
    (begin Tryd.prog (fun _ _ => 0) default).world.heap.toList.drop Tryd.prog.globals.size := by kernel_rfl
end
end Go.Proofs.YtimijjhdgihobaaDoor
