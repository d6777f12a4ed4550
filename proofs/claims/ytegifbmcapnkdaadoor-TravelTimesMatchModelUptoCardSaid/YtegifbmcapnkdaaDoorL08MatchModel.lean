/-
  samaritanlaw08.TravelTimesMatchModel returns true for every input whose reading is of bulk at most 1048576, and the arguments read afterwards as before.
  Conditions: those of the given row (its list of package variables), tied to the program's text by the given tie; the card speaks of the pruned copy of the project that the seat was translated from.
-/
import Derived.Test.YtegifbmcapnkdaaDoorCards
import Derived.Test.YtegifbmcapnkdaaDoorTie
import Derived.Test.YtegifbmcapnkdaaDoorMatch
import Derived.Test.YtegifbmcapnkdaaDoorAlive
import Derived.Test.YtegifbmcapnkdaaDoorRefI
import Derived.Test.YtegifbmcapnkdaaDoorOpenC
import Derived.Test.YtegifbmcapnkdaaDoorLift
import Derived.Test.YtegifbmcapnkdaaDoorLaidT
import Derived.OpenShut
import Derived.Deep.DeepHandedRow
namespace Go.Proofs.YtegifbmcapnkdaaDoor.l08MatchModel
open Go.ChangeShapes Go.WideShapes Go.ChangeAt Go.RowKit Go.Maps
open Go.ChangeMaps (open_string shut_string)

set_option maxRecDepth 100000 in
set_option maxHeartbeats 4000000 in
theorem walk (w : World) (A0 : Option Addr) (zs : List Int) (c0 : Nat) (hs0 : Sl w w.heap.size A0 (zs.map (Value.int .i64))) (hN : zs.length ≤ 1048576) (A1 : Option Addr) (l : List ChgT) (c1 : Nat) (hl1 : ChgsAt w w.heap.size A1 l) (A2 : Option Addr) (ts : List Int) (c2 : Nat) (ht2 : Sl w w.heap.size A2 (ts.map (Value.int .i64))) (hr : Ready w) :
    Calls Tryd.prog 5 #[.slice A0 zs.length c0, .slice A1 l.length c1, .slice A2 ts.length c2] w fun e w' => e = .returned (.bool true) ∧ Below w.heap.size w w' := by
  have HS0 := Lib.hid hs0
  have HL1 := Lib.hid hl1
  have HT2 := Lib.hid ht2
  have hal := alive_any w hr
  have HAL := Lib.hid hal
  clear hs0 hl1 ht2 hal hr
  go_enter Tryd.func5, Tryd.ntmps5
  go_wp2_with fail
  refine HAL.out.mono ?_
  rintro e w1 ⟨rfl, hb1⟩
  have HB1 := Lib.hid hb1
  clear hb1
  go_wp2_with fail
  refine (made_any w1 A0 c0 zs ((HS0.out.below HB1.out).more HB1.out.size) hN).mono ?_
  rintro e w2 ⟨hb2, h⟩
  have HB2 := Lib.hid (HB1.out.trans (hb2.mono HB1.out.size))
  clear hb2
  rcases h with ⟨hok, h30, gp, p, cb, B, rfl, hB, ht⟩ | ⟨_, rfl⟩
  · obtain ⟨E, hE⟩ : ∃ E, E = ringE zs := ⟨_, rfl⟩
    have hEl : zs.length = E.length := by rw [hE, ringE_len]
    have hEm : E.map EdgeT.tm = zs := by rw [hE, ringE_tm]
    rw [← hE] at ht
    have hst := mboth_start (fc := c0) HB2.out (Nat.le_trans HB1.out.size hB) ht (by rw [hEm]; exact HS0.out)
    rw [hEl] at h30 ⊢
    have HST := Lib.hid hst
    have HBB := Lib.hid (HB2.out.alloc HB2.out.size (.cells #[.slice A0 E.length c0, .slice none 0 0] 30))
    have HwB := Lib.hid (Nat.le_trans HB1.out.size hB)
    clear hst hok hE hEm ht hEl hN
    by_cases hl60 : 60 < l.length
    · have d0 : decide ((60 : Int) < (l.length : Int)) = true := by simp; omega
      go_wp2_with fail
      go_ret
      exact ⟨rfl, HBB.out⟩
    · have d0 : decide ((60 : Int) < (l.length : Int)) = false := by simp; omega
      by_cases ht20 : 20 < ts.length
      · have d1 : decide ((20 : Int) < (ts.length : Int)) = true := by simp; omega
        go_wp2_with fail
        go_ret
        exact ⟨rfl, HBB.out⟩
      · have d1 : decide ((20 : Int) < (ts.length : Int)) = false := by simp; omega
        go_wp2_with fail
        obtain ⟨rb, hrb⟩ : ∃ rb, rb = w2.heap.size := ⟨_, rfl⟩
        obtain ⟨W2, hW2⟩ : ∃ W2, W2 = w2.alloc (.cells #[.slice A0 E.length c0, .slice none 0 0] 30) := ⟨_, rfl⟩
        rw [← hW2, ← hrb] at HST
        rw [← hW2, ← hrb]
        obtain ⟨m, hm⟩ : ∃ m, m = l.length := ⟨_, rfl⟩
        have HM := Lib.hid hm
        rw [← hm] at hl60 ⊢
        clear hrb hW2 hm HBB d0 d1 HB2 HB1 HAL
        go_loopw [12, 13, 14, 44] (fun _ _ _ iv wr => ∃ k : Nat, k ≤ m ∧ iv = .int .i64 k ∧ MBoth w B gp 5 E p cb (putAll E.length [] (l.take k)) A0 c0 rb wr) (fun _ _ _ i _ => m - (intOf i).toNat)
        case atStart => exact ⟨0, Nat.zero_le _, rfl, HST.out⟩
        case round =>
          obtain ⟨k, hk, rfl, hat⟩ := hrel
          obtain ⟨Lk, hLk⟩ : ∃ Lk, Lk = putAll E.length [] (l.take k) := ⟨_, rfl⟩
          have HLK := Lib.hid hLk
          rw [← hLk] at hat
          have hLkl : Lk.length ≤ k := by
            rw [hLk]
            have h1 := putAll_len E.length (l.take k) []
            have h2 := List.length_take_le k l
            simp only [List.length_nil] at h1
            omega
          clear hLk
          obtain ⟨F1, LA1, lc1, hboth, r1, hF1, hap⟩ := hat.both
          have HAT := Lib.hid hat
          have HBOTH := Lib.hid hboth
          have HFF := Lib.hid (And.intro r1 (And.intro hF1 hap))
          have q0 := hat.c0
          have f0 := hat.f0
          have f1 := hat.f1
          have hrz := hat.lt
          have hrne : ¬ rb = wr.heap.size := by omega
          by_cases hlt : k < m
          · obtain ⟨d, hd⟩ : ∃ d, l[k]? = some d := ⟨l[k]'(by have := HM.out; omega), by simp⟩
            have HD := Lib.hid hd
            obtain ⟨b, o, rfl, _, x0, x1, x2⟩ := chg_at (HL1.out.below hat.below) hd
            obtain ⟨W1, hW1⟩ : ∃ W1, W1 = wr.alloc (.cells #[.int .i64 d.tick, .int .i64 d.edge, .int .i64 d.time] 25) := ⟨_, rfl⟩
            have hz1 : W1.heap.size = wr.heap.size + 1 := by rw [hW1]; simp
            have hb1 : Below wr.heap.size wr W1 := by rw [hW1]; exact (Below.refl _ _).alloc (Nat.le_refl _) _
            have e0 : W1.cell? ⟨wr.heap.size, 0, none⟩ = some (.int .i64 d.tick) := by rw [hW1, World.cell?_alloc_at (hn := rfl)]; rfl
            have e1 : W1.cell? ⟨wr.heap.size, 0 + 1, none⟩ = some (.int .i64 d.edge) := by rw [hW1, World.cell?_alloc_at (hn := rfl)]; rfl
            have e2 : W1.cell? ⟨wr.heap.size, 0 + 2, none⟩ = some (.int .i64 d.time) := by rw [hW1, World.cell?_alloc_at (hn := rfl)]; rfl
            have HE := Lib.hid (And.intro e0 (And.intro e1 e2))
            have HW1 := Lib.hid hW1
            have HB1 := Lib.hid hb1
            have HZ1 := Lib.hid hz1
            clear hat hboth hF1 hap hd hW1 hz1 hb1 e0 e1 e2
            go_wp2_with fail
            rw [← HW1.out]
            refine (put_any W1 (HBOTH.out.below HB1.out).roads c0 d (by omega)).mono ?_
            rintro e w3 ⟨LA2, lc2, rfl, hr2, hd2, hb2⟩
            have HR2 := Lib.hid hr2
            have HD2 := Lib.hid hd2
            have hzw : wr.heap.size < w3.heap.size := by have := hb2.size; have := HZ1.out; omega
            have hzw' : ¬ wr.heap.size = w3.heap.size := by omega
            have e0 : w3.cell? ⟨wr.heap.size, 0, none⟩ = some (.int .i64 d.tick) := (hb2.cell (p := ⟨wr.heap.size, 0, none⟩) (by show wr.heap.size < _; have := HZ1.out; omega)).trans HE.out.1
            have e1 : w3.cell? ⟨wr.heap.size, 0 + 1, none⟩ = some (.int .i64 d.edge) := (hb2.cell (p := ⟨wr.heap.size, 0 + 1, none⟩) (by show wr.heap.size < _; have := HZ1.out; omega)).trans HE.out.2.1
            have e2 : w3.cell? ⟨wr.heap.size, 0 + 2, none⟩ = some (.int .i64 d.time) := (hb2.cell (p := ⟨wr.heap.size, 0 + 2, none⟩) (by show wr.heap.size < _; have := HZ1.out; omega)).trans HE.out.2.2
            have hb3 : Below wr.heap.size wr w3 := HB1.out.trans (hb2.mono (by have := HZ1.out; omega))
            have y0 : w3.cell? ⟨rb, 0, none⟩ = some (.slice A0 E.length c0) := (hb3.cell (p := ⟨rb, 0, none⟩) hrz).trans q0
            have y1 : w3.cell? ⟨rb, 0 + 1, none⟩ = some (.slice LA1 Lk.length lc1) := (hb3.cell (p := ⟨rb, 0 + 1, none⟩) hrz).trans r1
            have z0 : w3.frozen? ⟨rb, 0, none⟩ = false := (hb3.frozen (p := ⟨rb, 0, none⟩) hrz).trans f0
            have z1 : w3.frozen? ⟨rb, 0 + 1, none⟩ = false := (hb3.frozen (p := ⟨rb, 0 + 1, none⟩) hrz).trans f1
            have hrz3 : rb < w3.heap.size := by omega
            have hrne3 : ¬ rb = w3.heap.size := by omega
            have hrw : ¬ rb = wr.heap.size := by omega
            have hwr : ¬ wr.heap.size = rb := by omega
            have HB3 := Lib.hid hb3
            clear hr2 hd2 hb2 hb3 q0 r1 f0 f1
            go_wp2_with fail
            have hmid := fun (w5 : World) (hb5 : Below (putRoads w3 rb (.slice A0 E.length c0) (.slice LA2 (putL E.length Lk d).length lc2)).heap.size (putRoads w3 rb (.slice A0 E.length c0) (.slice LA2 (putL E.length Lk d).length lc2)) w5) => append_any (mboth_mid HAT.out HBOTH.out HFF.out.2.1 HB3.out hb5) d (by omega)
            refine (hmid _ ((Below.refl _ _).alloc (Nat.le_refl _) _)).mono ?_
            clear hmid
            rintro e w4 ⟨rfl, F4, t4, h4, hF4, _⟩
            have HFIN := Lib.hid (mboth_step HwB.out HAT.out HBOTH.out HFF.out.1 HFF.out.2.1 HFF.out.2.2 HR2.out (HD2.out.imp id (fun hh b o e => by have := hh b o e; have := HZ1.out; omega)) HB3.out ((Below.refl _ _).alloc (Nat.le_refl _) _) t4 h4 hF4)
            have HPT := Lib.hid (putAll_take (m := E.length) (L := []) HD.out)
            clear t4 h4 hF4 e0 e1 e2 y0 y1 z0 z1
            go_wp2_with fail
            go_roundw
            case rel =>
              refine ⟨k + 1, by omega, by go_num, ?_⟩
              rw [HPT.out, ← HLK.out]
              exact HFIN.out
            case measure => simp [intOf]; omega
          · have hkk : k = m := by omega
            subst hkk
            clear hat hboth hF1 hap q0 f0 f1 r1
            go_wp2_with fail
            obtain ⟨wz, rfl⟩ : ∃ wz, wz = wr := ⟨_, rfl⟩
            obtain ⟨m2, hm2⟩ : ∃ m2, m2 = ts.length := ⟨_, rfl⟩
            have HM2 := Lib.hid hm2
            rw [← hm2] at ht20 ⊢
            clear hm2
            go_loopw [16, 17, 18, 19, 20, 63] (fun _ _ _ _ _ iv wr => ∃ k2 : Nat, k2 ≤ m2 ∧ iv = .int .i64 k2 ∧ Below wz.heap.size wz wr) (fun _ _ _ _ _ i _ => m2 - (intOf i).toNat)
            case atStart => exact ⟨0, Nat.zero_le _, rfl, Below.refl _ _⟩
            case round =>
              obtain ⟨k2, hk2, rfl, hbz⟩ := hrel
              have HBZ := Lib.hid hbz
              obtain ⟨wo, rfl⟩ : ∃ wo, wo = wr := ⟨_, rfl⟩
              have HBO := Lib.hid (HBOTH.out.below hbz)
              have HMO := Lib.hid (HAT.out.next hbz)
              have HLD := Lib.hid (show ∀ X, Below wo.heap.size wo X → X.cell? ⟨rb, 0, none⟩ = some (.slice A0 E.length c0) ∧ X.cell? ⟨rb, 0 + 1, none⟩ = some (.slice LA1 Lk.length lc1) from fun X hX => by
                have hl : rb < wz.heap.size := hrz
                have hb := HBZ.out.trans (hX.mono HBZ.out.size)
                exact ⟨(hb.cell (p := ⟨rb, 0, none⟩) hl).trans HAT.out.c0, (hb.cell (p := ⟨rb, 0 + 1, none⟩) hl).trans HFF.out.1⟩)
              by_cases hlt2 : k2 < m2
              · obtain ⟨t, ht⟩ : ∃ t, ts[k2]? = some t := ⟨ts[k2]'(by have := HM2.out; omega), by simp⟩
                obtain ⟨b2, o2, rfl, _, y0⟩ := (HT2.out.below (HAT.out.below.trans (hbz.mono HAT.out.below.size))).int ht
                clear hbz ht
                go_upto_region 17 with (fail)
                go_cut [74] (fun v wx => v = .bool false ∧ Below wo.heap.size wo wx)
                case first =>
                  obtain ⟨wd, hwd⟩ : ∃ wd, wd = wo.drew := ⟨_, rfl⟩
                  have hBd : Below wo.heap.size wo wd := by rw [hwd]; exact below_drewN (Below.refl _ _) 1
                  refine wp_region_held_drew (S := fun X => Below wo.heap.size wo X) (by kernel_rfl) (by rw [← hwd]; exact hBd) (fun hHeld => ?_)
                  rw [← hwd]
                  clear hwd hHeld
                  have hHeld := hBd
                  refine wpAnyH_take (i := 0) (v := .pointer (some ⟨p, 0, none⟩)) rfl (by kernel_rfl) (by kernel_rfl) (by kernel_rfl) (fun _ _ _ h => h) (Or.inl ⟨by rfl, ?_⟩) (by assumption) ?_
                  · intro w hSw
                    obtain ⟨s0, s1⟩ := HLD.out _ hSw
                    go_simp
                  show wpAnyH _ _ _ _ _ _ _ (Act.put _ (some 67) _) _
                  simp only [Act.put, List.setIfInBounds_toArray, List.set_cons_zero, List.set_cons_succ]
                  refine wpAnyH_take (i := 1) (v := .int .i64 t) rfl (by kernel_rfl) (by kernel_rfl) (by kernel_rfl) (fun _ _ _ h => h) (Or.inl ⟨by rfl, ?_⟩) (by assumption) ?_
                  · intro w hSw
                    obtain ⟨s0, s1⟩ := HLD.out _ hSw
                    go_simp
                  show wpAnyH _ _ _ _ _ _ _ (Act.put _ (some 68) _) _
                  simp only [Act.put, List.setIfInBounds_toArray, List.set_cons_zero, List.set_cons_succ]
                  refine wpAnyH_take (i := 3) (v := .agg #[.slice A0 E.length c0, .slice LA1 Lk.length lc1]) rfl (by kernel_rfl) (by kernel_rfl) (by kernel_rfl) (fun _ _ _ h => h) (Or.inl ⟨by rfl, ?_⟩) (by assumption) ?_
                  · intro w hSw
                    obtain ⟨s0, s1⟩ := HLD.out _ hSw
                    go_simp
                  show wpAnyH _ _ _ _ _ _ _ (Act.put _ (some 70) _) _
                  simp only [Act.put, List.setIfInBounds_toArray, List.set_cons_zero, List.set_cons_succ]
                  refine wpAnyH_take (i := 4) (v := .int .i64 t) rfl (by kernel_rfl) (by kernel_rfl) (by kernel_rfl) (fun _ _ _ h => h) (Or.inl ⟨by rfl, ?_⟩) (by assumption) ?_
                  · intro w hSw
                    obtain ⟨s0, s1⟩ := HLD.out _ hSw
                    go_simp
                  show wpAnyH _ _ _ _ _ _ _ (Act.put _ (some 71) _) _
                  simp only [Act.put, List.setIfInBounds_toArray, List.set_cons_zero, List.set_cons_succ]
                  refine wpAnyH_ready (rs := [2]) (by kernel_rfl) (by simp) ?_
                  refine AllReadyH.cons rfl (fun K hK => ?_) AllReadyH.nil
                  go_simp
                  ((with_reducible refine (all_any (HBO.out.below hBd).tab (by omega) (by omega) t).mono ?_))
                  rintro e w5 ⟨g, rfl, hg, hown5, hb5⟩
                  have hB5 := hBd.trans (hb5.mono hBd.size)
                  go_simp
                  refine hK.out _ _ hB5 (fun hHeld => ?_)
                  clear hK K hHeld
                  have hHeld := hB5
                  refine wpAnyH_ready (rs := [5]) (by kernel_rfl) (by simp) ?_
                  refine AllReadyH.cons rfl (fun K hK => ?_) AllReadyH.nil
                  go_simp
                  ((with_reducible refine (times_any (HBO.out.below hB5).roads c0 (by omega) (by omega) t).mono ?_))
                  rintro e w6 ⟨v6, rfl, hown6, hb6⟩
                  have hB6 := hB5.trans (hb6.mono hB5.size)
                  obtain ⟨A6, c6, e6, hsl6⟩ := hown6.sl
                  rw [allE_len] at e6
                  subst e6
                  obtain ⟨A5, c5, e5, hsl5⟩ := (hown5.kept_new hb6).sl
                  injection e5 with e51 e52 e53
                  subst e51
                  have hnum := numbers_any (some ⟨g, 0, none⟩) A6 E.length c6 (allE E Lk t) w6 hsl5 hsl6 (by rw [allE_len]; omega)
                  rw [allE_len] at hnum
                  have HNUM := Lib.hid hnum
                  clear hnum e52 e53 hown5 hown6 hsl5 hsl6 hb5 hb6
                  go_simp
                  refine hK.out _ _ hB6 (fun hHeld => ?_)
                  clear hK K hHeld
                  have hHeld := hB6
                  refine wpAnyH_ready (rs := [6]) (by kernel_rfl) (by simp) ?_
                  refine AllReadyH.cons rfl (fun K hK => ?_) AllReadyH.nil
                  go_simp
                  ((with_reducible refine (HNUM.out).mono ?_))
                  rintro e w7 ⟨rfl, hb7⟩
                  have hB7 := hB6.trans (hb7.mono hB6.size)
                  go_simp
                  refine hK.out _ _ hB7 (fun hHeld => ?_)
                  clear hK K hHeld
                  have hHeld := hB7
                  refine wpAnyH_take (i := 7) (v := .bool false) rfl (by kernel_rfl) (by kernel_rfl) (by kernel_rfl) (fun _ _ _ h => h) (Or.inl ⟨by rfl, ?_⟩) (by assumption) ?_
                  · intro w hSw
                    go_simp
                  refine wpAnyH_done (by kernel_rfl) ?_ _
                  go_wp2_with fail
                  go_meet
                  case rel => exact ⟨rfl, hB7⟩
                case rest =>
                  obtain ⟨rfl, hbc⟩ := hcut
                  clear y0
                  have HBO' := Lib.hid (HBO.out.below hbc)
                  have HBZ' := Lib.hid (HBZ.out.trans (hbc.mono HBZ.out.size))
                  have HLD' := Lib.hid (show ∀ X, Below wc.heap.size wc X → X.cell? ⟨rb, 0, none⟩ = some (.slice A0 E.length c0) ∧ X.cell? ⟨rb, 0 + 1, none⟩ = some (.slice LA1 Lk.length lc1) from fun X hX => HLD.out X (hbc.trans (hX.mono hbc.size)))
                  clear hbc HBO HBZ HLD HMO
                  have HBO := HBO'
                  have HBZ := HBZ'
                  have HLD := HLD'
                  clear HBO' HBZ' HLD'
                  obtain ⟨wo, rfl⟩ : ∃ wo, wo = wc := ⟨_, rfl⟩
                  go_upto_region 19 with (fail)
                  go_cut [17, 18] (fun v1 v2 wx => ∃ A5 c5 A6 c6, v1 = .slice A5 (closedE E Lk t E.length).length c5 ∧ v2 = .slice A6 (closedE E Lk t E.length).length c6 ∧ Sl wx wx.heap.size A5 ((closedE E Lk t E.length).map (Value.int .i64)) ∧ Sl wx wx.heap.size A6 ((closedE E Lk t E.length).map (Value.int .i64)) ∧ Below wo.heap.size wo wx)
                  case first =>
                    obtain ⟨wd, hwd⟩ : ∃ wd, wd = wo.drew := ⟨_, rfl⟩
                    have hBd : Below wo.heap.size wo wd := by rw [hwd]; exact below_drewN (Below.refl _ _) 1
                    refine wp_region_held_drew (S := fun X => Below wo.heap.size wo X) (by kernel_rfl) (by rw [← hwd]; exact hBd) (fun hHeld => ?_)
                    rw [← hwd]
                    clear hwd hHeld
                    have hHeld := hBd
                    refine wpAnyH_take (i := 0) (v := .pointer (some ⟨p, 0, none⟩)) rfl (by kernel_rfl) (by kernel_rfl) (by kernel_rfl) (fun _ _ _ h => h) (Or.inl ⟨by rfl, ?_⟩) (by assumption) ?_
                    · intro w hSw
                      obtain ⟨s0, s1⟩ := HLD.out _ hSw
                      go_simp
                    show wpAnyH _ _ _ _ _ _ _ (Act.put _ (some 75) _) _
                    simp only [Act.put, List.setIfInBounds_toArray, List.set_cons_zero, List.set_cons_succ]
                    refine wpAnyH_take (i := 1) (v := .int .i64 t) rfl (by kernel_rfl) (by kernel_rfl) (by kernel_rfl) (fun _ _ _ h => h) (Or.inl ⟨by rfl, ?_⟩) (by assumption) ?_
                    · intro w hSw
                      obtain ⟨s0, s1⟩ := HLD.out _ hSw
                      go_simp
                    show wpAnyH _ _ _ _ _ _ _ (Act.put _ (some 76) _) _
                    simp only [Act.put, List.setIfInBounds_toArray, List.set_cons_zero, List.set_cons_succ]
                    refine wpAnyH_take (i := 3) (v := .agg #[.slice A0 E.length c0, .slice LA1 Lk.length lc1]) rfl (by kernel_rfl) (by kernel_rfl) (by kernel_rfl) (fun _ _ _ h => h) (Or.inl ⟨by rfl, ?_⟩) (by assumption) ?_
                    · intro w hSw
                      obtain ⟨s0, s1⟩ := HLD.out _ hSw
                      go_simp
                    show wpAnyH _ _ _ _ _ _ _ (Act.put _ (some 78) _) _
                    simp only [Act.put, List.setIfInBounds_toArray, List.set_cons_zero, List.set_cons_succ]
                    refine wpAnyH_take (i := 4) (v := .int .i64 t) rfl (by kernel_rfl) (by kernel_rfl) (by kernel_rfl) (fun _ _ _ h => h) (Or.inl ⟨by rfl, ?_⟩) (by assumption) ?_
                    · intro w hSw
                      obtain ⟨s0, s1⟩ := HLD.out _ hSw
                      go_simp
                    show wpAnyH _ _ _ _ _ _ _ (Act.put _ (some 79) _) _
                    simp only [Act.put, List.setIfInBounds_toArray, List.set_cons_zero, List.set_cons_succ]
                    refine wpAnyH_ready (rs := [2]) (by kernel_rfl) (by simp) ?_
                    refine AllReadyH.cons rfl (fun K hK => ?_) AllReadyH.nil
                    go_simp
                    ((with_reducible refine (closed_any (HBO.out.below hBd).tab (by omega) (by omega) t).mono ?_))
                    rintro e w5 ⟨v5, rfl, hown5, hb5⟩
                    have hB5 := hBd.trans (hb5.mono hBd.size)
                    go_simp
                    refine hK.out _ _ hB5 (fun hHeld => ?_)
                    clear hK K hHeld
                    have hHeld := hB5
                    refine wpAnyH_ready (rs := [5]) (by kernel_rfl) (by simp) ?_
                    refine AllReadyH.cons rfl (fun K hK => ?_) AllReadyH.nil
                    go_simp
                    ((with_reducible refine (shut_any (HBO.out.below hB5).roads c0 (by omega) (by omega) t).mono ?_))
                    rintro e w6 ⟨v6, rfl, hown6, hb6⟩
                    have hB6 := hB5.trans (hb6.mono hB5.size)
                    obtain ⟨A6, c6, rfl, hsl6⟩ := hown6.sl
                    obtain ⟨A5, c5, rfl, hsl5⟩ := (hown5.kept_new hb6).sl
                    go_simp
                    refine hK.out _ _ hB6 (fun hHeld => ?_)
                    clear hK K hHeld
                    have hHeld := hB6
                    refine wpAnyH_take (i := 6) (v := .slice A5 (closedE E Lk t E.length).length c5) rfl (by kernel_rfl) (by kernel_rfl) (by kernel_rfl) (fun _ _ _ h => h) (Or.inl ⟨by rfl, ?_⟩) (by assumption) ?_
                    · intro w hSw
                      go_simp
                    refine wpAnyH_take (i := 7) (v := .slice A6 (closedE E Lk t E.length).length c6) rfl (by kernel_rfl) (by kernel_rfl) (by kernel_rfl) (fun _ _ _ h => h) (Or.inl ⟨by rfl, ?_⟩) (by assumption) ?_
                    · intro w hSw
                      go_simp
                    refine wpAnyH_done (by kernel_rfl) ?_ _
                    go_wp2_with fail
                    go_meet
                    case rel => exact ⟨A5, c5, A6, c6, rfl, rfl, hsl5, hsl6, hB6⟩
                  case rest =>
                    obtain ⟨A5, c5, A6, c6, rfl, rfl, hsl5, hsl6, hbc⟩ := hcut
                    obtain ⟨Z, hZ⟩ : ∃ Z, Z = closedE E Lk t E.length := ⟨_, rfl⟩
                    have hZl : Z.length ≤ E.length := by rw [hZ]; exact closedE_len _ _ _ _
                    rw [← hZ] at hsl5 hsl6 ⊢
                    have HSL := Lib.hid (And.intro hsl5 hsl6)
                    have HBO' := Lib.hid (HBO.out.below hbc)
                    have HBZ' := Lib.hid (HBZ.out.trans (hbc.mono HBZ.out.size))
                    have HLD' := Lib.hid (show ∀ X, Below wc.heap.size wc X → X.cell? ⟨rb, 0, none⟩ = some (.slice A0 E.length c0) ∧ X.cell? ⟨rb, 0 + 1, none⟩ = some (.slice LA1 Lk.length lc1) from fun X hX => HLD.out X (hbc.trans (hX.mono hbc.size)))
                    clear hbc HBO HBZ HLD hsl5 hsl6 hZ
                    have HBO := HBO'
                    have HBZ := HBZ'
                    have HLD := HLD'
                    clear HBO' HBZ' HLD'
                    obtain ⟨wo, rfl⟩ : ∃ wo, wo = wc := ⟨_, rfl⟩
                    obtain ⟨m3, hm3⟩ : ∃ m3, m3 = Z.length := ⟨_, rfl⟩
                    have HM3 := Lib.hid hm3
                    rw [← hm3] at hZl ⊢
                    clear hm3
                    go_wp2_with fail
                    go_loopw [19, 88] (fun _ iv wr => ∃ k3 : Nat, k3 ≤ m3 ∧ iv = .int .i64 k3 ∧ Below wo.heap.size wo wr) (fun _ i _ => m3 - (intOf i).toNat)
                    case atStart => exact ⟨0, Nat.zero_le _, rfl, Below.refl _ _⟩
                    case round =>
                      obtain ⟨k3, hk3, rfl, hb3⟩ := hrel
                      have HB3 := Lib.hid hb3
                      by_cases hlt3 : k3 < m3
                      · obtain ⟨z, hz⟩ : ∃ z, Z[k3]? = some z := ⟨Z[k3]'(by have := HM3.out; omega), by simp⟩
                        obtain ⟨b5, o5, rfl, _, y5⟩ := (HSL.out.1.below hb3).int hz
                        obtain ⟨b6, o6, rfl, _, y6⟩ := (HSL.out.2.below hb3).int hz
                        have hkj : (k3 : Int) < (m3 : Int) := by omega
                        clear hb3 hz
                        go_wp2_with fail
                        go_quiet (fail)
                        go_wp2_with fail
                        go_roundw
                        case rel => exact ⟨k3 + 1, by omega, by go_num, below_drewN HB3.out _⟩
                        case measure => simp [intOf]; omega
                      · have hkk : k3 = m3 := by omega
                        subst hkk
                        have HBO' := Lib.hid (HBO.out.below hb3)
                        have HBZ' := Lib.hid (HBZ.out.trans (hb3.mono HBZ.out.size))
                        have HLD' := Lib.hid (show ∀ X, Below wr.heap.size wr X → X.cell? ⟨rb, 0, none⟩ = some (.slice A0 E.length c0) ∧ X.cell? ⟨rb, 0 + 1, none⟩ = some (.slice LA1 Lk.length lc1) from fun X hX => HLD.out X (hb3.trans (hX.mono hb3.size)))
                        clear hb3 HBO HBZ HLD HSL
                        have HBO := HBO'
                        have HBZ := HBZ'
                        have HLD := HLD'
                        clear HBO' HBZ' HLD'
                        obtain ⟨wo, rfl⟩ : ∃ wo, wo = wr := ⟨_, rfl⟩
                        go_wp2_with fail
                        go_loopw [20] (fun iv wr => ∃ j : Nat, j ≤ E.length + 2 ∧ iv = .int .i64 ((j : Int) - 1) ∧ Below wo.heap.size wo wr) (fun i _ => E.length + 2 - (intOf i + 1).toNat)
                        case atStart => exact ⟨0, by omega, rfl, Below.refl _ _⟩
                        case round =>
                          obtain ⟨j, hj, rfl, hbi⟩ := hrel
                          have HBW := Lib.hid hbi
                          have HBI := Lib.hid (HBO.out.below hbi)
                          have HLD' := Lib.hid (show ∀ X, Below wr.heap.size wr X → X.cell? ⟨rb, 0, none⟩ = some (.slice A0 E.length c0) ∧ X.cell? ⟨rb, 0 + 1, none⟩ = some (.slice LA1 Lk.length lc1) from fun X hX => HLD.out X (hbi.trans (hX.mono hbi.size)))
                          clear HLD
                          have HLD := HLD'
                          clear HLD'
                          obtain ⟨wi, rfl⟩ : ∃ wi, wi = wr := ⟨_, rfl⟩
                          by_cases hlt4 : j < E.length + 2
                          · have d4 : decide ((j : Int) - 1 ≤ (E.length : Int)) = true := by simp; omega
                            clear hbi
                            go_upto_region 31 with (fail)
                            go_cut [115] (fun v wx => v = .bool false ∧ Below wi.heap.size wi wx)
                            case first =>
                              obtain ⟨wd, hwd⟩ : ∃ wd, wd = wi.drew := ⟨_, rfl⟩
                              have hBd : Below wi.heap.size wi wd := by rw [hwd]; exact below_drewN (Below.refl _ _) 1
                              refine wp_region_held_drew (S := fun X => Below wi.heap.size wi X) (by kernel_rfl) (by rw [← hwd]; exact hBd) (fun hHeld => ?_)
                              rw [← hwd]
                              clear hwd hHeld
                              have hHeld := hBd
                              refine wpAnyH_take (i := 0) (v := .pointer (some ⟨p, 0, none⟩)) rfl (by kernel_rfl) (by kernel_rfl) (by kernel_rfl) (fun _ _ _ h => h) (Or.inl ⟨by rfl, ?_⟩) (by assumption) ?_
                              · intro w hSw
                                obtain ⟨s0, s1⟩ := HLD.out _ hSw
                                go_simp
                              show wpAnyH _ _ _ _ _ _ _ (Act.put _ (some 107) _) _
                              simp only [Act.put, List.setIfInBounds_toArray, List.set_cons_zero, List.set_cons_succ]
                              refine wpAnyH_take (i := 1) (v := .int .i64 ((j : Int) - 1)) rfl (by kernel_rfl) (by kernel_rfl) (by kernel_rfl) (fun _ _ _ h => h) (Or.inl ⟨by rfl, ?_⟩) (by assumption) ?_
                              · intro w hSw
                                obtain ⟨s0, s1⟩ := HLD.out _ hSw
                                go_simp
                              show wpAnyH _ _ _ _ _ _ _ (Act.put _ (some 108) _) _
                              simp only [Act.put, List.setIfInBounds_toArray, List.set_cons_zero, List.set_cons_succ]
                              refine wpAnyH_take (i := 2) (v := .int .i64 t) rfl (by kernel_rfl) (by kernel_rfl) (by kernel_rfl) (fun _ _ _ h => h) (Or.inl ⟨by rfl, ?_⟩) (by assumption) ?_
                              · intro w hSw
                                obtain ⟨s0, s1⟩ := HLD.out _ hSw
                                go_simp
                              show wpAnyH _ _ _ _ _ _ _ (Act.put _ (some 109) _) _
                              simp only [Act.put, List.setIfInBounds_toArray, List.set_cons_zero, List.set_cons_succ]
                              refine wpAnyH_take (i := 4) (v := .agg #[.slice A0 E.length c0, .slice LA1 Lk.length lc1]) rfl (by kernel_rfl) (by kernel_rfl) (by kernel_rfl) (fun _ _ _ h => h) (Or.inl ⟨by rfl, ?_⟩) (by assumption) ?_
                              · intro w hSw
                                obtain ⟨s0, s1⟩ := HLD.out _ hSw
                                go_simp
                              show wpAnyH _ _ _ _ _ _ _ (Act.put _ (some 111) _) _
                              simp only [Act.put, List.setIfInBounds_toArray, List.set_cons_zero, List.set_cons_succ]
                              refine wpAnyH_take (i := 5) (v := .int .i64 ((j : Int) - 1)) rfl (by kernel_rfl) (by kernel_rfl) (by kernel_rfl) (fun _ _ _ h => h) (Or.inl ⟨by rfl, ?_⟩) (by assumption) ?_
                              · intro w hSw
                                obtain ⟨s0, s1⟩ := HLD.out _ hSw
                                go_simp
                              show wpAnyH _ _ _ _ _ _ _ (Act.put _ (some 112) _) _
                              simp only [Act.put, List.setIfInBounds_toArray, List.set_cons_zero, List.set_cons_succ]
                              refine wpAnyH_take (i := 6) (v := .int .i64 t) rfl (by kernel_rfl) (by kernel_rfl) (by kernel_rfl) (fun _ _ _ h => h) (Or.inl ⟨by rfl, ?_⟩) (by assumption) ?_
                              · intro w hSw
                                obtain ⟨s0, s1⟩ := HLD.out _ hSw
                                go_simp
                              show wpAnyH _ _ _ _ _ _ _ (Act.put _ (some 113) _) _
                              simp only [Act.put, List.setIfInBounds_toArray, List.set_cons_zero, List.set_cons_succ]
                              refine wpAnyH_ready (rs := [3]) (by kernel_rfl) (by simp) ?_
                              refine AllReadyH.cons rfl (fun K hK => ?_) AllReadyH.nil
                              go_simp
                              ((with_reducible refine (at_any (HBI.out.below hBd).tab (by omega) ((j : Int) - 1) t).mono ?_))
                              rintro e w5 ⟨rfl, hb5⟩
                              have hB5 := hBd.trans (hb5.mono hBd.size)
                              go_simp
                              refine hK.out _ _ hB5 (fun hHeld => ?_)
                              clear hK K hHeld
                              have hHeld := hB5
                              refine wpAnyH_ready (rs := [7]) (by kernel_rfl) (by simp) ?_
                              refine AllReadyH.cons rfl (fun K hK => ?_) AllReadyH.nil
                              go_simp
                              ((with_reducible refine (rat_any _ (HBI.out.below hB5).roads c0 (by omega) ((j : Int) - 1) t).mono ?_))
                              rintro e w6 ⟨rfl, hb6⟩
                              have hB6 := hB5.trans (hb6.mono hB5.size)
                              go_simp
                              refine hK.out _ _ hB6 (fun hHeld => ?_)
                              clear hK K hHeld
                              have hHeld := hB6
                              refine wpAnyH_take (i := 8) (v := .bool false) rfl (by kernel_rfl) (by kernel_rfl) (by kernel_rfl) (fun _ _ _ h => h) (Or.inl ⟨by rfl, ?_⟩) (by assumption) ?_
                              · intro w hSw
                                go_simp
                              refine wpAnyH_done (by kernel_rfl) ?_ _
                              go_wp2_with fail
                              go_meet
                              case rel => exact ⟨rfl, hB6⟩
                            case rest =>
                              obtain ⟨rfl, hbc⟩ := hcut
                              have HBC := Lib.hid (HBW.out.trans (hbc.mono HBW.out.size))
                              clear hbc
                              go_wp2_with fail
                              go_roundw
                              case rel => exact ⟨j + 1, by omega, by go_num, HBC.out⟩
                              case measure => simp [intOf]; omega
                          · have d4 : decide ((j : Int) - 1 ≤ (E.length : Int)) = false := by simp; omega
                            have HBE := Lib.hid (HBZ.out.trans (hbi.mono HBZ.out.size))
                            clear hbi
                            go_wp2_with fail
                            go_roundw
                            case rel => exact ⟨k2 + 1, by omega, by go_num, HBE.out⟩
                            case measure => simp [intOf]; omega
              · have hkk : k2 = m2 := by omega
                subst hkk
                clear hbz
                go_wp2_with fail
                go_ret
                exact ⟨rfl, HMO.out.below⟩
  · go_wp2_with fail
    go_ret
    exact ⟨rfl, HB2.out.alloc HB2.out.size _⟩

theorem laid_met (os : Os) : laidMet Tryd.prog Rows.travelTimesMatchModelUptoRow.laid ((World.laidAll Tryd.prog os Rows.travelTimesMatchModelUptoRow.laid).forCall (fun _ _ => 0) ⟨#[], #[.slice none 0 0, .slice none 0 0, .slice none 0 0], []⟩).memory :=
  laidMet_laidAll _ (laid_fits os) (laid_ifaces os)
theorem reads (os : Os) {H : Type} (enc : TypeId × Value → H) : ∃ places, DataW.whole enc Tryd.prog ((World.laidAll Tryd.prog os Rows.travelTimesMatchModelUptoRow.laid).forCall (fun _ _ => 0) ⟨#[], #[.slice none 0 0, .slice none 0 0, .slice none 0 0], []⟩).memory Tryd.f5.params.toList Rows.travelTimesMatchModelSpec.vars false #[Value.slice none 0 0, .slice none 0 0, .slice none 0 0].toList 8 = some ([.nil, .nil, .nil], [], places) :=
  ⟨[], by kernel_rfl⟩

set_option maxRecDepth 100000 in
theorem lifted (os : Os) (started : os.Started) (H : Type) (enc : TypeId × Value → H) (F : Stop.Interp) :
    ReturnsInHanded {} Tryd.checked os 5 .any ((Rows.OpenSpec.upto Rows.travelTimesMatchModelSpec).preRow enc Tryd.prog Tryd.f5 Rows.travelTimesMatchModelUptoRow.domain false Rows.travelTimesMatchModelUptoRow.laid) (((Rows.OpenSpec.upto Rows.travelTimesMatchModelSpec).at F).post enc Tryd.prog Tryd.f5 false true false false) := by
  obtain ⟨places, hx⟩ := reads os enc
  refine returnsInHanded_of_row (C := Tryd.checked) (s := Rows.OpenSpec.upto Rows.travelTimesMatchModelSpec) own started (by kernel_rfl) Tryd.func5
    (witness_row_atRef (enc := enc) (C := Tryd.checked) false (World.laidAll Tryd.prog os Rows.travelTimesMatchModelUptoRow.laid) #[.slice none 0 0, .slice none 0 0, .slice none 0 0] (World.laidAll_os _ _ _) (laid_vars os _) (laid_rest os _) (by kernel_rfl)
      (OpenSpec.preRow_of_cond 8 hx (by kernel_rfl) (fun k hk => by cases hk; kernel_rfl) (by kernel_rfl) (laid_met os))) ?_
  intro W base args ds gs before hval0 hW _ hcond _ hLH hSh _
  have hL0 := hLH
  rw [MakeChecks.laidMetH_plain _ _ _ (by kernel_rfl)] at hL0
  have hL : laidMet Tryd.prog Rows.travelTimesMatchModelUptoRow.laid W := hL0
  clear hL0
  have hr : Ready W := ready_of hL.tail.tail hSh
  have hval : ∀ (j : Nat) t v, Tryd.f5.params[j]? = some t → args[j]? = some v → Value.okWide Tryd.prog W .any base t v := hval0
  have hW' := hW
  obtain ⟨p, q, hA0, hV, rfl, hfz, hnd⟩ := hW
  have hA : DataW.TrodAll enc Tryd.prog W 0 (fun _ => true) true Tryd.f5.params.toList args.toList ds p := hA0
  rw [Tryd.params5] at hA hval
  obtain ⟨v0, vs0, d0, ds0, p0, q0, hargs, rfl, rfl, h0, r0⟩ := trodAll_cons hA
  obtain ⟨v1, vs1, d1, ds1, p1, q1, rfl, rfl, rfl, h1, r1⟩ := trodAll_cons r0
  obtain ⟨v2, vs2, d2, ds2, p2, q2, rfl, rfl, rfl, h2, r2⟩ := trodAll_cons r1
  obtain ⟨rfl, rfl, rfl⟩ := trodAll_nil r2
  obtain rfl : args = #[v0, v1, v2] := by cases args; simp_all
  obtain ⟨rfl, rfl⟩ := trodVars_none hV
  have hk := bulk_three (hcond _ rfl)
  obtain ⟨A0, zs0, c0, rfl, hs0, hwf0, hc0, hm0, hz0⟩ := open_sl Tryd.underlying22 Tryd.underlying2 (by kernel_rfl) (hval 0 22 v0 rfl rfl) h0
  have hn0 : zs0.length ≤ 1048576 := Nat.le_trans (bulk_slice Tryd.underlying22 h0) hk.1
  obtain ⟨A1, l1, c1, rfl, hl1, hc1, hm1, hz1⟩ := open_chgs (hval 1 23 v1 rfl rfl) h1
  obtain ⟨A2, ts2, c2, rfl, hs2, hwf2, hc2, hm2, hz2⟩ := open_sl Tryd.underlying22 Tryd.underlying2 (by kernel_rfl) (hval 2 22 v2 rfl rfl) h2
  clear hA0 hval0
  refine (walk W A0 zs0 c0 hs0 hn0 A1 l1 c1 hl1 A2 ts2 c2 hs2 hr).mono fun e W' ⟨he, hb⟩ => ?_
  subst he
  exact ⟨_, rfl, law_post laidOut (by kernel_rfl) rfl Tryd.underlying4 rfl hW' rfl rfl rfl hb⟩

theorem said : Rows.TravelTimesMatchModelUptoSaid :=
  OpenClaim.holds_of_cond 5 Tryd.f5 rfl rfl rfl rfl rfl rfl rfl ⟨rfl, rfl, rfl, rfl, rfl⟩ rfl rfl rfl rfl rfl (by kernel_rfl) Tryd.func5 (by kernel_rfl)
    (of_decide_eq_true (by kernel_rfl)) (by unfold Func.isWrapper; first | (rw [if_pos (by decide +kernel)]; kernel_rfl) | (rw [if_neg (by decide +kernel)]; exact ⟨rfl, rfl⟩))
    (fun os started H enc _ F => by rw [OpenClaim.pre_eq_preRow]; exact lifted os started H enc F)

/-- No parameter wants a stand-in; the program's looks are those of the card. -/
theorem plain (f : FuncId) (fn : Func) (hf : Tryd.pinned.checked.prog.funcNamed "samaritan/samaritanlaw08.TravelTimesMatchModel" = some f) (hfn : Tryd.pinned.checked.prog.funcs[f]? = some fn) :
    false = Tryd.pinned.checked.prog.looks [] ∧ ∀ (j : Nat) t, fn.params[j]? = some t → Tryd.pinned.checked.prog.wantsStandIn t = false := by
  obtain rfl : f = 5 := Option.some.inj ((show Tryd.prog.funcNamed "samaritan/samaritanlaw08.TravelTimesMatchModel" = some 5 by kernel_rfl).symm.trans hf) |>.symm
  obtain rfl : fn = Tryd.f5 := (Option.some.inj (Tryd.func5.symm.trans hfn)).symm
  refine ⟨by kernel_rfl, fun j t ht => ?_⟩
  rw [Tryd.params5] at ht
  have hm := Array.mem_of_getElem? ht
  have hall : (#[22, 23, 22] : Array TypeId).toList.all (fun t => Tryd.prog.wantsStandIn t == false) = true := by kernel_rfl
  have := List.all_eq_true.1 hall t (by simpa using hm)
  exact beq_iff_eq.1 this

theorem card : Rows.TravelTimesMatchModelUptoCardSaid :=
  Claim7.holds_tied_plain_at .later [] _ _ _ _ said (fun _ h => by cases h) (by kernel_rfl) (fun _ h => by cases h) travelTimesMatchModelUpto_row_tie rfl ⟨rfl, rfl⟩ (by kernel_rfl) rfl plain (by kernel_rfl)
#print axioms card
end Go.Proofs.YtegifbmcapnkdaaDoor.l08MatchModel
