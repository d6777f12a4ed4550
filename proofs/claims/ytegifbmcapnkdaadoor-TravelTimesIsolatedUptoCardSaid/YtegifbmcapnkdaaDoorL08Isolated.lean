/-
  samaritanlaw08.TravelTimesIsolated returns true for every input whose reading is of bulk at most 1048576, and the arguments read afterwards as before.
  Conditions: those of the given row (its list of package variables), tied to the program's text by the given tie; the card speaks of the pruned copy of the project that the seat was translated from.
-/
import Derived.Test.YtegifbmcapnkdaaDoorCards
import Derived.Test.YtegifbmcapnkdaaDoorTie
import Derived.Test.YtegifbmcapnkdaaDoorMatch
import Derived.Test.YtegifbmcapnkdaaDoorAlive
import Derived.Test.YtegifbmcapnkdaaDoorRefI
import Derived.Test.YtegifbmcapnkdaaDoorOpenC
import Derived.Test.YtegifbmcapnkdaaDoorIso
import Derived.Test.YtegifbmcapnkdaaDoorLift
import Derived.Test.YtegifbmcapnkdaaDoorLaidT
import Derived.OpenShut
import Derived.Deep.DeepHandedRow
namespace Go.Proofs.YtegifbmcapnkdaaDoor.l08Isolated
open Go.ChangeShapes Go.WideShapes Go.ChangeAt Go.RowKit Go.Maps
open Go.ChangeMaps (open_string shut_string)

set_option maxRecDepth 100000 in
set_option maxHeartbeats 4000000 in
theorem walk (w : World) (A0 : Option Addr) (zs : List Int) (c0 : Nat) (hs0 : Sl w w.heap.size A0 (zs.map (Value.int .i64))) (hN : zs.length ≤ 1048576) (A1 : Option Addr) (l : List ChgT) (c1 : Nat) (hl1 : ChgsAt w w.heap.size A1 l) (c : ChgT) (_hc : -9223372036854775808 ≤ c.tick ∧ c.tick ≤ 9223372036854775807) (hr : Ready w) :
    Calls Tryd.prog 3 #[.slice A0 zs.length c0, .slice A1 l.length c1, .agg #[.int .i64 c.tick, .int .i64 c.edge, .int .i64 c.time]] w fun e w' => e = .returned (.bool true) ∧ Below w.heap.size w w' := by
  obtain ⟨tick, edge, time⟩ := c
  show Calls Tryd.prog 3 #[.slice A0 zs.length c0, .slice A1 l.length c1, .agg #[.int .i64 tick, .int .i64 edge, .int .i64 time]] w _
  obtain ⟨bc, hbc⟩ : ∃ bc, bc = w.heap.size := ⟨_, rfl⟩
  obtain ⟨W0, hW0⟩ : ∃ W0, W0 = w.alloc (.cells #[.int .i64 tick, .int .i64 edge, .int .i64 time] 25) := ⟨_, rfl⟩
  have hb0 : Below w.heap.size w W0 := by rw [hW0]; exact (Below.refl _ _).alloc (Nat.le_refl _) _
  have hz0 : bc < W0.heap.size := by rw [hW0, hbc]; simp
  have HCC := Lib.hid (show ∀ X, Below W0.heap.size W0 X → X.cell? ⟨bc, 0, none⟩ = some (.int .i64 tick) ∧ X.cell? ⟨bc, 0 + 1, none⟩ = some (.int .i64 edge) ∧ X.cell? ⟨bc, 0 + 2, none⟩ = some (.int .i64 time) from fun X hX => by
    have k : ∀ j, X.cell? ⟨bc, j, none⟩ = (#[.int .i64 tick, .int .i64 edge, .int .i64 time] : Array Value)[j]? := fun j => (hX.cell (p := ⟨bc, j, none⟩) hz0).trans (by rw [hW0, World.cell?_alloc_at (hn := hbc)])
    rw [k, k, k]
    exact ⟨rfl, rfl, rfl⟩)
  have HS0 := Lib.hid ((hs0.below hb0).more hb0.size)
  have HL1 := Lib.hid ((RecsAt.below hl1 hb0).more hb0.size)
  have hal := alive_any W0 (hr.below hb0)
  have HAL := Lib.hid hal
  have HW0 := Lib.hid hW0
  have HB0 := Lib.hid hb0
  have HBC := Lib.hid hbc
  clear hs0 hl1 hal hr hW0 hb0
  go_enter Tryd.func3, Tryd.ntmps3
  go_wp2_with fail
  rw [← HW0.out, ← hbc]
  clear hbc
  refine HAL.out.mono ?_
  rintro e w1 ⟨rfl, hb1⟩
  have HB1 := Lib.hid hb1
  clear hb1
  go_wp2_with fail
  refine (made_any w1 A0 c0 zs ((HS0.out.below HB1.out).more HB1.out.size) hN).mono ?_
  rintro e w2 ⟨hb2, h⟩
  have HB2 := Lib.hid (HB1.out.trans (hb2.mono HB1.out.size))
  clear hb2
  rcases h with ⟨hok, h30, gp, p, cb, B, rfl, hB, ht⟩ | ⟨_, rfl⟩
  · obtain ⟨E, hE⟩ : ∃ E, E = ringE zs := ⟨_, rfl⟩
    have hEl : zs.length = E.length := by rw [hE, ringE_len]
    have hEm : E.map EdgeT.tm = zs := by rw [hE, ringE_tm]
    rw [← hE] at ht
    have hst := both_start c0 HB2.out (Nat.le_trans HB1.out.size hB) ht (by rw [hEm]; exact HS0.out)
    rw [hEl] at h30 ⊢
    have HST := Lib.hid hst
    have HBB := Lib.hid (HB2.out.alloc HB2.out.size (.cells #[.slice A0 E.length c0, .slice none 0 0] 30))
    have HwB := Lib.hid (Nat.le_trans HB1.out.size hB)
    clear hst hok hE hEm ht hEl hN
    by_cases hl60 : 60 < l.length
    · have d0 : decide ((60 : Int) < (l.length : Int)) = true := by simp; omega
      go_wp2_with fail
      go_ret
      exact ⟨rfl, HB0.out.trans (HBB.out.mono HB0.out.size)⟩
    · have d0 : decide ((60 : Int) < (l.length : Int)) = false := by simp; omega
      obtain ⟨rb, hrb⟩ : ∃ rb, rb = w2.heap.size := ⟨_, rfl⟩
      obtain ⟨W2, hW2⟩ : ∃ W2, W2 = w2.alloc (.cells #[.slice A0 E.length c0, .slice none 0 0] 30) := ⟨_, rfl⟩
      rw [← hW2] at HST
      have HBW := Lib.hid (show Below W0.heap.size W0 W2 from by rw [hW2]; exact HBB.out)
      have hbh := behind_any HST.out c0 A1 c1 l (RecsAt.more (RecsAt.below HL1.out HBW.out) HwB.out) (by simp; omega)
      have HBH := Lib.hid hbh
      have HW2 := Lib.hid hW2
      have HT0 := Lib.hid (fun b (hb : tabB p cb E.length (fun _ => .slice none 0 0) b) => HST.out.tab.lt hb)
      clear hrb hW2 hbh
      go_wp2_with fail
      rw [← HW2.out]
      refine HBH.out.mono ?_
      rintro e w3 ⟨F3, LA3, lc3, rfl, hb3, ho3, hF3⟩
      have HBO := Lib.hid hb3
      obtain ⟨L, hL⟩ : ∃ L, L = putAll E.length [] l := ⟨_, rfl⟩
      rw [← hL] at HBO
      have hLl : L.length ≤ 60 := by
        rw [hL]
        have h1 := putAll_len E.length l []
        simp only [List.length_nil] at h1
        omega
      have HBZ := Lib.hid (HBW.out.trans (ho3.below (B := W0.heap.size) HBW.out.size (fun b hb => Nat.le_trans HwB.out (HT0.out b hb).1)))
      clear hb3 ho3 hF3 hL HBH HST HT0 d0
      have HLD := Lib.hid (show ∀ X, Below w3.heap.size w3 X → X.cell? ⟨bc, 0, none⟩ = some (.int .i64 tick) ∧ X.cell? ⟨bc, 0 + 1, none⟩ = some (.int .i64 edge) ∧ X.cell? ⟨bc, 0 + 2, none⟩ = some (.int .i64 time) from fun X hX => HCC.out X (HBZ.out.trans (hX.mono HBZ.out.size)))
      obtain ⟨wo, rfl⟩ : ∃ wo, wo = w3 := ⟨_, rfl⟩
      go_upto_region 9 with (fail)
      go_cut [11, 12, 13] (fun v1 v2 v3 wx => ∃ g1 g2 g3, v1 = .slice (some ⟨g1, 0, none⟩) E.length E.length ∧ v2 = .slice (some ⟨g2, 0, none⟩) E.length E.length ∧ v3 = .slice (some ⟨g3, 0, none⟩) E.length E.length ∧ wo.heap.size ≤ g1 ∧ wo.heap.size ≤ g2 ∧ wo.heap.size ≤ g3 ∧
        Sl wx wx.heap.size (some ⟨g1, 0, none⟩) ((allE E L tick).map (Value.int .i64)) ∧ Sl wx wx.heap.size (some ⟨g2, 0, none⟩) ((allE E L (before tick)).map (Value.int .i64)) ∧ Sl wx wx.heap.size (some ⟨g3, 0, none⟩) ((allE E L 1099511627776).map (Value.int .i64)) ∧ Below wo.heap.size wo wx)
      case first =>
        obtain ⟨wd, hwd⟩ : ∃ wd, wd = wo.drew := ⟨_, rfl⟩
        have hBd : Below wo.heap.size wo wd := by rw [hwd]; exact below_drewN (Below.refl _ _) 1
        refine wp_region_held_drew (S := fun X => Below wo.heap.size wo X) (by kernel_rfl) (by rw [← hwd]; exact hBd) (fun hHeld => ?_)
        rw [← hwd]
        clear hwd hHeld
        have hHeld := hBd
        refine wpAnyH_take (i := 0) (v := .pointer (some ⟨p, 0, none⟩)) rfl (by kernel_rfl) (by kernel_rfl) (by kernel_rfl) (fun _ _ _ h => h) (Or.inl ⟨by rfl, ?_⟩) (by assumption) ?_
        · intro w hSw
          obtain ⟨s0, s1, s2⟩ := HLD.out _ hSw
          go_simp
        show wpAnyH _ _ _ _ _ _ _ (Act.put _ (some 40) _) _
        simp only [Act.put, List.setIfInBounds_toArray, List.set_cons_zero, List.set_cons_succ]
        refine wpAnyH_take (i := 1) (v := .pointer (some ⟨bc, 0, none⟩)) rfl (by kernel_rfl) (by kernel_rfl) (by kernel_rfl) (fun _ _ _ h => h) (Or.inl ⟨by rfl, ?_⟩) (by assumption) ?_
        · intro w hSw
          obtain ⟨s0, s1, s2⟩ := HLD.out _ hSw
          go_simp
        show wpAnyH _ _ _ _ _ _ _ (Act.put _ (some 41) _) _
        simp only [Act.put, List.setIfInBounds_toArray, List.set_cons_zero, List.set_cons_succ]
        refine wpAnyH_take (i := 2) (v := .int .i64 tick) rfl (by kernel_rfl) (by kernel_rfl) (by kernel_rfl) (fun _ _ _ h => h) (Or.inl ⟨by rfl, ?_⟩) (by assumption) ?_
        · intro w hSw
          obtain ⟨s0, s1, s2⟩ := HLD.out _ hSw
          go_simp
        show wpAnyH _ _ _ _ _ _ _ (Act.put _ (some 42) _) _
        simp only [Act.put, List.setIfInBounds_toArray, List.set_cons_zero, List.set_cons_succ]
        refine wpAnyH_take (i := 4) (v := .pointer (some ⟨p, 0, none⟩)) rfl (by kernel_rfl) (by kernel_rfl) (by kernel_rfl) (fun _ _ _ h => h) (Or.inl ⟨by rfl, ?_⟩) (by assumption) ?_
        · intro w hSw
          obtain ⟨s0, s1, s2⟩ := HLD.out _ hSw
          go_simp
        show wpAnyH _ _ _ _ _ _ _ (Act.put _ (some 44) _) _
        simp only [Act.put, List.setIfInBounds_toArray, List.set_cons_zero, List.set_cons_succ]
        refine wpAnyH_take (i := 5) (v := .pointer (some ⟨bc, 0, none⟩)) rfl (by kernel_rfl) (by kernel_rfl) (by kernel_rfl) (fun _ _ _ h => h) (Or.inl ⟨by rfl, ?_⟩) (by assumption) ?_
        · intro w hSw
          obtain ⟨s0, s1, s2⟩ := HLD.out _ hSw
          go_simp
        show wpAnyH _ _ _ _ _ _ _ (Act.put _ (some 45) _) _
        simp only [Act.put, List.setIfInBounds_toArray, List.set_cons_zero, List.set_cons_succ]
        refine wpAnyH_take (i := 6) (v := .int .i64 tick) rfl (by kernel_rfl) (by kernel_rfl) (by kernel_rfl) (fun _ _ _ h => h) (Or.inl ⟨by rfl, ?_⟩) (by assumption) ?_
        · intro w hSw
          obtain ⟨s0, s1, s2⟩ := HLD.out _ hSw
          go_simp
        show wpAnyH _ _ _ _ _ _ _ (Act.put _ (some 46) _) _
        simp only [Act.put, List.setIfInBounds_toArray, List.set_cons_zero, List.set_cons_succ]
        refine wpAnyH_take (i := 7) (v := .int .i64 (before tick)) rfl (by kernel_rfl) (by kernel_rfl) (by kernel_rfl) (fun _ _ _ h => h) (Or.inl ⟨by rfl, ?_⟩) (by assumption) ?_
        · intro w hSw
          obtain ⟨s0, s1, s2⟩ := HLD.out _ hSw
          go_simp
          rfl
        show wpAnyH _ _ _ _ _ _ _ (Act.put _ (some 47) _) _
        simp only [Act.put, List.setIfInBounds_toArray, List.set_cons_zero, List.set_cons_succ]
        refine wpAnyH_take (i := 9) (v := .pointer (some ⟨p, 0, none⟩)) rfl (by kernel_rfl) (by kernel_rfl) (by kernel_rfl) (fun _ _ _ h => h) (Or.inl ⟨by rfl, ?_⟩) (by assumption) ?_
        · intro w hSw
          obtain ⟨s0, s1, s2⟩ := HLD.out _ hSw
          go_simp
        show wpAnyH _ _ _ _ _ _ _ (Act.put _ (some 49) _) _
        simp only [Act.put, List.setIfInBounds_toArray, List.set_cons_zero, List.set_cons_succ]
        refine wpAnyH_ready (rs := [3]) (by kernel_rfl) (by simp) ?_
        refine AllReadyH.cons rfl (fun K hK => ?_) AllReadyH.nil
        go_simp
        ((with_reducible refine (all_any (HBO.out.below hBd).tab (by omega) (by omega) tick).mono ?_))
        rintro e w5 ⟨g1, rfl, hg1, hown1, hb5⟩
        have hB5 := hBd.trans (hb5.mono hBd.size)
        go_simp
        refine hK.out _ _ hB5 (fun hHeld => ?_)
        clear hK K hHeld
        have hHeld := hB5
        refine wpAnyH_ready (rs := [8]) (by kernel_rfl) (by simp) ?_
        refine AllReadyH.cons rfl (fun K hK => ?_) AllReadyH.nil
        go_simp
        ((with_reducible refine (all_any (HBO.out.below hB5).tab (by omega) (by omega) (before tick)).mono ?_))
        rintro e w6 ⟨g2, rfl, hg2, hown2, hb6⟩
        have hB6 := hB5.trans (hb6.mono hB5.size)
        go_simp
        refine hK.out _ _ hB6 (fun hHeld => ?_)
        clear hK K hHeld
        have hHeld := hB6
        refine wpAnyH_ready (rs := [10]) (by kernel_rfl) (by simp) ?_
        refine AllReadyH.cons rfl (fun K hK => ?_) AllReadyH.nil
        go_simp
        ((with_reducible refine (all_any (HBO.out.below hB6).tab (by omega) (by omega) 1099511627776).mono ?_))
        rintro e w7 ⟨g3, rfl, hg3, hown3, hb7⟩
        have hB7 := hB6.trans (hb7.mono hB6.size)
        go_simp
        refine hK.out _ _ hB7 (fun hHeld => ?_)
        clear hK K hHeld
        have hHeld := hB7
        refine wpAnyH_take (i := 11) (v := .slice (some ⟨g1, 0, none⟩) E.length E.length) rfl (by kernel_rfl) (by kernel_rfl) (by kernel_rfl) (fun _ _ _ h => h) (Or.inl ⟨by rfl, ?_⟩) (by assumption) ?_
        · intro w hSw
          go_simp
        refine wpAnyH_take (i := 12) (v := .slice (some ⟨g2, 0, none⟩) E.length E.length) rfl (by kernel_rfl) (by kernel_rfl) (by kernel_rfl) (fun _ _ _ h => h) (Or.inl ⟨by rfl, ?_⟩) (by assumption) ?_
        · intro w hSw
          go_simp
        refine wpAnyH_take (i := 13) (v := .slice (some ⟨g3, 0, none⟩) E.length E.length) rfl (by kernel_rfl) (by kernel_rfl) (by kernel_rfl) (fun _ _ _ h => h) (Or.inl ⟨by rfl, ?_⟩) (by assumption) ?_
        · intro w hSw
          go_simp
        refine wpAnyH_done (by kernel_rfl) ?_ _
        go_wp2_with fail
        go_meet
        case rel =>
          have hz5 := hBd.size
          have hz6 := hB5.size
          have hz7 := hB6.size
          have k1 := (hown1.kept_new hb6).kept_new hb7
          have k2 := hown2.kept_new hb7
          exact ⟨g1, g2, g3, rfl, rfl, rfl, by omega, by omega, by omega, own_sl k1, own_sl k2, own_sl hown3, hB7⟩
      case rest =>
        obtain ⟨g1, g2, g3, rfl, rfl, rfl, hg1, hg2, hg3, hs1, hs2, hs3, hbc⟩ := hcut
        have hnt : ∀ g, wo.heap.size ≤ g → ¬ tabB p cb E.length F3 g := fun g hg q => by have := (HBO.out.tab.lt q).2; omega
        have HTC := Lib.hid ((HBO.out.below hbc).tab)
        have HBC2 := Lib.hid (HBZ.out.trans (hbc.mono HBZ.out.size))
        have HSS := Lib.hid (And.intro hs1 (And.intro hs2 hs3))
        obtain ⟨e0, e1, e2⟩ := HLD.out wc hbc
        have HNT := Lib.hid (And.intro (hnt g1 hg1) (And.intro (hnt g2 hg2) (hnt g3 hg3)))
        have HT3 := Lib.hid (fun b (hb : tabB p cb E.length F3 b) => (HBO.out.tab.lt hb).1)
        clear hs1 hs2 hs3 hbc hnt hg1 hg2 hg3 HBO HBZ HLD
        go_wp2_with fail
        refine (append_any HTC.out ⟨tick, edge, time⟩ (by omega)).mono ?_
        rintro e w4 ⟨rfl, F4, t4, h4, hF4, _⟩
        have HT4 := Lib.hid t4
        have HBZ := Lib.hid (HBC2.out.trans (h4.below (B := W0.heap.size) HBC2.out.size (fun b hb => Nat.le_trans HwB.out (HT3.out b hb))))
        have HLD := Lib.hid (show ∀ X, Below w4.heap.size w4 X → X.cell? ⟨bc, 0, none⟩ = some (.int .i64 tick) ∧ X.cell? ⟨bc, 0 + 1, none⟩ = some (.int .i64 edge) ∧ X.cell? ⟨bc, 0 + 2, none⟩ = some (.int .i64 time) from fun X hX => HCC.out X (HBZ.out.trans (hX.mono HBZ.out.size)))
        have HS1 := Lib.hid (h4.sl_far HSS.out.1 HNT.out.1)
        have HS2 := Lib.hid (h4.sl_far HSS.out.2.1 HNT.out.2.1)
        have HS3 := Lib.hid (h4.sl_far HSS.out.2.2 HNT.out.2.2)
        obtain ⟨x0, x1, x2⟩ := HLD.out w4 (Below.refl _ _)
        clear t4 h4 hF4 e0 e1 e2 HSS HNT HT3 HTC HBC2
        by_cases he : errC E.length L ⟨tick, edge, time⟩ = 0
        · have hok := errC_zero he
          have HT5 := Lib.hid (show TabAt w4 B gp 5 E p cb F4 (L ++ [ChgT.mk tick edge time]) from by have := HT4.out; rw [putL_ok he] at this; exact this)
          rw [he]
          have ht0 : 0 ≤ tick := hok.1.1
          have ht1 : tick ≤ 1099511627776 := hok.1.2.1
          have HOK := Lib.hid hok
          have HA1 := Lib.hid (atE_same (L := L) hok (t := tick) (by rw [clamp_of ht0 ht1]; exact Int.le_refl _))
          have HA2 := Lib.hid (atE_same (L := L) hok (t := 1099511627776) (by rw [clamp_max]; exact ht1))
          clear he hok HT4 x0 x1 x2
          obtain ⟨wo, rfl⟩ : ∃ wo, wo = w4 := ⟨_, rfl⟩
          go_upto_region 12 with (fail)
          go_cut [99] (fun v wx => v = .bool false ∧ Below wo.heap.size wo wx)
          case first =>
            by_cases hp0 : 0 < tick
            · have d0 : decide (0 < tick) = true := by simpa using hp0
              have HAL2 := Lib.hid (allE_snoc (E := E) (L := L) (c := ⟨tick, edge, time⟩) (t := before tick) (by rw [before_of hp0 ht1, clamp_of (by omega) (by omega)]; dsimp only; omega))
              obtain ⟨wd, hwd⟩ : ∃ wd, wd = wo.drew := ⟨_, rfl⟩
              have hBd : Below wo.heap.size wo wd := by rw [hwd]; exact below_drewN (Below.refl _ _) 1
              refine wp_region_held_drew (S := fun X => Below wo.heap.size wo X) (by kernel_rfl) (by rw [← hwd]; exact hBd) (fun hHeld => ?_)
              rw [← hwd]
              clear hwd hHeld
              have hHeld := hBd
              refine wpAnyH_take (i := 0) (v := .pointer (some ⟨bc, 0, none⟩)) rfl (by kernel_rfl) (by kernel_rfl) (by kernel_rfl) (fun _ _ _ h => h) (Or.inl ⟨by rfl, ?_⟩) (by assumption) ?_
              · intro w hSw
                obtain ⟨s0, s1, s2⟩ := HLD.out _ hSw
                go_simp
              show wpAnyH _ _ _ _ _ _ _ (Act.put _ (some 67) _) _
              simp only [Act.put, List.setIfInBounds_toArray, List.set_cons_zero, List.set_cons_succ]
              refine wpAnyH_take (i := 1) (v := .int .i64 tick) rfl (by kernel_rfl) (by kernel_rfl) (by kernel_rfl) (fun _ _ _ h => h) (Or.inl ⟨by rfl, ?_⟩) (by assumption) ?_
              · intro w hSw
                obtain ⟨s0, s1, s2⟩ := HLD.out _ hSw
                go_simp
              show wpAnyH _ _ _ _ _ _ _ (Act.put _ (some 68) _) _
              simp only [Act.put, List.setIfInBounds_toArray, List.set_cons_zero, List.set_cons_succ]
              refine wpAnyH_take (i := 2) (v := .bool true) rfl (by kernel_rfl) (by kernel_rfl) (by kernel_rfl) (fun _ _ _ h => h) (Or.inl ⟨by rfl, ?_⟩) (by assumption) ?_
              · intro w hSw
                obtain ⟨s0, s1, s2⟩ := HLD.out _ hSw
                go_simp
              show wpAnyH _ _ _ _ _ _ _ (Act.put _ (some 69) _) _
              simp only [Act.put, List.setIfInBounds_toArray, List.set_cons_zero, List.set_cons_succ]
              refine wpAnyH_take (i := 3) (v := .bool true) rfl (by kernel_rfl) (by kernel_rfl) (by kernel_rfl) (fun _ _ _ h => h) (Or.inl ⟨by rfl, ?_⟩) (by assumption) ?_
              · intro w hSw
                obtain ⟨s0, s1, s2⟩ := HLD.out _ hSw
                go_simp
              show wpAnyH _ _ _ _ _ _ _ (Act.put _ (some 70) _) _
              simp only [Act.put, List.setIfInBounds_toArray, List.set_cons_zero, List.set_cons_succ]
              refine wpAnyH_take (i := 4) (v := .pointer (some ⟨p, 0, none⟩)) rfl (by kernel_rfl) (by kernel_rfl) (by kernel_rfl) (fun _ _ _ h => h) (Or.inl ⟨by rfl, ?_⟩) (by assumption) ?_
              · intro w hSw
                obtain ⟨s0, s1, s2⟩ := HLD.out _ hSw
                go_simp
              show wpAnyH _ _ _ _ _ _ _ (Act.put _ (some 71) _) _
              simp only [Act.put, List.setIfInBounds_toArray, List.set_cons_zero, List.set_cons_succ]
              refine wpAnyH_take (i := 5) (v := .pointer (some ⟨bc, 0, none⟩)) rfl (by kernel_rfl) (by kernel_rfl) (by kernel_rfl) (fun _ _ _ h => h) (Or.inl ⟨by rfl, ?_⟩) (by assumption) ?_
              · intro w hSw
                obtain ⟨s0, s1, s2⟩ := HLD.out _ hSw
                go_simp
              show wpAnyH _ _ _ _ _ _ _ (Act.put _ (some 72) _) _
              simp only [Act.put, List.setIfInBounds_toArray, List.set_cons_zero, List.set_cons_succ]
              refine wpAnyH_take (i := 6) (v := .int .i64 tick) rfl (by kernel_rfl) (by kernel_rfl) (by kernel_rfl) (fun _ _ _ h => h) (Or.inl ⟨by rfl, ?_⟩) (by assumption) ?_
              · intro w hSw
                obtain ⟨s0, s1, s2⟩ := HLD.out _ hSw
                go_simp
              show wpAnyH _ _ _ _ _ _ _ (Act.put _ (some 73) _) _
              simp only [Act.put, List.setIfInBounds_toArray, List.set_cons_zero, List.set_cons_succ]
              refine wpAnyH_take (i := 7) (v := .int .i64 (before tick)) rfl (by kernel_rfl) (by kernel_rfl) (by kernel_rfl) (fun _ _ _ h => h) (Or.inl ⟨by rfl, ?_⟩) (by assumption) ?_
              · intro w hSw
                obtain ⟨s0, s1, s2⟩ := HLD.out _ hSw
                go_simp
                rfl
              show wpAnyH _ _ _ _ _ _ _ (Act.put _ (some 74) _) _
              simp only [Act.put, List.setIfInBounds_toArray, List.set_cons_zero, List.set_cons_succ]
              refine wpAnyH_take (i := 9) (v := .slice (some ⟨g2, 0, none⟩) E.length E.length) rfl (by kernel_rfl) (by kernel_rfl) (by kernel_rfl) (fun _ _ _ h => h) (Or.inl ⟨by rfl, ?_⟩) (by assumption) ?_
              · intro w hSw
                obtain ⟨s0, s1, s2⟩ := HLD.out _ hSw
                go_simp
              show wpAnyH _ _ _ _ _ _ _ (Act.put _ (some 76) _) _
              simp only [Act.put, List.setIfInBounds_toArray, List.set_cons_zero, List.set_cons_succ]
              refine wpAnyH_ready (rs := [8]) (by kernel_rfl) (by simp) ?_
              refine AllReadyH.cons rfl (fun K hK => ?_) AllReadyH.nil
              go_simp
              ((with_reducible refine (all_any (HT5.out.below hBd) (by simp; omega) (by omega) (before tick)).mono ?_))
              rintro e w5 ⟨g5, rfl, hg5, hown5, hb5⟩
              have hB5 := hBd.trans (hb5.mono hBd.size)
              have HNUM := Lib.hid (numE (by omega) (own_sl hown5) ((HS2.out.below hB5).more hB5.size) HAL2.out)
              clear hown5
              go_simp
              refine hK.out _ _ hB5 (fun hHeld => ?_)
              clear hK K hHeld
              have hHeld := hB5
              refine wpAnyH_ready (rs := [10]) (by kernel_rfl) (by simp) ?_
              refine AllReadyH.cons rfl (fun K hK => ?_) AllReadyH.nil
              go_simp
              ((with_reducible refine (HNUM.out).mono ?_))
              rintro e w6 ⟨rfl, hb6⟩
              have hB6 := hB5.trans (hb6.mono hB5.size)
              go_simp
              refine hK.out _ _ hB6 (fun hHeld => ?_)
              clear hK K hHeld
              have hHeld := hB6
              refine wpAnyH_take (i := 11) (v := .bool false) rfl (by kernel_rfl) (by kernel_rfl) (by kernel_rfl) (fun _ _ _ h => h) (Or.inl ⟨by rfl, ?_⟩) (by assumption) ?_
              · intro w hSw
                obtain ⟨s0, s1, s2⟩ := HLD.out _ hSw
                go_simp
              show wpAnyH _ _ _ _ _ _ _ (Act.put _ (some 78) _) _
              simp only [Act.put, List.setIfInBounds_toArray, List.set_cons_zero, List.set_cons_succ]
              refine wpAnyH_take (i := 12) (v := .bool false) rfl (by kernel_rfl) (by kernel_rfl) (by kernel_rfl) (fun _ _ _ h => h) (Or.inl ⟨by rfl, ?_⟩) (by assumption) ?_
              · intro w hSw
                obtain ⟨s0, s1, s2⟩ := HLD.out _ hSw
                go_simp
              show wpAnyH _ _ _ _ _ _ _ (Act.put _ (some 79) _) _
              simp only [Act.put, List.setIfInBounds_toArray, List.set_cons_zero, List.set_cons_succ]
              refine wpAnyH_take (i := 13) (v := .bool false) rfl (by kernel_rfl) (by kernel_rfl) (by kernel_rfl) (fun _ _ _ h => h) (Or.inl ⟨by rfl, ?_⟩) (by assumption) ?_
              · intro w hSw
                obtain ⟨s0, s1, s2⟩ := HLD.out _ hSw
                go_simp
              show wpAnyH _ _ _ _ _ _ _ (Act.put _ (some 80) _) _
              simp only [Act.put, List.setIfInBounds_toArray, List.set_cons_zero, List.set_cons_succ]
              refine wpAnyH_take (i := 14) (v := .pointer (some ⟨p, 0, none⟩)) rfl (by kernel_rfl) (by kernel_rfl) (by kernel_rfl) (fun _ _ _ h => h) (Or.inl ⟨by rfl, ?_⟩) (by assumption) ?_
              · intro w hSw
                obtain ⟨s0, s1, s2⟩ := HLD.out _ hSw
                go_simp
              show wpAnyH _ _ _ _ _ _ _ (Act.put _ (some 81) _) _
              simp only [Act.put, List.setIfInBounds_toArray, List.set_cons_zero, List.set_cons_succ]
              refine wpAnyH_take (i := 15) (v := .pointer (some ⟨bc, 1, none⟩)) rfl (by kernel_rfl) (by kernel_rfl) (by kernel_rfl) (fun _ _ _ h => h) (Or.inl ⟨by rfl, ?_⟩) (by assumption) ?_
              · intro w hSw
                obtain ⟨s0, s1, s2⟩ := HLD.out _ hSw
                go_simp
              show wpAnyH _ _ _ _ _ _ _ (Act.put _ (some 82) _) _
              simp only [Act.put, List.setIfInBounds_toArray, List.set_cons_zero, List.set_cons_succ]
              refine wpAnyH_take (i := 16) (v := .int .i64 edge) rfl (by kernel_rfl) (by kernel_rfl) (by kernel_rfl) (fun _ _ _ h => h) (Or.inl ⟨by rfl, ?_⟩) (by assumption) ?_
              · intro w hSw
                obtain ⟨s0, s1, s2⟩ := HLD.out _ hSw
                go_simp
              show wpAnyH _ _ _ _ _ _ _ (Act.put _ (some 83) _) _
              simp only [Act.put, List.setIfInBounds_toArray, List.set_cons_zero, List.set_cons_succ]
              refine wpAnyH_take (i := 17) (v := .pointer (some ⟨bc, 0, none⟩)) rfl (by kernel_rfl) (by kernel_rfl) (by kernel_rfl) (fun _ _ _ h => h) (Or.inl ⟨by rfl, ?_⟩) (by assumption) ?_
              · intro w hSw
                obtain ⟨s0, s1, s2⟩ := HLD.out _ hSw
                go_simp
              show wpAnyH _ _ _ _ _ _ _ (Act.put _ (some 84) _) _
              simp only [Act.put, List.setIfInBounds_toArray, List.set_cons_zero, List.set_cons_succ]
              refine wpAnyH_take (i := 18) (v := .int .i64 tick) rfl (by kernel_rfl) (by kernel_rfl) (by kernel_rfl) (fun _ _ _ h => h) (Or.inl ⟨by rfl, ?_⟩) (by assumption) ?_
              · intro w hSw
                obtain ⟨s0, s1, s2⟩ := HLD.out _ hSw
                go_simp
              show wpAnyH _ _ _ _ _ _ _ (Act.put _ (some 85) _) _
              simp only [Act.put, List.setIfInBounds_toArray, List.set_cons_zero, List.set_cons_succ]
              refine wpAnyH_take (i := 20) (v := .pointer (some ⟨bc, 2, none⟩)) rfl (by kernel_rfl) (by kernel_rfl) (by kernel_rfl) (fun _ _ _ h => h) (Or.inl ⟨by rfl, ?_⟩) (by assumption) ?_
              · intro w hSw
                obtain ⟨s0, s1, s2⟩ := HLD.out _ hSw
                go_simp
              show wpAnyH _ _ _ _ _ _ _ (Act.put _ (some 87) _) _
              simp only [Act.put, List.setIfInBounds_toArray, List.set_cons_zero, List.set_cons_succ]
              refine wpAnyH_take (i := 21) (v := .int .i64 time) rfl (by kernel_rfl) (by kernel_rfl) (by kernel_rfl) (fun _ _ _ h => h) (Or.inl ⟨by rfl, ?_⟩) (by assumption) ?_
              · intro w hSw
                obtain ⟨s0, s1, s2⟩ := HLD.out _ hSw
                go_simp
              show wpAnyH _ _ _ _ _ _ _ (Act.put _ (some 88) _) _
              simp only [Act.put, List.setIfInBounds_toArray, List.set_cons_zero, List.set_cons_succ]
              refine wpAnyH_ready (rs := [19]) (by kernel_rfl) (by simp) ?_
              refine AllReadyH.cons rfl (fun K hK => ?_) AllReadyH.nil
              go_simp
              ((with_reducible refine (at_any (HT5.out.below hB6) (by simp; omega) edge tick).mono ?_))
              rintro e w8 ⟨rfl, hb8⟩
              have hB8 := hB6.trans (hb8.mono hB6.size)
              rw [HA1.out]
              go_simp
              refine hK.out _ _ hB8 (fun hHeld => ?_)
              clear hK K hHeld
              have hHeld := hB8
              refine wpAnyH_take (i := 22) (v := .bool false) rfl (by kernel_rfl) (by kernel_rfl) (by kernel_rfl) (fun _ _ _ h => h) (Or.inl ⟨by rfl, ?_⟩) (by assumption) ?_
              · intro w hSw
                obtain ⟨s0, s1, s2⟩ := HLD.out _ hSw
                go_simp
              show wpAnyH _ _ _ _ _ _ _ (Act.put _ (some 89) _) _
              simp only [Act.put, List.setIfInBounds_toArray, List.set_cons_zero, List.set_cons_succ]
              refine wpAnyH_take (i := 23) (v := .bool false) rfl (by kernel_rfl) (by kernel_rfl) (by kernel_rfl) (fun _ _ _ h => h) (Or.inl ⟨by rfl, ?_⟩) (by assumption) ?_
              · intro w hSw
                obtain ⟨s0, s1, s2⟩ := HLD.out _ hSw
                go_simp
              show wpAnyH _ _ _ _ _ _ _ (Act.put _ (some 90) _) _
              simp only [Act.put, List.setIfInBounds_toArray, List.set_cons_zero, List.set_cons_succ]
              refine wpAnyH_take (i := 24) (v := .bool false) rfl (by kernel_rfl) (by kernel_rfl) (by kernel_rfl) (fun _ _ _ h => h) (Or.inl ⟨by rfl, ?_⟩) (by assumption) ?_
              · intro w hSw
                obtain ⟨s0, s1, s2⟩ := HLD.out _ hSw
                go_simp
              show wpAnyH _ _ _ _ _ _ _ (Act.put _ (some 91) _) _
              simp only [Act.put, List.setIfInBounds_toArray, List.set_cons_zero, List.set_cons_succ]
              refine wpAnyH_take (i := 25) (v := .pointer (some ⟨p, 0, none⟩)) rfl (by kernel_rfl) (by kernel_rfl) (by kernel_rfl) (fun _ _ _ h => h) (Or.inl ⟨by rfl, ?_⟩) (by assumption) ?_
              · intro w hSw
                obtain ⟨s0, s1, s2⟩ := HLD.out _ hSw
                go_simp
              show wpAnyH _ _ _ _ _ _ _ (Act.put _ (some 92) _) _
              simp only [Act.put, List.setIfInBounds_toArray, List.set_cons_zero, List.set_cons_succ]
              refine wpAnyH_take (i := 26) (v := .pointer (some ⟨bc, 1, none⟩)) rfl (by kernel_rfl) (by kernel_rfl) (by kernel_rfl) (fun _ _ _ h => h) (Or.inl ⟨by rfl, ?_⟩) (by assumption) ?_
              · intro w hSw
                obtain ⟨s0, s1, s2⟩ := HLD.out _ hSw
                go_simp
              show wpAnyH _ _ _ _ _ _ _ (Act.put _ (some 93) _) _
              simp only [Act.put, List.setIfInBounds_toArray, List.set_cons_zero, List.set_cons_succ]
              refine wpAnyH_take (i := 27) (v := .int .i64 edge) rfl (by kernel_rfl) (by kernel_rfl) (by kernel_rfl) (fun _ _ _ h => h) (Or.inl ⟨by rfl, ?_⟩) (by assumption) ?_
              · intro w hSw
                obtain ⟨s0, s1, s2⟩ := HLD.out _ hSw
                go_simp
              show wpAnyH _ _ _ _ _ _ _ (Act.put _ (some 94) _) _
              simp only [Act.put, List.setIfInBounds_toArray, List.set_cons_zero, List.set_cons_succ]
              refine wpAnyH_take (i := 29) (v := .pointer (some ⟨bc, 2, none⟩)) rfl (by kernel_rfl) (by kernel_rfl) (by kernel_rfl) (fun _ _ _ h => h) (Or.inl ⟨by rfl, ?_⟩) (by assumption) ?_
              · intro w hSw
                obtain ⟨s0, s1, s2⟩ := HLD.out _ hSw
                go_simp
              show wpAnyH _ _ _ _ _ _ _ (Act.put _ (some 96) _) _
              simp only [Act.put, List.setIfInBounds_toArray, List.set_cons_zero, List.set_cons_succ]
              refine wpAnyH_take (i := 30) (v := .int .i64 time) rfl (by kernel_rfl) (by kernel_rfl) (by kernel_rfl) (fun _ _ _ h => h) (Or.inl ⟨by rfl, ?_⟩) (by assumption) ?_
              · intro w hSw
                obtain ⟨s0, s1, s2⟩ := HLD.out _ hSw
                go_simp
              show wpAnyH _ _ _ _ _ _ _ (Act.put _ (some 97) _) _
              simp only [Act.put, List.setIfInBounds_toArray, List.set_cons_zero, List.set_cons_succ]
              refine wpAnyH_ready (rs := [28]) (by kernel_rfl) (by simp) ?_
              refine AllReadyH.cons rfl (fun K hK => ?_) AllReadyH.nil
              go_simp
              ((with_reducible refine (at_any (HT5.out.below hB8) (by simp; omega) edge 1099511627776).mono ?_))
              rintro e w9 ⟨rfl, hb9⟩
              have hB9 := hB8.trans (hb9.mono hB8.size)
              rw [HA2.out]
              go_simp
              refine hK.out _ _ hB9 (fun hHeld => ?_)
              clear hK K hHeld
              have hHeld := hB9
              refine wpAnyH_take (i := 31) (v := .bool false) rfl (by kernel_rfl) (by kernel_rfl) (by kernel_rfl) (fun _ _ _ h => h) (Or.inl ⟨by rfl, ?_⟩) (by assumption) ?_
              · intro w hSw
                obtain ⟨s0, s1, s2⟩ := HLD.out _ hSw
                go_simp
              show wpAnyH _ _ _ _ _ _ _ (Act.put _ (some 98) _) _
              simp only [Act.put, List.setIfInBounds_toArray, List.set_cons_zero, List.set_cons_succ]
              refine wpAnyH_take (i := 32) (v := .bool false) rfl (by kernel_rfl) (by kernel_rfl) (by kernel_rfl) (fun _ _ _ h => h) (Or.inl ⟨by rfl, ?_⟩) (by assumption) ?_
              · intro w hSw
                obtain ⟨s0, s1, s2⟩ := HLD.out _ hSw
                go_simp
              show wpAnyH _ _ _ _ _ _ _ (Act.put _ (some 99) _) _
              simp only [Act.put, List.setIfInBounds_toArray, List.set_cons_zero, List.set_cons_succ]
              refine wpAnyH_done (by kernel_rfl) ?_ _
              go_wp2_with fail
              go_meet
              case rel => exact ⟨rfl, hB9⟩
            · have d0 : decide (0 < tick) = false := by simpa using hp0
              obtain ⟨wd, hwd⟩ : ∃ wd, wd = wo.drew := ⟨_, rfl⟩
              have hBd : Below wo.heap.size wo wd := by rw [hwd]; exact below_drewN (Below.refl _ _) 1
              refine wp_region_held_drew (S := fun X => Below wo.heap.size wo X) (by kernel_rfl) (by rw [← hwd]; exact hBd) (fun hHeld => ?_)
              rw [← hwd]
              clear hwd hHeld
              have hHeld := hBd
              refine wpAnyH_take (i := 0) (v := .pointer (some ⟨bc, 0, none⟩)) rfl (by kernel_rfl) (by kernel_rfl) (by kernel_rfl) (fun _ _ _ h => h) (Or.inl ⟨by rfl, ?_⟩) (by assumption) ?_
              · intro w hSw
                obtain ⟨s0, s1, s2⟩ := HLD.out _ hSw
                go_simp
              show wpAnyH _ _ _ _ _ _ _ (Act.put _ (some 67) _) _
              simp only [Act.put, List.setIfInBounds_toArray, List.set_cons_zero, List.set_cons_succ]
              refine wpAnyH_take (i := 1) (v := .int .i64 tick) rfl (by kernel_rfl) (by kernel_rfl) (by kernel_rfl) (fun _ _ _ h => h) (Or.inl ⟨by rfl, ?_⟩) (by assumption) ?_
              · intro w hSw
                obtain ⟨s0, s1, s2⟩ := HLD.out _ hSw
                go_simp
              show wpAnyH _ _ _ _ _ _ _ (Act.put _ (some 68) _) _
              simp only [Act.put, List.setIfInBounds_toArray, List.set_cons_zero, List.set_cons_succ]
              refine wpAnyH_take (i := 2) (v := .bool false) rfl (by kernel_rfl) (by kernel_rfl) (by kernel_rfl) (fun _ _ _ h => h) (Or.inl ⟨by rfl, ?_⟩) (by assumption) ?_
              · intro w hSw
                obtain ⟨s0, s1, s2⟩ := HLD.out _ hSw
                go_simp
              show wpAnyH _ _ _ _ _ _ _ (Act.put _ (some 69) _) _
              simp only [Act.put, List.setIfInBounds_toArray, List.set_cons_zero, List.set_cons_succ]
              refine wpAnyH_take (i := 3) (v := .bool false) rfl (by kernel_rfl) (by kernel_rfl) (by kernel_rfl) (fun _ _ _ h => h) (Or.inl ⟨by rfl, ?_⟩) (by assumption) ?_
              · intro w hSw
                obtain ⟨s0, s1, s2⟩ := HLD.out _ hSw
                go_simp
              show wpAnyH _ _ _ _ _ _ _ (Act.put _ (some 70) _) _
              simp only [Act.put, List.setIfInBounds_toArray, List.set_cons_zero, List.set_cons_succ]
              refine wpAnyH_take (i := 4) (v := undef) rfl (by kernel_rfl) (by kernel_rfl) (by kernel_rfl) (fun _ _ _ h => h) (Or.inr ⟨by rfl, rfl⟩) (by assumption) ?_
              show wpAnyH _ _ _ _ _ _ _ (Act.put _ (some 71) _) _
              simp only [Act.put, List.setIfInBounds_toArray, List.set_cons_zero, List.set_cons_succ]
              refine wpAnyH_take (i := 5) (v := undef) rfl (by kernel_rfl) (by kernel_rfl) (by kernel_rfl) (fun _ _ _ h => h) (Or.inr ⟨by rfl, rfl⟩) (by assumption) ?_
              show wpAnyH _ _ _ _ _ _ _ (Act.put _ (some 72) _) _
              simp only [Act.put, List.setIfInBounds_toArray, List.set_cons_zero, List.set_cons_succ]
              refine wpAnyH_take (i := 6) (v := undef) rfl (by kernel_rfl) (by kernel_rfl) (by kernel_rfl) (fun _ _ _ h => h) (Or.inr ⟨by rfl, rfl⟩) (by assumption) ?_
              show wpAnyH _ _ _ _ _ _ _ (Act.put _ (some 73) _) _
              simp only [Act.put, List.setIfInBounds_toArray, List.set_cons_zero, List.set_cons_succ]
              refine wpAnyH_take (i := 7) (v := undef) rfl (by kernel_rfl) (by kernel_rfl) (by kernel_rfl) (fun _ _ _ h => h) (Or.inr ⟨by rfl, rfl⟩) (by assumption) ?_
              show wpAnyH _ _ _ _ _ _ _ (Act.put _ (some 74) _) _
              simp only [Act.put, List.setIfInBounds_toArray, List.set_cons_zero, List.set_cons_succ]
              refine wpAnyH_take (i := 8) (v := undef) rfl (by kernel_rfl) (by kernel_rfl) (by kernel_rfl) (fun _ _ _ h => h) (Or.inr ⟨by rfl, rfl⟩) (by assumption) ?_
              show wpAnyH _ _ _ _ _ _ _ (Act.put _ (some 75) _) _
              simp only [Act.put, List.setIfInBounds_toArray, List.set_cons_zero, List.set_cons_succ]
              refine wpAnyH_take (i := 9) (v := undef) rfl (by kernel_rfl) (by kernel_rfl) (by kernel_rfl) (fun _ _ _ h => h) (Or.inr ⟨by rfl, rfl⟩) (by assumption) ?_
              show wpAnyH _ _ _ _ _ _ _ (Act.put _ (some 76) _) _
              simp only [Act.put, List.setIfInBounds_toArray, List.set_cons_zero, List.set_cons_succ]
              refine wpAnyH_take (i := 10) (v := undef) rfl (by kernel_rfl) (by kernel_rfl) (by kernel_rfl) (fun _ _ _ h => h) (Or.inr ⟨by rfl, rfl⟩) (by assumption) ?_
              show wpAnyH _ _ _ _ _ _ _ (Act.put _ (some 77) _) _
              simp only [Act.put, List.setIfInBounds_toArray, List.set_cons_zero, List.set_cons_succ]
              refine wpAnyH_take (i := 11) (v := undef) rfl (by kernel_rfl) (by kernel_rfl) (by kernel_rfl) (fun _ _ _ h => h) (Or.inr ⟨by rfl, rfl⟩) (by assumption) ?_
              show wpAnyH _ _ _ _ _ _ _ (Act.put _ (some 78) _) _
              simp only [Act.put, List.setIfInBounds_toArray, List.set_cons_zero, List.set_cons_succ]
              refine wpAnyH_take (i := 12) (v := .bool false) rfl (by kernel_rfl) (by kernel_rfl) (by kernel_rfl) (fun _ _ _ h => h) (Or.inl ⟨by rfl, ?_⟩) (by assumption) ?_
              · intro w hSw
                obtain ⟨s0, s1, s2⟩ := HLD.out _ hSw
                go_simp
              show wpAnyH _ _ _ _ _ _ _ (Act.put _ (some 79) _) _
              simp only [Act.put, List.setIfInBounds_toArray, List.set_cons_zero, List.set_cons_succ]
              refine wpAnyH_take (i := 13) (v := .bool false) rfl (by kernel_rfl) (by kernel_rfl) (by kernel_rfl) (fun _ _ _ h => h) (Or.inl ⟨by rfl, ?_⟩) (by assumption) ?_
              · intro w hSw
                obtain ⟨s0, s1, s2⟩ := HLD.out _ hSw
                go_simp
              show wpAnyH _ _ _ _ _ _ _ (Act.put _ (some 80) _) _
              simp only [Act.put, List.setIfInBounds_toArray, List.set_cons_zero, List.set_cons_succ]
              refine wpAnyH_take (i := 14) (v := .pointer (some ⟨p, 0, none⟩)) rfl (by kernel_rfl) (by kernel_rfl) (by kernel_rfl) (fun _ _ _ h => h) (Or.inl ⟨by rfl, ?_⟩) (by assumption) ?_
              · intro w hSw
                obtain ⟨s0, s1, s2⟩ := HLD.out _ hSw
                go_simp
              show wpAnyH _ _ _ _ _ _ _ (Act.put _ (some 81) _) _
              simp only [Act.put, List.setIfInBounds_toArray, List.set_cons_zero, List.set_cons_succ]
              refine wpAnyH_take (i := 15) (v := .pointer (some ⟨bc, 1, none⟩)) rfl (by kernel_rfl) (by kernel_rfl) (by kernel_rfl) (fun _ _ _ h => h) (Or.inl ⟨by rfl, ?_⟩) (by assumption) ?_
              · intro w hSw
                obtain ⟨s0, s1, s2⟩ := HLD.out _ hSw
                go_simp
              show wpAnyH _ _ _ _ _ _ _ (Act.put _ (some 82) _) _
              simp only [Act.put, List.setIfInBounds_toArray, List.set_cons_zero, List.set_cons_succ]
              refine wpAnyH_take (i := 16) (v := .int .i64 edge) rfl (by kernel_rfl) (by kernel_rfl) (by kernel_rfl) (fun _ _ _ h => h) (Or.inl ⟨by rfl, ?_⟩) (by assumption) ?_
              · intro w hSw
                obtain ⟨s0, s1, s2⟩ := HLD.out _ hSw
                go_simp
              show wpAnyH _ _ _ _ _ _ _ (Act.put _ (some 83) _) _
              simp only [Act.put, List.setIfInBounds_toArray, List.set_cons_zero, List.set_cons_succ]
              refine wpAnyH_take (i := 17) (v := .pointer (some ⟨bc, 0, none⟩)) rfl (by kernel_rfl) (by kernel_rfl) (by kernel_rfl) (fun _ _ _ h => h) (Or.inl ⟨by rfl, ?_⟩) (by assumption) ?_
              · intro w hSw
                obtain ⟨s0, s1, s2⟩ := HLD.out _ hSw
                go_simp
              show wpAnyH _ _ _ _ _ _ _ (Act.put _ (some 84) _) _
              simp only [Act.put, List.setIfInBounds_toArray, List.set_cons_zero, List.set_cons_succ]
              refine wpAnyH_take (i := 18) (v := .int .i64 tick) rfl (by kernel_rfl) (by kernel_rfl) (by kernel_rfl) (fun _ _ _ h => h) (Or.inl ⟨by rfl, ?_⟩) (by assumption) ?_
              · intro w hSw
                obtain ⟨s0, s1, s2⟩ := HLD.out _ hSw
                go_simp
              show wpAnyH _ _ _ _ _ _ _ (Act.put _ (some 85) _) _
              simp only [Act.put, List.setIfInBounds_toArray, List.set_cons_zero, List.set_cons_succ]
              refine wpAnyH_take (i := 20) (v := .pointer (some ⟨bc, 2, none⟩)) rfl (by kernel_rfl) (by kernel_rfl) (by kernel_rfl) (fun _ _ _ h => h) (Or.inl ⟨by rfl, ?_⟩) (by assumption) ?_
              · intro w hSw
                obtain ⟨s0, s1, s2⟩ := HLD.out _ hSw
                go_simp
              show wpAnyH _ _ _ _ _ _ _ (Act.put _ (some 87) _) _
              simp only [Act.put, List.setIfInBounds_toArray, List.set_cons_zero, List.set_cons_succ]
              refine wpAnyH_take (i := 21) (v := .int .i64 time) rfl (by kernel_rfl) (by kernel_rfl) (by kernel_rfl) (fun _ _ _ h => h) (Or.inl ⟨by rfl, ?_⟩) (by assumption) ?_
              · intro w hSw
                obtain ⟨s0, s1, s2⟩ := HLD.out _ hSw
                go_simp
              show wpAnyH _ _ _ _ _ _ _ (Act.put _ (some 88) _) _
              simp only [Act.put, List.setIfInBounds_toArray, List.set_cons_zero, List.set_cons_succ]
              refine wpAnyH_ready (rs := [19]) (by kernel_rfl) (by simp) ?_
              refine AllReadyH.cons rfl (fun K hK => ?_) AllReadyH.nil
              go_simp
              ((with_reducible refine (at_any (HT5.out.below hBd) (by simp; omega) edge tick).mono ?_))
              rintro e w8 ⟨rfl, hb8⟩
              have hB8 := hBd.trans (hb8.mono hBd.size)
              rw [HA1.out]
              go_simp
              refine hK.out _ _ hB8 (fun hHeld => ?_)
              clear hK K hHeld
              have hHeld := hB8
              refine wpAnyH_take (i := 22) (v := .bool false) rfl (by kernel_rfl) (by kernel_rfl) (by kernel_rfl) (fun _ _ _ h => h) (Or.inl ⟨by rfl, ?_⟩) (by assumption) ?_
              · intro w hSw
                obtain ⟨s0, s1, s2⟩ := HLD.out _ hSw
                go_simp
              show wpAnyH _ _ _ _ _ _ _ (Act.put _ (some 89) _) _
              simp only [Act.put, List.setIfInBounds_toArray, List.set_cons_zero, List.set_cons_succ]
              refine wpAnyH_take (i := 23) (v := .bool false) rfl (by kernel_rfl) (by kernel_rfl) (by kernel_rfl) (fun _ _ _ h => h) (Or.inl ⟨by rfl, ?_⟩) (by assumption) ?_
              · intro w hSw
                obtain ⟨s0, s1, s2⟩ := HLD.out _ hSw
                go_simp
              show wpAnyH _ _ _ _ _ _ _ (Act.put _ (some 90) _) _
              simp only [Act.put, List.setIfInBounds_toArray, List.set_cons_zero, List.set_cons_succ]
              refine wpAnyH_take (i := 24) (v := .bool false) rfl (by kernel_rfl) (by kernel_rfl) (by kernel_rfl) (fun _ _ _ h => h) (Or.inl ⟨by rfl, ?_⟩) (by assumption) ?_
              · intro w hSw
                obtain ⟨s0, s1, s2⟩ := HLD.out _ hSw
                go_simp
              show wpAnyH _ _ _ _ _ _ _ (Act.put _ (some 91) _) _
              simp only [Act.put, List.setIfInBounds_toArray, List.set_cons_zero, List.set_cons_succ]
              refine wpAnyH_take (i := 25) (v := .pointer (some ⟨p, 0, none⟩)) rfl (by kernel_rfl) (by kernel_rfl) (by kernel_rfl) (fun _ _ _ h => h) (Or.inl ⟨by rfl, ?_⟩) (by assumption) ?_
              · intro w hSw
                obtain ⟨s0, s1, s2⟩ := HLD.out _ hSw
                go_simp
              show wpAnyH _ _ _ _ _ _ _ (Act.put _ (some 92) _) _
              simp only [Act.put, List.setIfInBounds_toArray, List.set_cons_zero, List.set_cons_succ]
              refine wpAnyH_take (i := 26) (v := .pointer (some ⟨bc, 1, none⟩)) rfl (by kernel_rfl) (by kernel_rfl) (by kernel_rfl) (fun _ _ _ h => h) (Or.inl ⟨by rfl, ?_⟩) (by assumption) ?_
              · intro w hSw
                obtain ⟨s0, s1, s2⟩ := HLD.out _ hSw
                go_simp
              show wpAnyH _ _ _ _ _ _ _ (Act.put _ (some 93) _) _
              simp only [Act.put, List.setIfInBounds_toArray, List.set_cons_zero, List.set_cons_succ]
              refine wpAnyH_take (i := 27) (v := .int .i64 edge) rfl (by kernel_rfl) (by kernel_rfl) (by kernel_rfl) (fun _ _ _ h => h) (Or.inl ⟨by rfl, ?_⟩) (by assumption) ?_
              · intro w hSw
                obtain ⟨s0, s1, s2⟩ := HLD.out _ hSw
                go_simp
              show wpAnyH _ _ _ _ _ _ _ (Act.put _ (some 94) _) _
              simp only [Act.put, List.setIfInBounds_toArray, List.set_cons_zero, List.set_cons_succ]
              refine wpAnyH_take (i := 29) (v := .pointer (some ⟨bc, 2, none⟩)) rfl (by kernel_rfl) (by kernel_rfl) (by kernel_rfl) (fun _ _ _ h => h) (Or.inl ⟨by rfl, ?_⟩) (by assumption) ?_
              · intro w hSw
                obtain ⟨s0, s1, s2⟩ := HLD.out _ hSw
                go_simp
              show wpAnyH _ _ _ _ _ _ _ (Act.put _ (some 96) _) _
              simp only [Act.put, List.setIfInBounds_toArray, List.set_cons_zero, List.set_cons_succ]
              refine wpAnyH_take (i := 30) (v := .int .i64 time) rfl (by kernel_rfl) (by kernel_rfl) (by kernel_rfl) (fun _ _ _ h => h) (Or.inl ⟨by rfl, ?_⟩) (by assumption) ?_
              · intro w hSw
                obtain ⟨s0, s1, s2⟩ := HLD.out _ hSw
                go_simp
              show wpAnyH _ _ _ _ _ _ _ (Act.put _ (some 97) _) _
              simp only [Act.put, List.setIfInBounds_toArray, List.set_cons_zero, List.set_cons_succ]
              refine wpAnyH_ready (rs := [28]) (by kernel_rfl) (by simp) ?_
              refine AllReadyH.cons rfl (fun K hK => ?_) AllReadyH.nil
              go_simp
              ((with_reducible refine (at_any (HT5.out.below hB8) (by simp; omega) edge 1099511627776).mono ?_))
              rintro e w9 ⟨rfl, hb9⟩
              have hB9 := hB8.trans (hb9.mono hB8.size)
              rw [HA2.out]
              go_simp
              refine hK.out _ _ hB9 (fun hHeld => ?_)
              clear hK K hHeld
              have hHeld := hB9
              refine wpAnyH_take (i := 31) (v := .bool false) rfl (by kernel_rfl) (by kernel_rfl) (by kernel_rfl) (fun _ _ _ h => h) (Or.inl ⟨by rfl, ?_⟩) (by assumption) ?_
              · intro w hSw
                obtain ⟨s0, s1, s2⟩ := HLD.out _ hSw
                go_simp
              show wpAnyH _ _ _ _ _ _ _ (Act.put _ (some 98) _) _
              simp only [Act.put, List.setIfInBounds_toArray, List.set_cons_zero, List.set_cons_succ]
              refine wpAnyH_take (i := 32) (v := .bool false) rfl (by kernel_rfl) (by kernel_rfl) (by kernel_rfl) (fun _ _ _ h => h) (Or.inl ⟨by rfl, ?_⟩) (by assumption) ?_
              · intro w hSw
                obtain ⟨s0, s1, s2⟩ := HLD.out _ hSw
                go_simp
              show wpAnyH _ _ _ _ _ _ _ (Act.put _ (some 99) _) _
              simp only [Act.put, List.setIfInBounds_toArray, List.set_cons_zero, List.set_cons_succ]
              refine wpAnyH_done (by kernel_rfl) ?_ _
              go_wp2_with fail
              go_meet
              case rel => exact ⟨rfl, hB9⟩
          case rest =>
            obtain ⟨rfl, hbc⟩ := hcut
            have HT6 := Lib.hid (HT5.out.below hbc)
            have HS1' := Lib.hid ((HS1.out.below hbc).more hbc.size)
            have HS3' := Lib.hid ((HS3.out.below hbc).more hbc.size)
            have HBZ' := Lib.hid (HBZ.out.trans (hbc.mono HBZ.out.size))
            have HLD' := Lib.hid (fun X (hX : Below wc.heap.size wc X) => HLD.out X (hbc.trans (hX.mono hbc.size)))
            clear hbc HT5 HS1 HS2 HS3 HBZ HLD HA1 HA2
            obtain ⟨m, hm⟩ : ∃ m, m = E.length := ⟨_, rfl⟩
            have HM := Lib.hid hm
            have hmE : m ≤ E.length := by omega
            have hEm : E.length ≤ m := by omega
            clear hm
            go_wp2_with fail
            go_loopw [14, 102] (fun _ iv wr => ∃ k : Nat, k ≤ m ∧ iv = .int .i64 k ∧ Below wc.heap.size wc wr) (fun _ i _ => m - (intOf i).toNat)
            case atStart => exact ⟨0, Nat.zero_le _, rfl, Below.refl _ _⟩
            case round =>
              obtain ⟨k, hk, rfl, hb⟩ := hrel
              have HB := Lib.hid hb
              by_cases hlt : k < m
              · have dlt : decide (k < E.length) = true := by simp; omega
                obtain ⟨b1, o1, q1, _, y1⟩ := (HS1'.out.below hb).int (allE_at (E := E) (i := k) (by omega) L tick)
                injection q1 with q1
                injection q1 with q11 q12
                subst q11 q12
                obtain ⟨b3, o3, q3, _, y3⟩ := (HS3'.out.below hb).int (allE_at (E := E) (i := k) (by omega) L 1099511627776)
                injection q3 with q3
                injection q3 with q31 q32
                subst q31 q32
                rw [Nat.zero_add] at y1 y3
                have hgz1 : g1 < wr.heap.size := by have := World.block_lt_of_cell? wr _ y1; simpa using this
                have hgz3 : g3 < wr.heap.size := by have := World.block_lt_of_cell? wr _ y3; simpa using this
                have HLX := Lib.hid (show ∀ X, Below wr.heap.size wr X → X.cell? ⟨bc, 0, none⟩ = some (.int .i64 tick) ∧ X.cell? ⟨bc, 0 + 1, none⟩ = some (.int .i64 edge) ∧ X.cell? ⟨g1, k, none⟩ = some (.int .i64 (atE E L (k : Nat) tick)) ∧ X.cell? ⟨g3, k, none⟩ = some (.int .i64 (atE E L (k : Nat) 1099511627776)) from fun X hX => by
                  obtain ⟨z0, z1, _⟩ := HLD'.out X (HB.out.trans (hX.mono HB.out.size))
                  exact ⟨z0, z1, (hX.cell (p := ⟨g1, k, none⟩) hgz1).trans y1, (hX.cell (p := ⟨g3, k, none⟩) hgz3).trans y3⟩)
                have HT7 := Lib.hid (HT6.out.below hb)
                have hkj : (k : Int) < (E.length : Int) := by omega
                have hk0 : (0 : Int) ≤ (k : Int) := by omega
                clear hb y1 y3
                obtain ⟨wi, rfl⟩ : ∃ wi, wi = wr := ⟨_, rfl⟩
                go_upto_region 17 with (fail)
                go_cut [130] (fun v wx => v = .bool false ∧ Below wi.heap.size wi wx)
                case first =>
                  by_cases hq : (k : Int) = edge
                  · have dq : ((k : Int) != edge) = false := by simpa using hq
                    clear hq
                    obtain ⟨wd, hwd⟩ : ∃ wd, wd = wi.drew := ⟨_, rfl⟩
                    have hBd : Below wi.heap.size wi wd := by rw [hwd]; exact below_drewN (Below.refl _ _) 1
                    refine wp_region_held_drew (S := fun X => Below wi.heap.size wi X) (by kernel_rfl) (by rw [← hwd]; exact hBd) (fun hHeld => ?_)
                    rw [← hwd]
                    clear hwd hHeld
                    have hHeld := hBd
                    refine wpAnyH_take (i := 0) (v := .int .i64 (k : Int)) rfl (by kernel_rfl) (by kernel_rfl) (by kernel_rfl) (fun _ _ _ h => h) (Or.inl ⟨by rfl, ?_⟩) (by assumption) ?_
                    · intro w hSw
                      obtain ⟨s0, s1, s2, s3⟩ := HLX.out _ hSw
                      go_simp
                    show wpAnyH _ _ _ _ _ _ _ (Act.put _ (some 105) _) _
                    simp only [Act.put, List.setIfInBounds_toArray, List.set_cons_zero, List.set_cons_succ]
                    refine wpAnyH_take (i := 1) (v := .pointer (some ⟨bc, 1, none⟩)) rfl (by kernel_rfl) (by kernel_rfl) (by kernel_rfl) (fun _ _ _ h => h) (Or.inl ⟨by rfl, ?_⟩) (by assumption) ?_
                    · intro w hSw
                      obtain ⟨s0, s1, s2, s3⟩ := HLX.out _ hSw
                      go_simp
                    show wpAnyH _ _ _ _ _ _ _ (Act.put _ (some 106) _) _
                    simp only [Act.put, List.setIfInBounds_toArray, List.set_cons_zero, List.set_cons_succ]
                    refine wpAnyH_take (i := 2) (v := .int .i64 edge) rfl (by kernel_rfl) (by kernel_rfl) (by kernel_rfl) (fun _ _ _ h => h) (Or.inl ⟨by rfl, ?_⟩) (by assumption) ?_
                    · intro w hSw
                      obtain ⟨s0, s1, s2, s3⟩ := HLX.out _ hSw
                      go_simp
                    show wpAnyH _ _ _ _ _ _ _ (Act.put _ (some 107) _) _
                    simp only [Act.put, List.setIfInBounds_toArray, List.set_cons_zero, List.set_cons_succ]
                    refine wpAnyH_take (i := 3) (v := .bool false) rfl (by kernel_rfl) (by kernel_rfl) (by kernel_rfl) (fun _ _ _ h => h) (Or.inl ⟨by rfl, ?_⟩) (by assumption) ?_
                    · intro w hSw
                      obtain ⟨s0, s1, s2, s3⟩ := HLX.out _ hSw
                      go_simp
                    show wpAnyH _ _ _ _ _ _ _ (Act.put _ (some 108) _) _
                    simp only [Act.put, List.setIfInBounds_toArray, List.set_cons_zero, List.set_cons_succ]
                    refine wpAnyH_take (i := 4) (v := .bool false) rfl (by kernel_rfl) (by kernel_rfl) (by kernel_rfl) (fun _ _ _ h => h) (Or.inl ⟨by rfl, ?_⟩) (by assumption) ?_
                    · intro w hSw
                      obtain ⟨s0, s1, s2, s3⟩ := HLX.out _ hSw
                      go_simp
                    show wpAnyH _ _ _ _ _ _ _ (Act.put _ (some 109) _) _
                    simp only [Act.put, List.setIfInBounds_toArray, List.set_cons_zero, List.set_cons_succ]
                    refine wpAnyH_take (i := 5) (v := undef) rfl (by kernel_rfl) (by kernel_rfl) (by kernel_rfl) (fun _ _ _ h => h) (Or.inr ⟨by rfl, rfl⟩) (by assumption) ?_
                    show wpAnyH _ _ _ _ _ _ _ (Act.put _ (some 110) _) _
                    simp only [Act.put, List.setIfInBounds_toArray, List.set_cons_zero, List.set_cons_succ]
                    refine wpAnyH_take (i := 6) (v := undef) rfl (by kernel_rfl) (by kernel_rfl) (by kernel_rfl) (fun _ _ _ h => h) (Or.inr ⟨by rfl, rfl⟩) (by assumption) ?_
                    show wpAnyH _ _ _ _ _ _ _ (Act.put _ (some 111) _) _
                    simp only [Act.put, List.setIfInBounds_toArray, List.set_cons_zero, List.set_cons_succ]
                    refine wpAnyH_take (i := 7) (v := undef) rfl (by kernel_rfl) (by kernel_rfl) (by kernel_rfl) (fun _ _ _ h => h) (Or.inr ⟨by rfl, rfl⟩) (by assumption) ?_
                    show wpAnyH _ _ _ _ _ _ _ (Act.put _ (some 112) _) _
                    simp only [Act.put, List.setIfInBounds_toArray, List.set_cons_zero, List.set_cons_succ]
                    refine wpAnyH_take (i := 8) (v := undef) rfl (by kernel_rfl) (by kernel_rfl) (by kernel_rfl) (fun _ _ _ h => h) (Or.inr ⟨by rfl, rfl⟩) (by assumption) ?_
                    show wpAnyH _ _ _ _ _ _ _ (Act.put _ (some 113) _) _
                    simp only [Act.put, List.setIfInBounds_toArray, List.set_cons_zero, List.set_cons_succ]
                    refine wpAnyH_take (i := 9) (v := undef) rfl (by kernel_rfl) (by kernel_rfl) (by kernel_rfl) (fun _ _ _ h => h) (Or.inr ⟨by rfl, rfl⟩) (by assumption) ?_
                    show wpAnyH _ _ _ _ _ _ _ (Act.put _ (some 114) _) _
                    simp only [Act.put, List.setIfInBounds_toArray, List.set_cons_zero, List.set_cons_succ]
                    refine wpAnyH_take (i := 10) (v := undef) rfl (by kernel_rfl) (by kernel_rfl) (by kernel_rfl) (fun _ _ _ h => h) (Or.inr ⟨by rfl, rfl⟩) (by assumption) ?_
                    show wpAnyH _ _ _ _ _ _ _ (Act.put _ (some 115) _) _
                    simp only [Act.put, List.setIfInBounds_toArray, List.set_cons_zero, List.set_cons_succ]
                    refine wpAnyH_take (i := 11) (v := undef) rfl (by kernel_rfl) (by kernel_rfl) (by kernel_rfl) (fun _ _ _ h => h) (Or.inr ⟨by rfl, rfl⟩) (by assumption) ?_
                    show wpAnyH _ _ _ _ _ _ _ (Act.put _ (some 116) _) _
                    simp only [Act.put, List.setIfInBounds_toArray, List.set_cons_zero, List.set_cons_succ]
                    refine wpAnyH_take (i := 12) (v := undef) rfl (by kernel_rfl) (by kernel_rfl) (by kernel_rfl) (fun _ _ _ h => h) (Or.inr ⟨by rfl, rfl⟩) (by assumption) ?_
                    show wpAnyH _ _ _ _ _ _ _ (Act.put _ (some 117) _) _
                    simp only [Act.put, List.setIfInBounds_toArray, List.set_cons_zero, List.set_cons_succ]
                    refine wpAnyH_take (i := 13) (v := undef) rfl (by kernel_rfl) (by kernel_rfl) (by kernel_rfl) (fun _ _ _ h => h) (Or.inr ⟨by rfl, rfl⟩) (by assumption) ?_
                    show wpAnyH _ _ _ _ _ _ _ (Act.put _ (some 118) _) _
                    simp only [Act.put, List.setIfInBounds_toArray, List.set_cons_zero, List.set_cons_succ]
                    refine wpAnyH_take (i := 14) (v := undef) rfl (by kernel_rfl) (by kernel_rfl) (by kernel_rfl) (fun _ _ _ h => h) (Or.inr ⟨by rfl, rfl⟩) (by assumption) ?_
                    show wpAnyH _ _ _ _ _ _ _ (Act.put _ (some 119) _) _
                    simp only [Act.put, List.setIfInBounds_toArray, List.set_cons_zero, List.set_cons_succ]
                    refine wpAnyH_take (i := 15) (v := undef) rfl (by kernel_rfl) (by kernel_rfl) (by kernel_rfl) (fun _ _ _ h => h) (Or.inr ⟨by rfl, rfl⟩) (by assumption) ?_
                    show wpAnyH _ _ _ _ _ _ _ (Act.put _ (some 120) _) _
                    simp only [Act.put, List.setIfInBounds_toArray, List.set_cons_zero, List.set_cons_succ]
                    refine wpAnyH_take (i := 16) (v := undef) rfl (by kernel_rfl) (by kernel_rfl) (by kernel_rfl) (fun _ _ _ h => h) (Or.inr ⟨by rfl, rfl⟩) (by assumption) ?_
                    show wpAnyH _ _ _ _ _ _ _ (Act.put _ (some 121) _) _
                    simp only [Act.put, List.setIfInBounds_toArray, List.set_cons_zero, List.set_cons_succ]
                    refine wpAnyH_take (i := 17) (v := undef) rfl (by kernel_rfl) (by kernel_rfl) (by kernel_rfl) (fun _ _ _ h => h) (Or.inr ⟨by rfl, rfl⟩) (by assumption) ?_
                    show wpAnyH _ _ _ _ _ _ _ (Act.put _ (some 122) _) _
                    simp only [Act.put, List.setIfInBounds_toArray, List.set_cons_zero, List.set_cons_succ]
                    refine wpAnyH_take (i := 18) (v := undef) rfl (by kernel_rfl) (by kernel_rfl) (by kernel_rfl) (fun _ _ _ h => h) (Or.inr ⟨by rfl, rfl⟩) (by assumption) ?_
                    show wpAnyH _ _ _ _ _ _ _ (Act.put _ (some 123) _) _
                    simp only [Act.put, List.setIfInBounds_toArray, List.set_cons_zero, List.set_cons_succ]
                    refine wpAnyH_take (i := 19) (v := undef) rfl (by kernel_rfl) (by kernel_rfl) (by kernel_rfl) (fun _ _ _ h => h) (Or.inr ⟨by rfl, rfl⟩) (by assumption) ?_
                    show wpAnyH _ _ _ _ _ _ _ (Act.put _ (some 124) _) _
                    simp only [Act.put, List.setIfInBounds_toArray, List.set_cons_zero, List.set_cons_succ]
                    refine wpAnyH_take (i := 20) (v := undef) rfl (by kernel_rfl) (by kernel_rfl) (by kernel_rfl) (fun _ _ _ h => h) (Or.inr ⟨by rfl, rfl⟩) (by assumption) ?_
                    show wpAnyH _ _ _ _ _ _ _ (Act.put _ (some 125) _) _
                    simp only [Act.put, List.setIfInBounds_toArray, List.set_cons_zero, List.set_cons_succ]
                    refine wpAnyH_take (i := 21) (v := undef) rfl (by kernel_rfl) (by kernel_rfl) (by kernel_rfl) (fun _ _ _ h => h) (Or.inr ⟨by rfl, rfl⟩) (by assumption) ?_
                    show wpAnyH _ _ _ _ _ _ _ (Act.put _ (some 126) _) _
                    simp only [Act.put, List.setIfInBounds_toArray, List.set_cons_zero, List.set_cons_succ]
                    refine wpAnyH_take (i := 22) (v := undef) rfl (by kernel_rfl) (by kernel_rfl) (by kernel_rfl) (fun _ _ _ h => h) (Or.inr ⟨by rfl, rfl⟩) (by assumption) ?_
                    show wpAnyH _ _ _ _ _ _ _ (Act.put _ (some 127) _) _
                    simp only [Act.put, List.setIfInBounds_toArray, List.set_cons_zero, List.set_cons_succ]
                    refine wpAnyH_take (i := 23) (v := undef) rfl (by kernel_rfl) (by kernel_rfl) (by kernel_rfl) (fun _ _ _ h => h) (Or.inr ⟨by rfl, rfl⟩) (by assumption) ?_
                    show wpAnyH _ _ _ _ _ _ _ (Act.put _ (some 128) _) _
                    simp only [Act.put, List.setIfInBounds_toArray, List.set_cons_zero, List.set_cons_succ]
                    refine wpAnyH_take (i := 24) (v := undef) rfl (by kernel_rfl) (by kernel_rfl) (by kernel_rfl) (fun _ _ _ h => h) (Or.inr ⟨by rfl, rfl⟩) (by assumption) ?_
                    show wpAnyH _ _ _ _ _ _ _ (Act.put _ (some 129) _) _
                    simp only [Act.put, List.setIfInBounds_toArray, List.set_cons_zero, List.set_cons_succ]
                    refine wpAnyH_take (i := 25) (v := .bool false) rfl (by kernel_rfl) (by kernel_rfl) (by kernel_rfl) (fun _ _ _ h => h) (Or.inl ⟨by rfl, ?_⟩) (by assumption) ?_
                    · intro w hSw
                      obtain ⟨s0, s1, s2, s3⟩ := HLX.out _ hSw
                      go_simp
                    show wpAnyH _ _ _ _ _ _ _ (Act.put _ (some 130) _) _
                    simp only [Act.put, List.setIfInBounds_toArray, List.set_cons_zero, List.set_cons_succ]
                    refine wpAnyH_done (by kernel_rfl) ?_ _
                    go_wp2_with fail
                    go_meet
                    case rel => exact ⟨rfl, hBd⟩
                  · have dq : ((k : Int) != edge) = true := by simpa using hq
                    have HX1 := Lib.hid (atE_snoc (E := E) (L := L) (c := ⟨tick, edge, time⟩) (i := (k : Int)) (t := tick) (fun q => hq q.1.symm))
                    have HX3 := Lib.hid (atE_snoc (E := E) (L := L) (c := ⟨tick, edge, time⟩) (i := (k : Int)) (t := 1099511627776) (fun q => hq q.1.symm))
                    clear hq
                    obtain ⟨wd, hwd⟩ : ∃ wd, wd = wi.drew := ⟨_, rfl⟩
                    have hBd : Below wi.heap.size wi wd := by rw [hwd]; exact below_drewN (Below.refl _ _) 1
                    refine wp_region_held_drew (S := fun X => Below wi.heap.size wi X) (by kernel_rfl) (by rw [← hwd]; exact hBd) (fun hHeld => ?_)
                    rw [← hwd]
                    clear hwd hHeld
                    have hHeld := hBd
                    refine wpAnyH_take (i := 0) (v := .int .i64 (k : Int)) rfl (by kernel_rfl) (by kernel_rfl) (by kernel_rfl) (fun _ _ _ h => h) (Or.inl ⟨by rfl, ?_⟩) (by assumption) ?_
                    · intro w hSw
                      obtain ⟨s0, s1, s2, s3⟩ := HLX.out _ hSw
                      go_simp
                    show wpAnyH _ _ _ _ _ _ _ (Act.put _ (some 105) _) _
                    simp only [Act.put, List.setIfInBounds_toArray, List.set_cons_zero, List.set_cons_succ]
                    refine wpAnyH_take (i := 1) (v := .pointer (some ⟨bc, 1, none⟩)) rfl (by kernel_rfl) (by kernel_rfl) (by kernel_rfl) (fun _ _ _ h => h) (Or.inl ⟨by rfl, ?_⟩) (by assumption) ?_
                    · intro w hSw
                      obtain ⟨s0, s1, s2, s3⟩ := HLX.out _ hSw
                      go_simp
                    show wpAnyH _ _ _ _ _ _ _ (Act.put _ (some 106) _) _
                    simp only [Act.put, List.setIfInBounds_toArray, List.set_cons_zero, List.set_cons_succ]
                    refine wpAnyH_take (i := 2) (v := .int .i64 edge) rfl (by kernel_rfl) (by kernel_rfl) (by kernel_rfl) (fun _ _ _ h => h) (Or.inl ⟨by rfl, ?_⟩) (by assumption) ?_
                    · intro w hSw
                      obtain ⟨s0, s1, s2, s3⟩ := HLX.out _ hSw
                      go_simp
                    show wpAnyH _ _ _ _ _ _ _ (Act.put _ (some 107) _) _
                    simp only [Act.put, List.setIfInBounds_toArray, List.set_cons_zero, List.set_cons_succ]
                    refine wpAnyH_take (i := 3) (v := .bool true) rfl (by kernel_rfl) (by kernel_rfl) (by kernel_rfl) (fun _ _ _ h => h) (Or.inl ⟨by rfl, ?_⟩) (by assumption) ?_
                    · intro w hSw
                      obtain ⟨s0, s1, s2, s3⟩ := HLX.out _ hSw
                      go_simp
                    show wpAnyH _ _ _ _ _ _ _ (Act.put _ (some 108) _) _
                    simp only [Act.put, List.setIfInBounds_toArray, List.set_cons_zero, List.set_cons_succ]
                    refine wpAnyH_take (i := 4) (v := .bool true) rfl (by kernel_rfl) (by kernel_rfl) (by kernel_rfl) (fun _ _ _ h => h) (Or.inl ⟨by rfl, ?_⟩) (by assumption) ?_
                    · intro w hSw
                      obtain ⟨s0, s1, s2, s3⟩ := HLX.out _ hSw
                      go_simp
                    show wpAnyH _ _ _ _ _ _ _ (Act.put _ (some 109) _) _
                    simp only [Act.put, List.setIfInBounds_toArray, List.set_cons_zero, List.set_cons_succ]
                    refine wpAnyH_take (i := 5) (v := .pointer (some ⟨p, 0, none⟩)) rfl (by kernel_rfl) (by kernel_rfl) (by kernel_rfl) (fun _ _ _ h => h) (Or.inl ⟨by rfl, ?_⟩) (by assumption) ?_
                    · intro w hSw
                      obtain ⟨s0, s1, s2, s3⟩ := HLX.out _ hSw
                      go_simp
                    show wpAnyH _ _ _ _ _ _ _ (Act.put _ (some 110) _) _
                    simp only [Act.put, List.setIfInBounds_toArray, List.set_cons_zero, List.set_cons_succ]
                    refine wpAnyH_take (i := 6) (v := .int .i64 (k : Int)) rfl (by kernel_rfl) (by kernel_rfl) (by kernel_rfl) (fun _ _ _ h => h) (Or.inl ⟨by rfl, ?_⟩) (by assumption) ?_
                    · intro w hSw
                      obtain ⟨s0, s1, s2, s3⟩ := HLX.out _ hSw
                      go_simp
                    show wpAnyH _ _ _ _ _ _ _ (Act.put _ (some 111) _) _
                    simp only [Act.put, List.setIfInBounds_toArray, List.set_cons_zero, List.set_cons_succ]
                    refine wpAnyH_take (i := 7) (v := .pointer (some ⟨bc, 0, none⟩)) rfl (by kernel_rfl) (by kernel_rfl) (by kernel_rfl) (fun _ _ _ h => h) (Or.inl ⟨by rfl, ?_⟩) (by assumption) ?_
                    · intro w hSw
                      obtain ⟨s0, s1, s2, s3⟩ := HLX.out _ hSw
                      go_simp
                    show wpAnyH _ _ _ _ _ _ _ (Act.put _ (some 112) _) _
                    simp only [Act.put, List.setIfInBounds_toArray, List.set_cons_zero, List.set_cons_succ]
                    refine wpAnyH_take (i := 8) (v := .int .i64 tick) rfl (by kernel_rfl) (by kernel_rfl) (by kernel_rfl) (fun _ _ _ h => h) (Or.inl ⟨by rfl, ?_⟩) (by assumption) ?_
                    · intro w hSw
                      obtain ⟨s0, s1, s2, s3⟩ := HLX.out _ hSw
                      go_simp
                    show wpAnyH _ _ _ _ _ _ _ (Act.put _ (some 113) _) _
                    simp only [Act.put, List.setIfInBounds_toArray, List.set_cons_zero, List.set_cons_succ]
                    refine wpAnyH_take (i := 10) (v := .slice (some ⟨g1, 0, none⟩) E.length E.length) rfl (by kernel_rfl) (by kernel_rfl) (by kernel_rfl) (fun _ _ _ h => h) (Or.inl ⟨by rfl, ?_⟩) (by assumption) ?_
                    · intro w hSw
                      obtain ⟨s0, s1, s2, s3⟩ := HLX.out _ hSw
                      go_simp
                    show wpAnyH _ _ _ _ _ _ _ (Act.put _ (some 115) _) _
                    simp only [Act.put, List.setIfInBounds_toArray, List.set_cons_zero, List.set_cons_succ]
                    refine wpAnyH_take (i := 11) (v := .int .i64 (k : Int)) rfl (by kernel_rfl) (by kernel_rfl) (by kernel_rfl) (fun _ _ _ h => h) (Or.inl ⟨by rfl, ?_⟩) (by assumption) ?_
                    · intro w hSw
                      obtain ⟨s0, s1, s2, s3⟩ := HLX.out _ hSw
                      go_simp
                    show wpAnyH _ _ _ _ _ _ _ (Act.put _ (some 116) _) _
                    simp only [Act.put, List.setIfInBounds_toArray, List.set_cons_zero, List.set_cons_succ]
                    refine wpAnyH_take (i := 12) (v := .pointer (some ⟨g1, k, none⟩)) rfl (by kernel_rfl) (by kernel_rfl) (by kernel_rfl) (fun _ _ _ h => h) (Or.inl ⟨by rfl, ?_⟩) (by assumption) ?_
                    · intro w hSw
                      obtain ⟨s0, s1, s2, s3⟩ := HLX.out _ hSw
                      go_simp
                    show wpAnyH _ _ _ _ _ _ _ (Act.put _ (some 117) _) _
                    simp only [Act.put, List.setIfInBounds_toArray, List.set_cons_zero, List.set_cons_succ]
                    refine wpAnyH_take (i := 13) (v := .int .i64 (atE E L (k : Nat) tick)) rfl (by kernel_rfl) (by kernel_rfl) (by kernel_rfl) (fun _ _ _ h => h) (Or.inl ⟨by rfl, ?_⟩) (by assumption) ?_
                    · intro w hSw
                      obtain ⟨s0, s1, s2, s3⟩ := HLX.out _ hSw
                      go_simp
                    show wpAnyH _ _ _ _ _ _ _ (Act.put _ (some 118) _) _
                    simp only [Act.put, List.setIfInBounds_toArray, List.set_cons_zero, List.set_cons_succ]
                    refine wpAnyH_ready (rs := [9]) (by kernel_rfl) (by simp) ?_
                    refine AllReadyH.cons rfl (fun K hK => ?_) AllReadyH.nil
                    go_simp
                    ((with_reducible refine (at_any (HT7.out.below hBd) (by simp; omega) (k : Int) tick).mono ?_))
                    rintro e w8 ⟨rfl, hb8⟩
                    have hB8 := hBd.trans (hb8.mono hBd.size)
                    rw [HX1.out]
                    go_simp
                    refine hK.out _ _ hB8 (fun hHeld => ?_)
                    clear hK K hHeld
                    have hHeld := hB8
                    refine wpAnyH_take (i := 14) (v := .bool false) rfl (by kernel_rfl) (by kernel_rfl) (by kernel_rfl) (fun _ _ _ h => h) (Or.inl ⟨by rfl, ?_⟩) (by assumption) ?_
                    · intro w hSw
                      obtain ⟨s0, s1, s2, s3⟩ := HLX.out _ hSw
                      go_simp
                    show wpAnyH _ _ _ _ _ _ _ (Act.put _ (some 119) _) _
                    simp only [Act.put, List.setIfInBounds_toArray, List.set_cons_zero, List.set_cons_succ]
                    refine wpAnyH_take (i := 15) (v := .bool false) rfl (by kernel_rfl) (by kernel_rfl) (by kernel_rfl) (fun _ _ _ h => h) (Or.inl ⟨by rfl, ?_⟩) (by assumption) ?_
                    · intro w hSw
                      obtain ⟨s0, s1, s2, s3⟩ := HLX.out _ hSw
                      go_simp
                    show wpAnyH _ _ _ _ _ _ _ (Act.put _ (some 120) _) _
                    simp only [Act.put, List.setIfInBounds_toArray, List.set_cons_zero, List.set_cons_succ]
                    refine wpAnyH_take (i := 16) (v := .pointer (some ⟨p, 0, none⟩)) rfl (by kernel_rfl) (by kernel_rfl) (by kernel_rfl) (fun _ _ _ h => h) (Or.inl ⟨by rfl, ?_⟩) (by assumption) ?_
                    · intro w hSw
                      obtain ⟨s0, s1, s2, s3⟩ := HLX.out _ hSw
                      go_simp
                    show wpAnyH _ _ _ _ _ _ _ (Act.put _ (some 121) _) _
                    simp only [Act.put, List.setIfInBounds_toArray, List.set_cons_zero, List.set_cons_succ]
                    refine wpAnyH_take (i := 17) (v := .int .i64 (k : Int)) rfl (by kernel_rfl) (by kernel_rfl) (by kernel_rfl) (fun _ _ _ h => h) (Or.inl ⟨by rfl, ?_⟩) (by assumption) ?_
                    · intro w hSw
                      obtain ⟨s0, s1, s2, s3⟩ := HLX.out _ hSw
                      go_simp
                    show wpAnyH _ _ _ _ _ _ _ (Act.put _ (some 122) _) _
                    simp only [Act.put, List.setIfInBounds_toArray, List.set_cons_zero, List.set_cons_succ]
                    refine wpAnyH_take (i := 19) (v := .slice (some ⟨g3, 0, none⟩) E.length E.length) rfl (by kernel_rfl) (by kernel_rfl) (by kernel_rfl) (fun _ _ _ h => h) (Or.inl ⟨by rfl, ?_⟩) (by assumption) ?_
                    · intro w hSw
                      obtain ⟨s0, s1, s2, s3⟩ := HLX.out _ hSw
                      go_simp
                    show wpAnyH _ _ _ _ _ _ _ (Act.put _ (some 124) _) _
                    simp only [Act.put, List.setIfInBounds_toArray, List.set_cons_zero, List.set_cons_succ]
                    refine wpAnyH_take (i := 20) (v := .int .i64 (k : Int)) rfl (by kernel_rfl) (by kernel_rfl) (by kernel_rfl) (fun _ _ _ h => h) (Or.inl ⟨by rfl, ?_⟩) (by assumption) ?_
                    · intro w hSw
                      obtain ⟨s0, s1, s2, s3⟩ := HLX.out _ hSw
                      go_simp
                    show wpAnyH _ _ _ _ _ _ _ (Act.put _ (some 125) _) _
                    simp only [Act.put, List.setIfInBounds_toArray, List.set_cons_zero, List.set_cons_succ]
                    refine wpAnyH_take (i := 21) (v := .pointer (some ⟨g3, k, none⟩)) rfl (by kernel_rfl) (by kernel_rfl) (by kernel_rfl) (fun _ _ _ h => h) (Or.inl ⟨by rfl, ?_⟩) (by assumption) ?_
                    · intro w hSw
                      obtain ⟨s0, s1, s2, s3⟩ := HLX.out _ hSw
                      go_simp
                    show wpAnyH _ _ _ _ _ _ _ (Act.put _ (some 126) _) _
                    simp only [Act.put, List.setIfInBounds_toArray, List.set_cons_zero, List.set_cons_succ]
                    refine wpAnyH_take (i := 22) (v := .int .i64 (atE E L (k : Nat) 1099511627776)) rfl (by kernel_rfl) (by kernel_rfl) (by kernel_rfl) (fun _ _ _ h => h) (Or.inl ⟨by rfl, ?_⟩) (by assumption) ?_
                    · intro w hSw
                      obtain ⟨s0, s1, s2, s3⟩ := HLX.out _ hSw
                      go_simp
                    show wpAnyH _ _ _ _ _ _ _ (Act.put _ (some 127) _) _
                    simp only [Act.put, List.setIfInBounds_toArray, List.set_cons_zero, List.set_cons_succ]
                    refine wpAnyH_ready (rs := [18]) (by kernel_rfl) (by simp) ?_
                    refine AllReadyH.cons rfl (fun K hK => ?_) AllReadyH.nil
                    go_simp
                    ((with_reducible refine (at_any (HT7.out.below hB8) (by simp; omega) (k : Int) 1099511627776).mono ?_))
                    rintro e w9 ⟨rfl, hb9⟩
                    have hB9 := hB8.trans (hb9.mono hB8.size)
                    rw [HX3.out]
                    go_simp
                    refine hK.out _ _ hB9 (fun hHeld => ?_)
                    clear hK K hHeld
                    have hHeld := hB9
                    refine wpAnyH_take (i := 23) (v := .bool false) rfl (by kernel_rfl) (by kernel_rfl) (by kernel_rfl) (fun _ _ _ h => h) (Or.inl ⟨by rfl, ?_⟩) (by assumption) ?_
                    · intro w hSw
                      obtain ⟨s0, s1, s2, s3⟩ := HLX.out _ hSw
                      go_simp
                    show wpAnyH _ _ _ _ _ _ _ (Act.put _ (some 128) _) _
                    simp only [Act.put, List.setIfInBounds_toArray, List.set_cons_zero, List.set_cons_succ]
                    refine wpAnyH_take (i := 24) (v := .bool false) rfl (by kernel_rfl) (by kernel_rfl) (by kernel_rfl) (fun _ _ _ h => h) (Or.inl ⟨by rfl, ?_⟩) (by assumption) ?_
                    · intro w hSw
                      obtain ⟨s0, s1, s2, s3⟩ := HLX.out _ hSw
                      go_simp
                    show wpAnyH _ _ _ _ _ _ _ (Act.put _ (some 129) _) _
                    simp only [Act.put, List.setIfInBounds_toArray, List.set_cons_zero, List.set_cons_succ]
                    refine wpAnyH_take (i := 25) (v := .bool false) rfl (by kernel_rfl) (by kernel_rfl) (by kernel_rfl) (fun _ _ _ h => h) (Or.inl ⟨by rfl, ?_⟩) (by assumption) ?_
                    · intro w hSw
                      obtain ⟨s0, s1, s2, s3⟩ := HLX.out _ hSw
                      go_simp
                    show wpAnyH _ _ _ _ _ _ _ (Act.put _ (some 130) _) _
                    simp only [Act.put, List.setIfInBounds_toArray, List.set_cons_zero, List.set_cons_succ]
                    refine wpAnyH_done (by kernel_rfl) ?_ _
                    go_wp2_with fail
                    go_meet
                    case rel => exact ⟨rfl, hB9⟩
                case rest =>
                  obtain ⟨rfl, hbc⟩ := hcut
                  have HBC3 := Lib.hid (HB.out.trans (hbc.mono HB.out.size))
                  clear hbc
                  go_wp2_with fail
                  go_roundw
                  case rel => exact ⟨k + 1, by omega, by go_num, HBC3.out⟩
                  case measure => simp [intOf]; omega
              · have hkk : k = m := by omega
                subst hkk
                have dlt : decide (k < E.length) = false := by simp; omega
                have HB9 := Lib.hid (HB0.out.trans ((HBZ'.out.trans (hb.mono HBZ'.out.size)).mono HB0.out.size))
                clear hb
                go_wp2_with fail
                go_ret
                exact ⟨rfl, HB9.out⟩
        · have HT5 := Lib.hid (show TabAt w4 B gp 5 E p cb F4 L from by have := HT4.out; rw [putL_bad he] at this; exact this)
          have dne : (errC E.length L ⟨tick, edge, time⟩ != 0) = true := by simpa using he
          have deq : (errC E.length L ⟨tick, edge, time⟩ == 0) = false := by simpa using he
          clear he HT4
          go_wp2_with fail
          refine (all_any HT5.out (by omega) (by omega) tick).mono ?_
          rintro e w5 ⟨g5, rfl, hg5, hown5, hb5⟩
          have HNUM := Lib.hid (numE (by omega) (own_sl hown5) ((HS1.out.below hb5).more hb5.size) rfl)
          have HB5 := Lib.hid hb5
          clear hown5 hb5
          go_wp2_with fail
          refine HNUM.out.mono ?_
          rintro e w6 ⟨rfl, hb6⟩
          have HB6 := Lib.hid (below_then HB5.out hb6)
          clear hb6
          go_wp2_with fail
          refine (all_any (HT5.out.below HB6.out) (by omega) (by omega) 1099511627776).mono ?_
          rintro e w7 ⟨g7, rfl, hg7, hown7, hb7⟩
          have HB7 := Lib.hid (below_then HB6.out hb7)
          have HNUM2 := Lib.hid (numE (by omega) (own_sl hown7) ((HS3.out.below HB7.out).more HB7.out.size) rfl)
          clear hown7 hb7
          go_wp2_with fail
          refine HNUM2.out.mono ?_
          rintro e w8 ⟨rfl, hb8⟩
          have HB8 := Lib.hid (HB0.out.trans ((HBZ.out.trans ((below_then HB7.out hb8).mono HBZ.out.size)).mono HB0.out.size))
          clear hb8
          go_wp2_with fail
          go_ret
          exact ⟨rfl, HB8.out⟩
  · go_wp2_with fail
    go_ret
    exact ⟨rfl, HB0.out.trans ((HB2.out.alloc HB2.out.size _).mono HB0.out.size)⟩

theorem laid_met (os : Os) : laidMet Tryd.prog Rows.travelTimesIsolatedUptoRow.laid ((World.laidAll Tryd.prog os Rows.travelTimesIsolatedUptoRow.laid).forCall (fun _ _ => 0) ⟨#[], #[.slice none 0 0, .slice none 0 0, .agg #[.int .i64 0, .int .i64 0, .int .i64 0]], []⟩).memory :=
  laidMet_laidAll _ (laid_fits os) (laid_ifaces os)
theorem reads (os : Os) {H : Type} (enc : TypeId × Value → H) : ∃ places, DataW.whole enc Tryd.prog ((World.laidAll Tryd.prog os Rows.travelTimesIsolatedUptoRow.laid).forCall (fun _ _ => 0) ⟨#[], #[.slice none 0 0, .slice none 0 0, .agg #[.int .i64 0, .int .i64 0, .int .i64 0]], []⟩).memory Tryd.f3.params.toList Rows.travelTimesIsolatedSpec.vars false #[Value.slice none 0 0, .slice none 0 0, .agg #[.int .i64 0, .int .i64 0, .int .i64 0]].toList 8 = some ([.nil, .nil, .agg [.lit (.int .i64 0), .lit (.int .i64 0), .lit (.int .i64 0)]], [], places) :=
  ⟨[], by kernel_rfl⟩

set_option maxRecDepth 100000 in
theorem lifted (os : Os) (started : os.Started) (H : Type) (enc : TypeId × Value → H) (F : Stop.Interp) :
    ReturnsInHanded {} Tryd.checked os 3 .any ((Rows.OpenSpec.upto Rows.travelTimesIsolatedSpec).preRow enc Tryd.prog Tryd.f3 Rows.travelTimesIsolatedUptoRow.domain false Rows.travelTimesIsolatedUptoRow.laid) (((Rows.OpenSpec.upto Rows.travelTimesIsolatedSpec).at F).post enc Tryd.prog Tryd.f3 false true false false) := by
  obtain ⟨places, hx⟩ := reads os enc
  refine returnsInHanded_of_row (C := Tryd.checked) (s := Rows.OpenSpec.upto Rows.travelTimesIsolatedSpec) own started (by kernel_rfl) Tryd.func3
    (witness_row_atRef (enc := enc) (C := Tryd.checked) false (World.laidAll Tryd.prog os Rows.travelTimesIsolatedUptoRow.laid) #[.slice none 0 0, .slice none 0 0, .agg #[.int .i64 0, .int .i64 0, .int .i64 0]] (World.laidAll_os _ _ _) (laid_vars os _) (laid_rest os _) (by kernel_rfl)
      (OpenSpec.preRow_of_cond 8 hx (by kernel_rfl) (fun k hk => by cases hk; kernel_rfl) (by kernel_rfl) (laid_met os))) ?_
  intro W base args ds gs before hval0 hW _ hcond _ hLH hSh _
  have hL0 := hLH
  rw [MakeChecks.laidMetH_plain _ _ _ (by kernel_rfl)] at hL0
  have hL : laidMet Tryd.prog Rows.travelTimesIsolatedUptoRow.laid W := hL0
  clear hL0
  have hr : Ready W := ready_of hL.tail.tail hSh
  have hval : ∀ (j : Nat) t v, Tryd.f3.params[j]? = some t → args[j]? = some v → Value.okWide Tryd.prog W .any base t v := hval0
  have hW' := hW
  obtain ⟨p, q, hA0, hV, rfl, hfz, hnd⟩ := hW
  have hA : DataW.TrodAll enc Tryd.prog W 0 (fun _ => true) true Tryd.f3.params.toList args.toList ds p := hA0
  rw [Tryd.params3] at hA hval
  obtain ⟨v0, vs0, d0, ds0, p0, q0, hargs, rfl, rfl, h0, r0⟩ := trodAll_cons hA
  obtain ⟨v1, vs1, d1, ds1, p1, q1, rfl, rfl, rfl, h1, r1⟩ := trodAll_cons r0
  obtain ⟨v2, vs2, d2, ds2, p2, q2, rfl, rfl, rfl, h2, r2⟩ := trodAll_cons r1
  obtain ⟨rfl, rfl, rfl⟩ := trodAll_nil r2
  obtain rfl : args = #[v0, v1, v2] := by cases args; simp_all
  obtain ⟨rfl, rfl⟩ := trodVars_none hV
  have hk := bulk_three (hcond _ rfl)
  obtain ⟨A0, zs0, c0, rfl, hs0, hwf0, hc0, hm0, hz0⟩ := open_sl Tryd.underlying22 Tryd.underlying2 (by kernel_rfl) (hval 0 22 v0 rfl rfl) h0
  have hn0 : zs0.length ≤ 1048576 := Nat.le_trans (bulk_slice Tryd.underlying22 h0) hk.1
  obtain ⟨A1, l1, c1, rfl, hl1, hc1, hm1, hz1⟩ := open_chgs (hval 1 23 v1 rfl rfl) h1
  obtain ⟨c2, rfl, hc2⟩ := open_chg (hval 2 25 v2 rfl rfl) h2
  clear hA0 hval0
  refine (walk W A0 zs0 c0 hs0 hn0 A1 l1 c1 hl1 c2 hc2 hr).mono fun e W' ⟨he, hb⟩ => ?_
  subst he
  exact ⟨_, rfl, law_post laidOut (by kernel_rfl) rfl Tryd.underlying4 rfl hW' rfl rfl rfl hb⟩

theorem said : Rows.TravelTimesIsolatedUptoSaid :=
  OpenClaim.holds_of_cond 3 Tryd.f3 rfl rfl rfl rfl rfl rfl rfl ⟨rfl, rfl, rfl, rfl, rfl⟩ rfl rfl rfl rfl rfl (by kernel_rfl) Tryd.func3 (by kernel_rfl)
    (of_decide_eq_true (by kernel_rfl)) (by unfold Func.isWrapper; first | (rw [if_pos (by decide +kernel)]; kernel_rfl) | (rw [if_neg (by decide +kernel)]; exact ⟨rfl, rfl⟩))
    (fun os started H enc _ F => by rw [OpenClaim.pre_eq_preRow]; exact lifted os started H enc F)

/-- No parameter wants a stand-in; the program's looks are those of the card. -/
theorem plain (f : FuncId) (fn : Func) (hf : Tryd.pinned.checked.prog.funcNamed "samaritan/samaritanlaw08.TravelTimesIsolated" = some f) (hfn : Tryd.pinned.checked.prog.funcs[f]? = some fn) :
    false = Tryd.pinned.checked.prog.looks [] ∧ ∀ (j : Nat) t, fn.params[j]? = some t → Tryd.pinned.checked.prog.wantsStandIn t = false := by
  obtain rfl : f = 3 := Option.some.inj ((show Tryd.prog.funcNamed "samaritan/samaritanlaw08.TravelTimesIsolated" = some 3 by kernel_rfl).symm.trans hf) |>.symm
  obtain rfl : fn = Tryd.f3 := (Option.some.inj (Tryd.func3.symm.trans hfn)).symm
  refine ⟨by kernel_rfl, fun j t ht => ?_⟩
  rw [Tryd.params3] at ht
  have hm := Array.mem_of_getElem? ht
  have hall : (#[22, 23, 25] : Array TypeId).toList.all (fun t => Tryd.prog.wantsStandIn t == false) = true := by kernel_rfl
  have := List.all_eq_true.1 hall t (by simpa using hm)
  exact beq_iff_eq.1 this

theorem card : Rows.TravelTimesIsolatedUptoCardSaid :=
  Claim7.holds_tied_plain_at .later [] _ _ _ _ said (fun _ h => by cases h) (by kernel_rfl) (fun _ h => by cases h) travelTimesIsolatedUpto_row_tie rfl ⟨rfl, rfl⟩ (by kernel_rfl) rfl plain (by kernel_rfl)
#print axioms card
end Go.Proofs.YtegifbmcapnkdaaDoor.l08Isolated
