/-
  samaritanlaw08.TravelTimesChanges returns true for every input whose reading is of bulk at most 1048576, and the arguments read afterwards as before.
  Conditions: those of the given row (its list of package variables), tied to the program's text by the given tie; the card speaks of the pruned copy of the project that the seat was translated from.
-/
import Derived.Test.YtegifbmcapnkdaaDoorCards
import Derived.Test.YtegifbmcapnkdaaDoorTie
import Derived.Test.YtegifbmcapnkdaaDoorMatch
import Derived.Test.YtegifbmcapnkdaaDoorAlive
import Derived.Test.YtegifbmcapnkdaaDoorRefI
import Derived.Test.YtegifbmcapnkdaaDoorOpenC
import Derived.Test.YtegifbmcapnkdaaDoorSeen
import Derived.Test.YtegifbmcapnkdaaDoorLift
import Derived.Test.YtegifbmcapnkdaaDoorLaidT
import Derived.OpenShut
import Derived.Deep.DeepHandedRow
namespace Go.Proofs.YtegifbmcapnkdaaDoor.l08Changes
open Go.ChangeShapes Go.WideShapes Go.ChangeAt Go.RowKit Go.Maps
open Go.ChangeMaps (open_string shut_string)

set_option maxRecDepth 100000 in
set_option maxHeartbeats 4000000 in
theorem walk (w : World) (A0 : Option Addr) (zs : List Int) (c0 : Nat) (hs0 : Sl w w.heap.size A0 (zs.map (Value.int .i64))) (hN : zs.length ≤ 1048576) (A1 : Option Addr) (l : List ChgT) (c1 : Nat) (hl1 : ChgsAt w w.heap.size A1 l) (a b : Int) (hr : Ready w) :
    Calls Tryd.prog 4 #[.slice A0 zs.length c0, .slice A1 l.length c1, .agg #[.int .i64 a, .int .i64 b]] w fun e w' => e = .returned (.bool true) ∧ Below w.heap.size w w' := by
  obtain ⟨bt, hbt⟩ : ∃ bt, bt = w.heap.size := ⟨_, rfl⟩
  obtain ⟨W0, hW0⟩ : ∃ W0, W0 = w.alloc (.cells #[.int .i64 a, .int .i64 b] 41) := ⟨_, rfl⟩
  have hb0 : Below w.heap.size w W0 := by rw [hW0]; exact (Below.refl _ _).alloc (Nat.le_refl _) _
  have hz0 : bt < W0.heap.size := by rw [hW0, hbt]; simp
  have HCC := Lib.hid (show ∀ X, Below W0.heap.size W0 X → X.cell? ⟨bt, 0, none⟩ = some (.int .i64 a) ∧ X.cell? ⟨bt, 1, none⟩ = some (.int .i64 b) from fun X hX => by
    have k : ∀ j, X.cell? ⟨bt, j, none⟩ = (#[.int .i64 a, .int .i64 b] : Array Value)[j]? := fun j => (hX.cell (p := ⟨bt, j, none⟩) hz0).trans (by rw [hW0, World.cell?_alloc_at (hn := hbt)])
    rw [k, k]
    exact ⟨rfl, rfl⟩)
  have HS0 := Lib.hid ((hs0.below hb0).more hb0.size)
  have HL1 := Lib.hid ((RecsAt.below hl1 hb0).more hb0.size)
  have hal := alive_any W0 (hr.below hb0)
  have HAL := Lib.hid hal
  have HW0 := Lib.hid hW0
  have HB0 := Lib.hid hb0
  clear hs0 hl1 hal hr hW0 hb0
  go_enter Tryd.func4, Tryd.ntmps4
  go_wp2_with fail
  rw [← HW0.out, ← hbt]
  clear hbt
  refine HAL.out.mono ?_
  rintro e w1 ⟨rfl, hb1⟩
  have HB1 := Lib.hid hb1
  clear hb1
  go_wp2_with fail
  refine (made_any w1 A0 c0 zs ((HS0.out.below HB1.out).more HB1.out.size) hN).mono ?_
  rintro e w2 ⟨hb2, h⟩
  have HB2 := Lib.hid (HB1.out.trans (hb2.mono HB1.out.size))
  clear hb2
  rcases h with ⟨hok, h30, gp, p, cb, B, rfl, hB, ht⟩ | ⟨_, rfl⟩
  · obtain ⟨E, hE⟩ : ∃ E, E = ringE zs := ⟨_, rfl⟩
    have hEl : zs.length = E.length := by rw [hE, ringE_len]
    have hEm : E.map EdgeT.tm = zs := by rw [hE, ringE_tm]
    rw [← hE] at ht
    have hst := both_start c0 HB2.out (Nat.le_trans HB1.out.size hB) ht (by rw [hEm]; exact HS0.out)
    rw [hEl] at h30 ⊢
    have HST := Lib.hid hst
    have HBB := Lib.hid (HB2.out.alloc HB2.out.size (.cells #[.slice A0 E.length c0, .slice none 0 0] 30))
    have HwB := Lib.hid (Nat.le_trans HB1.out.size hB)
    have HTW := Lib.hid (fun b (hb : tabB p cb E.length (fun _ => .slice none 0 0) b) => ht.lt hb)
    clear hst hok hE hEm ht hEl hN
    by_cases hl60 : 60 < l.length
    · have d0 : decide ((60 : Int) < (l.length : Int)) = true := by simp; omega
      go_wp2_with fail
      go_ret
      exact ⟨rfl, HB0.out.trans (HBB.out.mono HB0.out.size)⟩
    · have d0 : decide ((60 : Int) < (l.length : Int)) = false := by simp; omega
      obtain ⟨rb, hrb⟩ : ∃ rb, rb = w2.heap.size := ⟨_, rfl⟩
      obtain ⟨W2, hW2⟩ : ∃ W2, W2 = w2.alloc (.cells #[.slice A0 E.length c0, .slice none 0 0] 30) := ⟨_, rfl⟩
      rw [← hW2] at HST
      have HBW := Lib.hid (show Below W0.heap.size W0 W2 from by rw [hW2]; exact HBB.out)
      have hrz2 : rb + 1 = W2.heap.size := by rw [hW2, hrb]; simp
      have HRC := Lib.hid (show ∀ j, W2.cell? ⟨rb, j, none⟩ = (#[.slice A0 E.length c0, .slice none 0 0] : Array Value)[j]? from fun j => by rw [hW2, World.cell?_alloc_at (hn := hrb)])
      have HRF := Lib.hid (show ∀ j, W2.frozen? ⟨rb, j, none⟩ = false from fun j => by rw [hW2, World.frozen?_alloc_at (hn := hrb)])
      have hbh := behind_any HST.out c0 A1 c1 l (RecsAt.more (RecsAt.below HL1.out HBW.out) HwB.out) (by simp; omega)
      have HBH := Lib.hid hbh
      have HW2 := Lib.hid hW2
      have HT0 := Lib.hid (show ∀ b, tabB p cb E.length (fun _ => .slice none 0 0) b → B ≤ b ∧ b < rb from fun b hb => by rw [hrb]; exact HTW.out b hb)
      have hrbB : B ≤ rb := by have := HT0.out p (.inl rfl); omega
      have HRB := Lib.hid hrb
      clear hW2 hbh
      go_wp2_with fail
      rw [← HW2.out, ← hrb]
      clear hrb
      refine HBH.out.mono ?_
      rintro e w3 ⟨F3, LA3, lc3, rfl, hb3, ho3, hF3⟩
      obtain ⟨L, hL⟩ : ∃ L, L = putAll E.length [] l := ⟨_, rfl⟩
      rw [← hL] at hb3 ⊢
      have hLl : L.length ≤ 60 := by
        rw [hL]
        have h1 := putAll_len E.length l []
        simp only [List.length_nil] at h1
        omega
      have hz3 := ho3.size
      have hrn : ¬ tabB p cb E.length (fun _ => .slice none 0 0) rb := fun q => by have := (HT0.out rb q).2; omega
      have hrc : ∀ j, w3.cell? ⟨rb, j, none⟩ = (#[.slice A0 E.length c0, .slice none 0 0] : Array Value)[j]? := fun j => (ho3.cell (a := ⟨rb, j, none⟩) (by show rb < _; omega) hrn).trans (HRC.out j)
      have hrf : ∀ j, w3.frozen? ⟨rb, j, none⟩ = false := fun j => (ho3.frozen (a := ⟨rb, j, none⟩) (by show rb < _; omega) hrn).trans (HRF.out j)
      have r0 := hrc 0
      have r1 := hrc (0 + 1)
      have f0 := hrf 0
      have f1 := hrf (0 + 1)
      replace r0 : w3.cell? ⟨rb, 0, none⟩ = some (.slice A0 E.length c0) := r0
      replace r1 : w3.cell? ⟨rb, 0 + 1, none⟩ = some (.slice none 0 0) := r1
      have hap : ApartL LA3 L (fun b => b = rb) := by
        intro hne b o e q
        have q : b = rb := q
        obtain ⟨d, hd⟩ : ∃ d, L[0]? = some d := by
          cases L with
          | nil => exact absurd rfl hne
          | cons x t => exact ⟨x, rfl⟩
        obtain ⟨b', o', e', _, k0, _⟩ := chg_at hb3.list hd
        rw [e] at e'
        injection e' with e'
        injection e' with e1 e2
        rw [← e1, q, hrc] at k0
        match ho : o' + 0 * 3, k0 with
        | 0, k0 => simp at k0
        | 1, k0 => simp at k0
        | j + 2, k0 => simp at k0
      have hS3 := putRoads_only w3 rb (.slice A0 E.length c0) (.slice LA3 L.length lc3)
      have HBO := Lib.hid (hb3.only hS3 (fun b q => by have q : b = rb := q; omega) (fun b hb q => by
        have q : b = rb := q
        rcases hF3 b hb with r | r
        · have := (HT0.out b r).2; omega
        · omega) hap)
      have HBZ := Lib.hid ((HBW.out.trans (ho3.below (B := W0.heap.size) HBW.out.size (fun b hb => Nat.le_trans HwB.out (HT0.out b hb).1))).trans (hS3.below (B := W0.heap.size) (by have := HBW.out.size; omega) (fun b q => by have q : b = rb := q; have := HwB.out; omega)))
      have HRR := Lib.hid (show (putRoads w3 rb (.slice A0 E.length c0) (.slice LA3 L.length lc3)).cell? ⟨rb, 0, none⟩ = some (.slice A0 E.length c0) ∧ (putRoads w3 rb (.slice A0 E.length c0) (.slice LA3 L.length lc3)).cell? ⟨rb, 0 + 1, none⟩ = some (.slice LA3 L.length lc3) from by
        have s1 : (w3.setCell ⟨rb, 0, none⟩ (.slice A0 E.length c0)).cell? ⟨rb, 0, none⟩ = some (.slice A0 E.length c0) := World.cell?_setCell_same' _ _ _ (by rw [r0]; rfl)
        have s2 : (w3.setCell ⟨rb, 0, none⟩ (.slice A0 E.length c0)).cell? ⟨rb, 0 + 1, none⟩ = some (.slice none 0 0) := (World.cell?_setCell_other w3 _ ⟨rb, 0 + 1, none⟩ _ (by simp)).trans r1
        exact ⟨(World.cell?_setCell_other _ _ ⟨rb, 0, none⟩ _ (by simp)).trans s1, World.cell?_setCell_same' _ _ _ (by rw [s2]; rfl)⟩)
      have hrz : rb < (putRoads w3 rb (.slice A0 E.length c0) (.slice LA3 L.length lc3)).heap.size := by have := hS3.size; omega
      obtain ⟨k0, k1⟩ := HCC.out _ HBZ.out
      have kk0 : w3.cell? ⟨bt, 0, none⟩ = some (.int .i64 a) := (World.cell?_setCell_other _ _ ⟨bt, 0, none⟩ _ (fun q => by injection q with q; have := HwB.out; omega)).symm.trans ((World.cell?_setCell_other _ _ ⟨bt, 0, none⟩ _ (fun q => by injection q with q; have := HwB.out; omega)).symm.trans k0)
      have kk1 : w3.cell? ⟨bt, 1, none⟩ = some (.int .i64 b) := (World.cell?_setCell_other _ _ ⟨bt, 1, none⟩ _ (fun q => by injection q with q; have := HwB.out; omega)).symm.trans ((World.cell?_setCell_other _ _ ⟨bt, 1, none⟩ _ (fun q => by injection q with q; have := HwB.out; omega)).symm.trans k1)
      have nbr : ¬ bt = rb := by have := HwB.out; omega
      have nrb : ¬ rb = bt := by have := HwB.out; omega
      clear hb3 ho3 hF3 hL HBH HST HT0 d0 hrc hrf hap hS3 k0 k1 HTW hrn
      go_wp2_with fail
      obtain ⟨P, hP⟩ : ∃ P, P = putRoads w3 rb (.slice A0 E.length c0) (.slice LA3 L.length lc3) := ⟨_, rfl⟩
      have hP2 : (w3.setCell ⟨rb, 0, none⟩ (.slice A0 E.length c0)).setCell ⟨rb, 1, none⟩ (.slice LA3 L.length lc3) = P := hP.symm
      rw [← hP] at HBO HBZ HRR hrz
      rw [hP2]
      clear hP hP2 kk0 kk1 r0 r1 f0 f1
      have HLD := Lib.hid (show ∀ X, Below P.heap.size P X → X.cell? ⟨bt, 0, none⟩ = some (.int .i64 a) ∧ X.cell? ⟨bt, 1, none⟩ = some (.int .i64 b) ∧ X.cell? ⟨rb, 0, none⟩ = some (.slice A0 E.length c0) ∧ X.cell? ⟨rb, 0 + 1, none⟩ = some (.slice LA3 L.length lc3) from fun X hX => by
        obtain ⟨z0, z1⟩ := HCC.out X (HBZ.out.trans (hX.mono HBZ.out.size))
        exact ⟨z0, z1, (hX.cell (p := ⟨rb, 0, none⟩) hrz).trans HRR.out.1, (hX.cell (p := ⟨rb, 0 + 1, none⟩) hrz).trans HRR.out.2⟩)
      refine (changes_any HBO.out.tab (by omega) a b).mono ?_
      rintro e w4 ⟨lb, A', rfl, hlb1, hlb2, hlbc, hsub, hb4⟩
      obtain ⟨S, hS⟩ : ∃ S, S = chgsL L a b := ⟨_, rfl⟩
      have hSl : S.length ≤ 60 := by rw [hS]; exact Nat.le_trans (chgsL_len _ _ _) hLl
      rw [← hS] at hlbc hsub
      have HS := Lib.hid hS
      have HB4 := Lib.hid hb4
      have HLB := Lib.hid hlbc
      have HSUB := Lib.hid hsub
      obtain ⟨z0, z1, z2, z3⟩ := HLD.out w4 hb4
      have hbt := between_any (HBO.out.below hb4).roads c0 (by omega) a b
      have HBT := Lib.hid hbt
      clear hS hlbc hsub hb4 hbt
      go_wp2_with fail
      refine HBT.out.mono ?_
      rintro e w5 ⟨v5, rfl, hown5, hb5⟩
      rw [← HS.out] at hown5
      have HOW5 := Lib.hid hown5
      obtain ⟨WA, wcap, rfl, hsl5⟩ := OwnR.sl hown5
      have HSL5 := Lib.hid hsl5
      have HB5 := Lib.hid (HB4.out.trans (hb5.mono HB4.out.size))
      obtain ⟨wb, hwb⟩ : ∃ wb, wb = w5.heap.size := ⟨_, rfl⟩
      obtain ⟨W6, hW6⟩ : ∃ W6, W6 = w5.alloc (.cells #[.slice WA S.length wcap] 23) := ⟨_, rfl⟩
      have hb6 : Below w5.heap.size w5 W6 := by rw [hW6]; exact (Below.refl _ _).alloc (Nat.le_refl _) _
      have hz6 : wb < W6.heap.size := by rw [hW6, hwb]; simp
      have y6 : W6.cell? ⟨wb, 0, none⟩ = some (.slice WA S.length wcap) := by rw [hW6, World.cell?_alloc_at (hn := hwb)]; rfl
      have HY6 := Lib.hid y6
      have HB6 := Lib.hid (HB5.out.trans (hb6.mono HB5.out.size))
      have HSL6 := Lib.hid (show ChgsAt W6 W6.heap.size WA S from (RecsAt.below hsl5 hb6).more hb6.size)
      have HLB6 := Lib.hid (show W6.cell? ⟨lb, 0, none⟩ = some (.slice A' S.length S.length) from (hb6.cell (p := ⟨lb, 0, none⟩) (by show lb < _; have := hb5.size; omega)).trans ((hb5.cell (p := ⟨lb, 0, none⟩) hlb2).trans HLB.out))
      have hwb4 : P.heap.size ≤ wb := by rw [hwb]; exact HB5.out.size
      have HW6 := Lib.hid hW6
      have hz45 : w4.heap.size ≤ w5.heap.size := hb5.size
      have hz56 : w5.heap.size ≤ W6.heap.size := hb6.size
      clear hown5 hb5 hsl5 hb6 hW6 y6 z0 z1 z2 z3
      go_wp2_with fail
      rw [← HW6.out, ← hwb]
      have HWB := Lib.hid hwb
      clear hwb
      obtain ⟨wo, rfl⟩ : ∃ wo, wo = W6 := ⟨_, rfl⟩
      have HLDo := Lib.hid (show ∀ X, Below wo.heap.size wo X → X.cell? ⟨bt, 0, none⟩ = some (.int .i64 a) ∧ X.cell? ⟨bt, 1, none⟩ = some (.int .i64 b) ∧ X.cell? ⟨wb, 0, none⟩ = some (.slice WA S.length wcap) from fun X hX => by
        obtain ⟨z0, z1, _, _⟩ := HLD.out X (HB6.out.trans (hX.mono HB6.out.size))
        exact ⟨z0, z1, (hX.cell (p := ⟨wb, 0, none⟩) hz6).trans HY6.out⟩)
      have HTO := Lib.hid ((HBO.out.below HB6.out).tab)
      go_upto_region 9 with (fail)
      go_cut [61] (fun v wx => v = .bool false ∧ Below wo.heap.size wo wx)
      case first =>
        obtain ⟨wd, hwd⟩ : ∃ wd, wd = wo.drew := ⟨_, rfl⟩
        have hBd : Below wo.heap.size wo wd := by rw [hwd]; exact below_drewN (Below.refl _ _) 1
        refine wp_region_held_drew (S := fun X => Below wo.heap.size wo X) (by kernel_rfl) (by rw [← hwd]; exact hBd) (fun hHeld => ?_)
        rw [← hwd]
        clear hwd hHeld
        have hHeld := hBd
        refine wpAnyH_take (i := 0) (v := .bool true) rfl (by kernel_rfl) (by kernel_rfl) (by kernel_rfl) (fun _ _ _ h => h) (Or.inl ⟨by rfl, ?_⟩) (by assumption) ?_
        · intro w hSw
          obtain ⟨s0, s1, s2⟩ := HLDo.out _ hSw
          go_simp
        show wpAnyH _ _ _ _ _ _ _ (Act.put _ (some 49) _) _
        simp only [Act.put, List.setIfInBounds_toArray, List.set_cons_zero, List.set_cons_succ]
        refine wpAnyH_take (i := 1) (v := .bool false) rfl (by kernel_rfl) (by kernel_rfl) (by kernel_rfl) (fun _ _ _ h => h) (Or.inl ⟨by rfl, ?_⟩) (by assumption) ?_
        · intro w hSw
          obtain ⟨s0, s1, s2⟩ := HLDo.out _ hSw
          go_simp
        show wpAnyH _ _ _ _ _ _ _ (Act.put _ (some 50) _) _
        simp only [Act.put, List.setIfInBounds_toArray, List.set_cons_zero, List.set_cons_succ]
        refine wpAnyH_take (i := 2) (v := .bool false) rfl (by kernel_rfl) (by kernel_rfl) (by kernel_rfl) (fun _ _ _ h => h) (Or.inl ⟨by rfl, ?_⟩) (by assumption) ?_
        · intro w hSw
          obtain ⟨s0, s1, s2⟩ := HLDo.out _ hSw
          go_simp
        show wpAnyH _ _ _ _ _ _ _ (Act.put _ (some 51) _) _
        simp only [Act.put, List.setIfInBounds_toArray, List.set_cons_zero, List.set_cons_succ]
        refine wpAnyH_take (i := 3) (v := .pointer (some ⟨p, 0, none⟩)) rfl (by kernel_rfl) (by kernel_rfl) (by kernel_rfl) (fun _ _ _ h => h) (Or.inl ⟨by rfl, ?_⟩) (by assumption) ?_
        · intro w hSw
          obtain ⟨s0, s1, s2⟩ := HLDo.out _ hSw
          go_simp
        show wpAnyH _ _ _ _ _ _ _ (Act.put _ (some 52) _) _
        simp only [Act.put, List.setIfInBounds_toArray, List.set_cons_zero, List.set_cons_succ]
        refine wpAnyH_take (i := 4) (v := .pointer (some ⟨bt, 0, none⟩)) rfl (by kernel_rfl) (by kernel_rfl) (by kernel_rfl) (fun _ _ _ h => h) (Or.inl ⟨by rfl, ?_⟩) (by assumption) ?_
        · intro w hSw
          obtain ⟨s0, s1, s2⟩ := HLDo.out _ hSw
          go_simp
        show wpAnyH _ _ _ _ _ _ _ (Act.put _ (some 53) _) _
        simp only [Act.put, List.setIfInBounds_toArray, List.set_cons_zero, List.set_cons_succ]
        refine wpAnyH_take (i := 5) (v := .int .i64 a) rfl (by kernel_rfl) (by kernel_rfl) (by kernel_rfl) (fun _ _ _ h => h) (Or.inl ⟨by rfl, ?_⟩) (by assumption) ?_
        · intro w hSw
          obtain ⟨s0, s1, s2⟩ := HLDo.out _ hSw
          go_simp
        show wpAnyH _ _ _ _ _ _ _ (Act.put _ (some 54) _) _
        simp only [Act.put, List.setIfInBounds_toArray, List.set_cons_zero, List.set_cons_succ]
        refine wpAnyH_take (i := 6) (v := .pointer (some ⟨bt, 1, none⟩)) rfl (by kernel_rfl) (by kernel_rfl) (by kernel_rfl) (fun _ _ _ h => h) (Or.inl ⟨by rfl, ?_⟩) (by assumption) ?_
        · intro w hSw
          obtain ⟨s0, s1, s2⟩ := HLDo.out _ hSw
          go_simp
        show wpAnyH _ _ _ _ _ _ _ (Act.put _ (some 55) _) _
        simp only [Act.put, List.setIfInBounds_toArray, List.set_cons_zero, List.set_cons_succ]
        refine wpAnyH_take (i := 7) (v := .int .i64 b) rfl (by kernel_rfl) (by kernel_rfl) (by kernel_rfl) (fun _ _ _ h => h) (Or.inl ⟨by rfl, ?_⟩) (by assumption) ?_
        · intro w hSw
          obtain ⟨s0, s1, s2⟩ := HLDo.out _ hSw
          go_simp
        show wpAnyH _ _ _ _ _ _ _ (Act.put _ (some 56) _) _
        simp only [Act.put, List.setIfInBounds_toArray, List.set_cons_zero, List.set_cons_succ]
        refine wpAnyH_take (i := 9) (v := .slice WA S.length wcap) rfl (by kernel_rfl) (by kernel_rfl) (by kernel_rfl) (fun _ _ _ h => h) (Or.inl ⟨by rfl, ?_⟩) (by assumption) ?_
        · intro w hSw
          obtain ⟨s0, s1, s2⟩ := HLDo.out _ hSw
          go_simp
        show wpAnyH _ _ _ _ _ _ _ (Act.put _ (some 58) _) _
        simp only [Act.put, List.setIfInBounds_toArray, List.set_cons_zero, List.set_cons_succ]
        refine wpAnyH_ready (rs := [8]) (by kernel_rfl) (by simp) ?_
        refine AllReadyH.cons rfl (fun K hK => ?_) AllReadyH.nil
        go_simp
        ((with_reducible refine (list_any (HTO.out.below hBd) (by omega) a b).mono ?_))
        rintro e w6 ⟨v6, rfl, hown6, hb6⟩
        have hB6 := hBd.trans (hb6.mono hBd.size)
        rw [← HS.out] at hown6
        obtain ⟨A6, c6, rfl, hsl6⟩ := OwnR.sl hown6
        have HSAME := Lib.hid (same_any A6 WA c6 wcap S w6 hsl6 ((RecsAt.below HSL6.out hB6).more hB6.size) (by omega))
        clear hown6 hsl6
        go_simp
        refine hK.out _ _ hB6 (fun hHeld => ?_)
        clear hK K hHeld
        have hHeld := hB6
        refine wpAnyH_ready (rs := [10]) (by kernel_rfl) (by simp) ?_
        refine AllReadyH.cons rfl (fun K hK => ?_) AllReadyH.nil
        go_simp
        ((with_reducible refine (HSAME.out).mono ?_))
        rintro e w7 ⟨rfl, hb7⟩
        have hB7 := hB6.trans (hb7.mono hB6.size)
        go_simp
        refine hK.out _ _ hB7 (fun hHeld => ?_)
        clear hK K hHeld
        have hHeld := hB7
        refine wpAnyH_take (i := 11) (v := .bool false) rfl (by kernel_rfl) (by kernel_rfl) (by kernel_rfl) (fun _ _ _ h => h) (Or.inl ⟨by rfl, ?_⟩) (by assumption) ?_
        · intro w hSw
          obtain ⟨s0, s1, s2⟩ := HLDo.out _ hSw
          go_simp
        show wpAnyH _ _ _ _ _ _ _ (Act.put _ (some 60) _) _
        simp only [Act.put, List.setIfInBounds_toArray, List.set_cons_zero, List.set_cons_succ]
        refine wpAnyH_take (i := 12) (v := .bool false) rfl (by kernel_rfl) (by kernel_rfl) (by kernel_rfl) (fun _ _ _ h => h) (Or.inl ⟨by rfl, ?_⟩) (by assumption) ?_
        · intro w hSw
          obtain ⟨s0, s1, s2⟩ := HLDo.out _ hSw
          go_simp
        show wpAnyH _ _ _ _ _ _ _ (Act.put _ (some 61) _) _
        simp only [Act.put, List.setIfInBounds_toArray, List.set_cons_zero, List.set_cons_succ]
        refine wpAnyH_done (by kernel_rfl) ?_ _
        go_wp2_with fail
        go_meet
        case rel => exact ⟨rfl, hB7⟩
      case rest =>
        obtain ⟨rfl, hbc⟩ := hcut
        have HBC := Lib.hid hbc
        have HTC := Lib.hid (HTO.out.below hbc)
        have HKC := Lib.hid (tab_cells HTC.out)
        clear hbc
        go_wp2_with fail
        refine (append_any HTC.out ⟨1099511627776, 0, 1⟩ (by omega)).mono ?_
        rintro e w8 ⟨rfl, F8, t8, h8, hF8, hkeep⟩
        have hnt : ∀ g, P.heap.size ≤ g → ¬ tabB p cb E.length F3 g := fun g hg q => by have := (HBO.out.tab.lt q).2; omega
        have hzc : wo.heap.size ≤ wc.heap.size := HBC.out.size
        have x8 : w8.cell? ⟨wb, 0, none⟩ = some (.slice WA S.length wcap) := (h8.cell (a := ⟨wb, 0, none⟩) (by show wb < _; omega) (hnt wb hwb4)).trans ((HBC.out.cell (p := ⟨wb, 0, none⟩) hz6).trans HY6.out)
        have l8 : w8.cell? ⟨lb, 0, none⟩ = some (.slice A' S.length S.length) := (h8.cell (a := ⟨lb, 0, none⟩) (by show lb < _; have := HB6.out.size; omega) (hnt lb hlb1)).trans ((HBC.out.cell (p := ⟨lb, 0, none⟩) (by show lb < _; omega)).trans HLB6.out)
        have hge5 : ∀ b o, WA = some ⟨b, o, none⟩ → P.heap.size ≤ b := fun b o e => by
          have h1 := OwnR.ge_base HOW5.out b (by rw [e]; rfl)
          have := HB4.out.size
          omega
        have s8 : ChgsAt w8 w8.heap.size WA S := (h8.ofRecs ((RecsAt.below HSL6.out HBC.out).more hzc) (Nat.le_refl _) (fun b o e => hnt b (hge5 b o e))).more h8.size
        have hz8 := h8.size
        have HX8 := Lib.hid (And.intro x8 (And.intro l8 s8))
        have HKEEP := Lib.hid hkeep
        have HB8 := Lib.hid (HBZ.out.trans ((HB6.out.trans (HBC.out.mono HB6.out.size)).mono HBZ.out.size |>.trans (h8.below (B := W0.heap.size) (by have := HBZ.out.size; have := HB6.out.size; omega) (fun b hb => Nat.le_trans HwB.out (HBO.out.tab.lt hb).1))))
        obtain ⟨kb, hkb⟩ : ∃ kb, kb = w8.heap.size := ⟨_, rfl⟩
        obtain ⟨W9, hW9⟩ : ∃ W9, W9 = w8.alloc (.cells #[.int .i64 0] 3) := ⟨_, rfl⟩
        have hb9 : Below w8.heap.size w8 W9 := by rw [hW9]; exact (Below.refl _ _).alloc (Nat.le_refl _) _
        have hz9 : kb + 1 = W9.heap.size := by rw [hW9, hkb]; simp
        have k9 : W9.cell? ⟨kb, 0, none⟩ = some (.int .i64 ((0 : Nat) : Int)) := by rw [hW9, World.cell?_alloc_at (hn := hkb)]; rfl
        have f9 : W9.frozen? ⟨kb, 0, none⟩ = false := by rw [hW9, World.frozen?_alloc_at (hn := hkb)]
        have hwb8 : wb < w8.heap.size := by omega
        have hlb8 : lb < w8.heap.size := by have := HB6.out.size; omega
        have hit := it_law S A' lb kb wb (fun k X => X.cell? ⟨kb, 0, none⟩ = some (.int .i64 (k : Int)) ∧ X.frozen? ⟨kb, 0, none⟩ = false ∧ Only (fun b => b = kb) W9 X) W9 ⟨k9, f9, Only.refl⟩ ((hb9.cell (p := ⟨lb, 0, none⟩) hlb8).trans l8) (by omega)
          (fun k X hX => by
            refine sub_chgs HSUB.out (fun g j u hg hj => ?_) (fun g hg => ?_)
            · have h1 := HKC.out.2 g hg
              refine (hX.2.2.cell (a := ⟨g, j, none⟩) (by show g < _; omega) (by show ¬ g = kb; omega)).trans ((hb9.cell (p := ⟨g, j, none⟩) (by show g < _; omega)).trans (HKEEP.out g j u hg hj))
            · have h1 := HKC.out.2 g hg
              have := hX.2.2.size
              omega)
          (fun k c X hk hX => by
            have hbx := (Below.refl X.heap.size X).alloc (Nat.le_refl _) (.cells #[.int .i64 c.tick, .int .i64 c.edge, .int .i64 c.time] 25)
            have hzx := hX.2.2.size
            have hOx : Only (fun b => b = kb) w8 (X.alloc (.cells #[.int .i64 c.tick, .int .i64 c.edge, .int .i64 c.time] 25)) := ((Only.of_below (S := fun b => b = kb) hb9).trans hX.2.2 (fun _ _ q => q)).trans (Only.of_below (S := fun b => b = kb) hbx) (fun _ _ q => q)
            have h1 := law1_any (X.alloc (.cells #[.int .i64 c.tick, .int .i64 c.edge, .int .i64 c.time] 25)) kb wb S WA wcap k c hk (by omega) ((hbx.cell (p := ⟨kb, 0, none⟩) (by show kb < _; omega)).trans hX.1) ((hbx.frozen (p := ⟨kb, 0, none⟩) (by show kb < _; omega)).trans hX.2.1)
              ((hOx.cell (a := ⟨wb, 0, none⟩) hwb8 (by show ¬ wb = kb; omega)).trans HX8.out.1) ((hOx.ofRecs HX8.out.2.2 (Nat.le_refl _) (fun b o e => by
                show ¬ b = kb
                intro q
                have h2 : S ≠ [] := fun q2 => by rw [q2] at hk; simp at hk
                have := chgs_lt HX8.out.2.2 h2 e
                omega)).more hOx.size)
            refine h1.mono ?_
            rintro e X' ⟨rfl, h2, h3, h4⟩
            exact ⟨rfl, h3, h4, (hX.2.2.trans (Only.of_below (S := fun b => b = kb) hbx) (fun _ _ q => q)).trans h2 (fun _ _ q => q)⟩)
        have HIT := Lib.hid hit
        have HB9 := Lib.hid hb9
        have HW9 := Lib.hid hW9
        have HKB := Lib.hid hkb
        clear hit t8 h8 hF8 hkeep hb9 hW9 hnt x8 l8 s8 hge5 k9 f9 hkb
        go_wp2_with fail
        rw [← HW9.out, ← HKB.out]
        refine HIT.out.mono ?_
        rintro e w9 ⟨rfl, hI1, hI2, hI3⟩
        have x9 : w9.cell? ⟨wb, 0, none⟩ = some (.slice WA S.length wcap) := (hI3.cell (a := ⟨wb, 0, none⟩) (by show wb < _; have := HB9.out.size; omega) (by show ¬ wb = kb; have := HKB.out; omega)).trans ((HB9.out.cell (p := ⟨wb, 0, none⟩) hwb8).trans HX8.out.1)
        have HBF := Lib.hid (HB0.out.trans (((HB8.out.trans (HB9.out.mono HB8.out.size)).trans (hI3.below (B := W0.heap.size) (by have := HB8.out.size; have := HB9.out.size; omega) (fun b q => by have q : b = kb := q; have := HB8.out.size; have := HKB.out; omega))).mono HB0.out.size))
        clear hI2 hI3
        go_wp2_with fail
        go_ret
        exact ⟨ret_bool (by simp), HBF.out⟩
  · go_wp2_with fail
    go_ret
    exact ⟨rfl, HB0.out.trans ((HB2.out.alloc HB2.out.size _).mono HB0.out.size)⟩

theorem laid_met (os : Os) : laidMet Tryd.prog Rows.travelTimesChangesUptoRow.laid ((World.laidAll Tryd.prog os Rows.travelTimesChangesUptoRow.laid).forCall (fun _ _ => 0) ⟨#[], #[.slice none 0 0, .slice none 0 0, .agg #[.int .i64 0, .int .i64 0]], []⟩).memory :=
  laidMet_laidAll _ (laid_fits os) (laid_ifaces os)
theorem reads (os : Os) {H : Type} (enc : TypeId × Value → H) : ∃ places, DataW.whole enc Tryd.prog ((World.laidAll Tryd.prog os Rows.travelTimesChangesUptoRow.laid).forCall (fun _ _ => 0) ⟨#[], #[.slice none 0 0, .slice none 0 0, .agg #[.int .i64 0, .int .i64 0]], []⟩).memory Tryd.f4.params.toList Rows.travelTimesChangesSpec.vars false #[Value.slice none 0 0, .slice none 0 0, .agg #[.int .i64 0, .int .i64 0]].toList 8 = some ([.nil, .nil, .agg [.lit (.int .i64 0), .lit (.int .i64 0)]], [], places) :=
  ⟨[], by kernel_rfl⟩

set_option maxRecDepth 100000 in
theorem lifted (os : Os) (started : os.Started) (H : Type) (enc : TypeId × Value → H) (F : Stop.Interp) :
    ReturnsInHanded {} Tryd.checked os 4 .any ((Rows.OpenSpec.upto Rows.travelTimesChangesSpec).preRow enc Tryd.prog Tryd.f4 Rows.travelTimesChangesUptoRow.domain false Rows.travelTimesChangesUptoRow.laid) (((Rows.OpenSpec.upto Rows.travelTimesChangesSpec).at F).post enc Tryd.prog Tryd.f4 false true false false) := by
  obtain ⟨places, hx⟩ := reads os enc
  refine returnsInHanded_of_row (C := Tryd.checked) (s := Rows.OpenSpec.upto Rows.travelTimesChangesSpec) own started (by kernel_rfl) Tryd.func4
    (witness_row_atRef (enc := enc) (C := Tryd.checked) false (World.laidAll Tryd.prog os Rows.travelTimesChangesUptoRow.laid) #[.slice none 0 0, .slice none 0 0, .agg #[.int .i64 0, .int .i64 0]] (World.laidAll_os _ _ _) (laid_vars os _) (laid_rest os _) (by kernel_rfl)
      (OpenSpec.preRow_of_cond 8 hx (by kernel_rfl) (fun k hk => by cases hk; kernel_rfl) (by kernel_rfl) (laid_met os))) ?_
  intro W base args ds gs before hval0 hW _ hcond _ hLH hSh _
  have hL0 := hLH
  rw [MakeChecks.laidMetH_plain _ _ _ (by kernel_rfl)] at hL0
  have hL : laidMet Tryd.prog Rows.travelTimesChangesUptoRow.laid W := hL0
  clear hL0
  have hr : Ready W := ready_of hL.tail.tail hSh
  have hval : ∀ (j : Nat) t v, Tryd.f4.params[j]? = some t → args[j]? = some v → Value.okWide Tryd.prog W .any base t v := hval0
  have hW' := hW
  obtain ⟨p, q, hA0, hV, rfl, hfz, hnd⟩ := hW
  have hA : DataW.TrodAll enc Tryd.prog W 0 (fun _ => true) true Tryd.f4.params.toList args.toList ds p := hA0
  rw [Tryd.params4] at hA hval
  obtain ⟨v0, vs0, d0, ds0, p0, q0, hargs, rfl, rfl, h0, r0⟩ := trodAll_cons hA
  obtain ⟨v1, vs1, d1, ds1, p1, q1, rfl, rfl, rfl, h1, r1⟩ := trodAll_cons r0
  obtain ⟨v2, vs2, d2, ds2, p2, q2, rfl, rfl, rfl, h2, r2⟩ := trodAll_cons r1
  obtain ⟨rfl, rfl, rfl⟩ := trodAll_nil r2
  obtain rfl : args = #[v0, v1, v2] := by cases args; simp_all
  obtain ⟨rfl, rfl⟩ := trodVars_none hV
  have hk := bulk_three (hcond _ rfl)
  obtain ⟨A0, zs0, c0, rfl, hs0, hwf0, hc0, hm0, hz0⟩ := open_sl Tryd.underlying22 Tryd.underlying2 (by kernel_rfl) (hval 0 22 v0 rfl rfl) h0
  have hn0 : zs0.length ≤ 1048576 := Nat.le_trans (bulk_slice Tryd.underlying22 h0) hk.1
  obtain ⟨A1, l1, c1, rfl, hl1, hc1, hm1, hz1⟩ := open_chgs (hval 1 23 v1 rfl rfl) h1
  obtain ⟨a2, b2, rfl⟩ := open_twoI (hval 2 41 v2 rfl rfl) h2
  clear hA0 hval0
  refine (walk W A0 zs0 c0 hs0 hn0 A1 l1 c1 hl1 a2 b2 hr).mono fun e W' ⟨he, hb⟩ => ?_
  subst he
  exact ⟨_, rfl, law_post laidOut (by kernel_rfl) rfl Tryd.underlying4 rfl hW' rfl rfl rfl hb⟩

theorem said : Rows.TravelTimesChangesUptoSaid :=
  OpenClaim.holds_of_cond 4 Tryd.f4 rfl rfl rfl rfl rfl rfl rfl ⟨rfl, rfl, rfl, rfl, rfl⟩ rfl rfl rfl rfl rfl (by kernel_rfl) Tryd.func4 (by kernel_rfl)
    (of_decide_eq_true (by kernel_rfl)) (by unfold Func.isWrapper; first | (rw [if_pos (by decide +kernel)]; kernel_rfl) | (rw [if_neg (by decide +kernel)]; exact ⟨rfl, rfl⟩))
    (fun os started H enc _ F => by rw [OpenClaim.pre_eq_preRow]; exact lifted os started H enc F)

/-- No parameter wants a stand-in; the program's looks are those of the card. -/
theorem plain (f : FuncId) (fn : Func) (hf : Tryd.pinned.checked.prog.funcNamed "samaritan/samaritanlaw08.TravelTimesChanges" = some f) (hfn : Tryd.pinned.checked.prog.funcs[f]? = some fn) :
    false = Tryd.pinned.checked.prog.looks [] ∧ ∀ (j : Nat) t, fn.params[j]? = some t → Tryd.pinned.checked.prog.wantsStandIn t = false := by
  obtain rfl : f = 4 := Option.some.inj ((show Tryd.prog.funcNamed "samaritan/samaritanlaw08.TravelTimesChanges" = some 4 by kernel_rfl).symm.trans hf) |>.symm
  obtain rfl : fn = Tryd.f4 := (Option.some.inj (Tryd.func4.symm.trans hfn)).symm
  refine ⟨by kernel_rfl, fun j t ht => ?_⟩
  rw [Tryd.params4] at ht
  have hm := Array.mem_of_getElem? ht
  have hall : (#[22, 23, 41] : Array TypeId).toList.all (fun t => Tryd.prog.wantsStandIn t == false) = true := by kernel_rfl
  have := List.all_eq_true.1 hall t (by simpa using hm)
  exact beq_iff_eq.1 this

theorem card : Rows.TravelTimesChangesUptoCardSaid :=
  Claim7.holds_tied_plain_at .later [] _ _ _ _ said (fun _ h => by cases h) (by kernel_rfl) (fun _ h => by cases h) travelTimesChangesUpto_row_tie rfl ⟨rfl, rfl⟩ (by kernel_rfl) rfl plain (by kernel_rfl)
#print axioms card
end Go.Proofs.YtegifbmcapnkdaaDoor.l08Changes
