/-
  samaritanlaw08.TravelTimesFormat returns true for every input whose reading is of bulk at most 1048576, and the arguments read afterwards as before.
  Conditions: those of the given row (its list of package variables), tied to the program's text by the given tie; the card speaks of the pruned copy of the project that the seat was translated from.
-/
import Derived.Test.YtppbmnlneoinhaaDoorCards
import Derived.Test.YtppbmnlneoinhaaDoorTie
import Derived.Test.YtppbmnlneoinhaaDoorMatch
import Derived.Test.YtppbmnlneoinhaaDoorAlive
import Derived.Test.YtppbmnlneoinhaaDoorParsW
import Derived.Test.YtppbmnlneoinhaaDoorRefL
import Derived.Test.YtppbmnlneoinhaaDoorIt
import Derived.Test.YtppbmnlneoinhaaDoorAllC
import Derived.Test.YtppbmnlneoinhaaDoorOpenC
import Derived.Test.YtppbmnlneoinhaaDoorLift
import Derived.Test.YtppbmnlneoinhaaDoorLaidP
import Derived.OpenShut
import Derived.Deep.DeepHandedRow
namespace Go.Proofs.YtppbmnlneoinhaaDoor.l08Format
open Go.ChangeShapes Go.WideShapes Go.ChangeAt Go.RowKit Go.Maps
open Go.ChangeMaps (open_string shut_string)

set_option maxRecDepth 100000 in
set_option maxHeartbeats 4000000 in
theorem walk (w : World) (A0 : Option Addr) (zs : List Int) (c0 : Nat) (hs0 : Sl w w.heap.size A0 (zs.map (Value.int .i64))) (hN : zs.length ≤ 1048576) (A1 : Option Addr) (l : List ChgT) (c1 : Nat) (hl1 : ChgsAt w w.heap.size A1 l) (hr : ReadyP w) :
    Calls Tryd.prog 3 #[.slice A0 zs.length c0, .slice A1 l.length c1] w fun e w' => e = .returned (.bool true) ∧ Below w.heap.size w w' := by
  obtain ⟨W0, hW0⟩ : ∃ W0, W0 = w := ⟨_, rfl⟩
  have hb0 : Below w.heap.size w W0 := by rw [hW0]; exact Below.refl _ _
  have HS0 := Lib.hid ((hs0.below hb0).more hb0.size)
  have HL1 := Lib.hid ((RecsAt.below hl1 hb0).more hb0.size)
  have hal := alive_any W0 (hr.base.below hb0)
  have HAL := Lib.hid hal
  have HRP := Lib.hid (hr.below hb0)
  have HW0 := Lib.hid hW0
  have HB0 := Lib.hid hb0
  clear hs0 hl1 hal hr hW0 hb0
  go_enter Tryd.func3, Tryd.ntmps3
  go_wp2_with fail
  rw [← HW0.out]
  refine HAL.out.mono ?_
  rintro e w1 ⟨rfl, hb1⟩
  have HB1 := Lib.hid hb1
  clear hb1
  go_wp2_with fail
  refine (made_any w1 A0 c0 zs ((HS0.out.below HB1.out).more HB1.out.size) hN).mono ?_
  rintro e w2 ⟨hb2, h⟩
  have HB2 := Lib.hid (HB1.out.trans (hb2.mono HB1.out.size))
  clear hb2
  rcases h with ⟨hok, h30, gp, p, cb, B, rfl, hB, ht⟩ | ⟨_, rfl⟩
  · obtain ⟨E, hE⟩ : ∃ E, E = ringE zs := ⟨_, rfl⟩
    have hEl : zs.length = E.length := by rw [hE, ringE_len]
    have hEm : E.map EdgeT.tm = zs := by rw [hE, ringE_tm]
    rw [← hE] at ht
    have hst := both_start c0 HB2.out (Nat.le_trans HB1.out.size hB) ht (by rw [hEm]; exact HS0.out)
    rw [hEl] at h30 ⊢
    have HST := Lib.hid hst
    have HBB := Lib.hid (HB2.out.alloc HB2.out.size (.cells #[.slice A0 E.length c0, .slice none 0 0] 28))
    have HwB := Lib.hid (Nat.le_trans HB1.out.size hB)
    have HTW := Lib.hid (fun b (hb : tabB p cb E.length (fun _ => .slice none 0 0) b) => ht.lt hb)
    clear hst hok hE hEm ht hEl hN
    by_cases hl60 : 60 < l.length
    · have d0 : decide ((60 : Int) < (l.length : Int)) = true := by simp; omega
      go_wp2_with fail
      go_ret
      exact ⟨rfl, HB0.out.trans (HBB.out.mono HB0.out.size)⟩
    · have d0 : decide ((60 : Int) < (l.length : Int)) = false := by simp; omega
      obtain ⟨rb, hrb⟩ : ∃ rb, rb = w2.heap.size := ⟨_, rfl⟩
      obtain ⟨W2, hW2⟩ : ∃ W2, W2 = w2.alloc (.cells #[.slice A0 E.length c0, .slice none 0 0] 28) := ⟨_, rfl⟩
      rw [← hW2] at HST
      have HBW := Lib.hid (show Below W0.heap.size W0 W2 from by rw [hW2]; exact HBB.out)
      have hrz2 : rb + 1 = W2.heap.size := by rw [hW2, hrb]; simp
      have HRC := Lib.hid (show ∀ j, W2.cell? ⟨rb, j, none⟩ = (#[.slice A0 E.length c0, .slice none 0 0] : Array Value)[j]? from fun j => by rw [hW2, World.cell?_alloc_at (hn := hrb)])
      have HRF := Lib.hid (show ∀ j, W2.frozen? ⟨rb, j, none⟩ = false from fun j => by rw [hW2, World.frozen?_alloc_at (hn := hrb)])
      have hbh := behind_any HST.out c0 A1 c1 l (RecsAt.more (RecsAt.below HL1.out HBW.out) HwB.out) (by simp; omega)
      have HBH := Lib.hid hbh
      have HW2 := Lib.hid hW2
      have HT0 := Lib.hid (show ∀ b, tabB p cb E.length (fun _ => .slice none 0 0) b → B ≤ b ∧ b < rb from fun b hb => by rw [hrb]; exact HTW.out b hb)
      have hrbB : B ≤ rb := by have := HT0.out p (.inl rfl); omega
      have HRB := Lib.hid hrb
      clear hW2 hbh
      go_wp2_with fail
      rw [← HW2.out, ← hrb]
      clear hrb
      refine HBH.out.mono ?_
      rintro e w3 ⟨F3, LA3, lc3, rfl, hb3, ho3, hF3⟩
      obtain ⟨L, hL⟩ : ∃ L, L = putAll E.length [] l := ⟨_, rfl⟩
      rw [← hL] at hb3 ⊢
      have hLl : L.length ≤ 60 := by
        rw [hL]
        have h1 := putAll_len E.length l []
        simp only [List.length_nil] at h1
        omega
      have hz3 := ho3.size
      have hrn : ¬ tabB p cb E.length (fun _ => .slice none 0 0) rb := fun q => by have := (HT0.out rb q).2; omega
      have hrc : ∀ j, w3.cell? ⟨rb, j, none⟩ = (#[.slice A0 E.length c0, .slice none 0 0] : Array Value)[j]? := fun j => (ho3.cell (a := ⟨rb, j, none⟩) (by show rb < _; omega) hrn).trans (HRC.out j)
      have hrf : ∀ j, w3.frozen? ⟨rb, j, none⟩ = false := fun j => (ho3.frozen (a := ⟨rb, j, none⟩) (by show rb < _; omega) hrn).trans (HRF.out j)
      have r0 := hrc 0
      have r1 := hrc (0 + 1)
      have f0 := hrf 0
      have f1 := hrf (0 + 1)
      replace r0 : w3.cell? ⟨rb, 0, none⟩ = some (.slice A0 E.length c0) := r0
      replace r1 : w3.cell? ⟨rb, 0 + 1, none⟩ = some (.slice none 0 0) := r1
      have hap : ApartL LA3 L (fun b => b = rb) := by
        intro hne b o e q
        have q : b = rb := q
        obtain ⟨d, hd⟩ : ∃ d, L[0]? = some d := by
          cases L with
          | nil => exact absurd rfl hne
          | cons x t => exact ⟨x, rfl⟩
        obtain ⟨b', o', e', _, k0, _⟩ := chg_at hb3.list hd
        rw [e] at e'
        injection e' with e'
        injection e' with e1 e2
        rw [← e1, q, hrc] at k0
        match ho : o' + 0 * 3, k0 with
        | 0, k0 => simp at k0
        | 1, k0 => simp at k0
        | j + 2, k0 => simp at k0
      have hS3 := putRoads_only w3 rb (.slice A0 E.length c0) (.slice LA3 L.length lc3)
      have HBO := Lib.hid (hb3.only hS3 (fun b q => by have q : b = rb := q; omega) (fun b hb q => by
        have q : b = rb := q
        rcases hF3 b hb with r | r
        · have := (HT0.out b r).2; omega
        · omega) hap)
      have HBZ := Lib.hid ((HBW.out.trans (ho3.below (B := W0.heap.size) HBW.out.size (fun b hb => Nat.le_trans HwB.out (HT0.out b hb).1))).trans (hS3.below (B := W0.heap.size) (by have := HBW.out.size; omega) (fun b q => by have q : b = rb := q; have := HwB.out; omega)))
      have HRR := Lib.hid (show (putRoads w3 rb (.slice A0 E.length c0) (.slice LA3 L.length lc3)).cell? ⟨rb, 0, none⟩ = some (.slice A0 E.length c0) ∧ (putRoads w3 rb (.slice A0 E.length c0) (.slice LA3 L.length lc3)).cell? ⟨rb, 0 + 1, none⟩ = some (.slice LA3 L.length lc3) from by
        have s1 : (w3.setCell ⟨rb, 0, none⟩ (.slice A0 E.length c0)).cell? ⟨rb, 0, none⟩ = some (.slice A0 E.length c0) := World.cell?_setCell_same' _ _ _ (by rw [r0]; rfl)
        have s2 : (w3.setCell ⟨rb, 0, none⟩ (.slice A0 E.length c0)).cell? ⟨rb, 0 + 1, none⟩ = some (.slice none 0 0) := (World.cell?_setCell_other w3 _ ⟨rb, 0 + 1, none⟩ _ (by simp)).trans r1
        exact ⟨(World.cell?_setCell_other _ _ ⟨rb, 0, none⟩ _ (by simp)).trans s1, World.cell?_setCell_same' _ _ _ (by rw [s2]; rfl)⟩)
      have hrz : rb < (putRoads w3 rb (.slice A0 E.length c0) (.slice LA3 L.length lc3)).heap.size := by have := hS3.size; omega
      clear hb3 ho3 hF3 hL HBH HST HT0 d0 hrc hrf hap hS3 HTW hrn
      go_wp2_with fail
      obtain ⟨P, hP⟩ : ∃ P, P = putRoads w3 rb (.slice A0 E.length c0) (.slice LA3 L.length lc3) := ⟨_, rfl⟩
      have hP2 : (w3.setCell ⟨rb, 0, none⟩ (.slice A0 E.length c0)).setCell ⟨rb, 1, none⟩ (.slice LA3 L.length lc3) = P := hP.symm
      rw [← hP] at HBO HBZ HRR hrz
      rw [hP2]
      clear hP hP2 r0 r1 f0 f1
      have hasc := HBO.out.tab.asc
      have hoks := HBO.out.tab.oks
      have HVL := Lib.hid (show validL E.length L from ⟨hoks, hasc⟩)
      have HLR := Lib.hid (show ∀ X, Below P.heap.size P X → X.cell? ⟨rb, 0, none⟩ = some (.slice A0 E.length c0) ∧ X.cell? ⟨rb, 0 + 1, none⟩ = some (.slice LA3 L.length lc3) from fun X hX =>
        ⟨(hX.cell (p := ⟨rb, 0, none⟩) hrz).trans HRR.out.1, (hX.cell (p := ⟨rb, 0 + 1, none⟩) hrz).trans HRR.out.2⟩)
      have hE30 : E.length ≤ 30 := h30
      have hwfL : ∀ c ∈ L, wfC c := fun c hc => ok_wf (by omega) (hoks c hc)
      have hposL : ∀ c ∈ L, posC c := fun c hc => ok_pos (by omega) (hoks c hc)
      have HPOS := Lib.hid hposL
      have htl : (bs (textC L)).size ≤ 50000 := by
        rw [bs_size]
        have := textC_len hwfL
        omega
      clear hasc hoks hwfL hposL
      refine (format_any HBO.out.tab (by omega) (by omega) (HRP.out.below HBZ.out).base).mono ?_
      rintro e w4 ⟨rfl, hb4⟩
      have HB4 := Lib.hid hb4
      have hpa := parse_any w4 gp 5 E (bs (textC L)) (((HBO.out.tab.below hb4).graph).more (by have := HBO.out.tab.low; have := HBO.out.tab.cbp; have := HBO.out.tab.size; have := hb4.size; omega)) (by omega) htl (HRP.out.below (HBZ.out.trans (hb4.mono HBZ.out.size)))
      have HPA := Lib.hid hpa
      clear hb4 hpa
      go_wp2_with fail
      refine HPA.out.mono ?_
      rintro e w5 ⟨hb5, h⟩
      have HFL := Lib.hid (show Fine E.length (bs (textC L)).data.toList L from ⟨HVL.out, bs_data _⟩)
      rcases h with ⟨p5, cb5, B5, F5, M, rfl, hB5, ht5, hfM⟩ | ⟨M, rfl, hbM⟩
      · have hML : M = L := fine_uniq (by omega) hfM HFL.out
        subst hML
        have HT5 := Lib.hid ht5
        have HB5 := Lib.hid (HB4.out.trans (hb5.mono HB4.out.size))
        have HCH := Lib.hid (chgsL_all (L := M) (fun c hc => HVL.out.1 c hc))
        clear hb5 ht5 hfM hB5
        go_wp2_with fail
        obtain ⟨wo, rfl⟩ : ∃ wo, wo = w5 := ⟨_, rfl⟩
        have HLDo := Lib.hid (show ∀ X, Below wo.heap.size wo X → X.cell? ⟨rb, 0, none⟩ = some (.slice A0 E.length c0) ∧ X.cell? ⟨rb, 1, none⟩ = some (.slice LA3 M.length lc3) from fun X hX => HLR.out X (HB5.out.trans (hX.mono HB5.out.size)))
        obtain ⟨wd, hwd⟩ : ∃ wd, wd = wo.drew := ⟨_, rfl⟩
        have hBd : Below wo.heap.size wo wd := by rw [hwd]; exact below_drewN (Below.refl _ _) 1
        refine wp_region_held_drew (S := fun X => Below wo.heap.size wo X) (by kernel_rfl) (by rw [← hwd]; exact hBd) (fun hHeld => ?_)
        rw [← hwd]
        clear hwd hHeld
        have hHeld := hBd
        refine wpAnyH_take (i := 0) (v := .bool true) rfl (by kernel_rfl) (by kernel_rfl) (by kernel_rfl) (fun _ _ _ h => h) (Or.inl ⟨by rfl, ?_⟩) (by assumption) ?_
        · intro w hSw
          obtain ⟨s0, s1⟩ := HLDo.out _ hSw
          go_simp
        show wpAnyH _ _ _ _ _ _ _ (Act.put _ (some 45) _) _
        simp only [Act.put, List.setIfInBounds_toArray, List.set_cons_zero, List.set_cons_succ]
        refine wpAnyH_take (i := 1) (v := .bool true) rfl (by kernel_rfl) (by kernel_rfl) (by kernel_rfl) (fun _ _ _ h => h) (Or.inl ⟨by rfl, ?_⟩) (by assumption) ?_
        · intro w hSw
          obtain ⟨s0, s1⟩ := HLDo.out _ hSw
          go_simp
        show wpAnyH _ _ _ _ _ _ _ (Act.put _ (some 46) _) _
        simp only [Act.put, List.setIfInBounds_toArray, List.set_cons_zero, List.set_cons_succ]
        refine wpAnyH_take (i := 2) (v := .string (bs (textC M))) rfl (by kernel_rfl) (by kernel_rfl) (by kernel_rfl) (fun _ _ _ h => h) (Or.inl ⟨by rfl, ?_⟩) (by assumption) ?_
        · intro w hSw
          obtain ⟨s0, s1⟩ := HLDo.out _ hSw
          go_simp
        show wpAnyH _ _ _ _ _ _ _ (Act.put _ (some 47) _) _
        simp only [Act.put, List.setIfInBounds_toArray, List.set_cons_zero, List.set_cons_succ]
        refine wpAnyH_take (i := 3) (v := .agg #[.slice A0 E.length c0, .slice LA3 M.length lc3]) rfl (by kernel_rfl) (by kernel_rfl) (by kernel_rfl) (fun _ _ _ h => h) (Or.inl ⟨by rfl, ?_⟩) (by assumption) ?_
        · intro w hSw
          obtain ⟨s0, s1⟩ := HLDo.out _ hSw
          go_simp
        show wpAnyH _ _ _ _ _ _ _ (Act.put _ (some 48) _) _
        simp only [Act.put, List.setIfInBounds_toArray, List.set_cons_zero, List.set_cons_succ]
        refine wpAnyH_ready (rs := [4]) (by kernel_rfl) (by simp) ?_
        refine AllReadyH.cons rfl (fun K hK => ?_) AllReadyH.nil
        go_simp
        ((with_reducible refine (text8_any ((HBO.out.below (HB5.out.trans (hBd.mono HB5.out.size))).roads) c0 (by omega) HPOS.out).mono ?_))
        rintro e w6 ⟨rfl, hb6⟩
        have hB6 := hBd.trans (hb6.mono hBd.size)
        go_simp
        refine hK.out _ _ hB6 (fun hHeld => ?_)
        clear hK K hHeld
        have hHeld := hB6
        refine wpAnyH_take (i := 5) (v := .bool true) rfl (by kernel_rfl) (by kernel_rfl) (by kernel_rfl) (fun _ _ _ h => h) (Or.inl ⟨by rfl, ?_⟩) (by assumption) ?_
        · intro w hSw
          obtain ⟨s0, s1⟩ := HLDo.out _ hSw
          go_simp
        show wpAnyH _ _ _ _ _ _ _ (Act.put _ (some 50) _) _
        simp only [Act.put, List.setIfInBounds_toArray, List.set_cons_zero, List.set_cons_succ]
        refine wpAnyH_take (i := 6) (v := .bool true) rfl (by kernel_rfl) (by kernel_rfl) (by kernel_rfl) (fun _ _ _ h => h) (Or.inl ⟨by rfl, ?_⟩) (by assumption) ?_
        · intro w hSw
          obtain ⟨s0, s1⟩ := HLDo.out _ hSw
          go_simp
        show wpAnyH _ _ _ _ _ _ _ (Act.put _ (some 51) _) _
        simp only [Act.put, List.setIfInBounds_toArray, List.set_cons_zero, List.set_cons_succ]
        refine wpAnyH_take (i := 7) (v := .bool true) rfl (by kernel_rfl) (by kernel_rfl) (by kernel_rfl) (fun _ _ _ h => h) (Or.inl ⟨by rfl, ?_⟩) (by assumption) ?_
        · intro w hSw
          obtain ⟨s0, s1⟩ := HLDo.out _ hSw
          go_simp
        show wpAnyH _ _ _ _ _ _ _ (Act.put _ (some 52) _) _
        simp only [Act.put, List.setIfInBounds_toArray, List.set_cons_zero, List.set_cons_succ]
        refine wpAnyH_take (i := 8) (v := .int .i64 0) rfl (by kernel_rfl) (by kernel_rfl) (by kernel_rfl) (fun _ _ _ h => h) (Or.inl ⟨by rfl, ?_⟩) (by assumption) ?_
        · intro w hSw
          obtain ⟨s0, s1⟩ := HLDo.out _ hSw
          go_simp
        show wpAnyH _ _ _ _ _ _ _ (Act.put _ (some 53) _) _
        simp only [Act.put, List.setIfInBounds_toArray, List.set_cons_zero, List.set_cons_succ]
        refine wpAnyH_take (i := 9) (v := .bool true) rfl (by kernel_rfl) (by kernel_rfl) (by kernel_rfl) (fun _ _ _ h => h) (Or.inl ⟨by rfl, ?_⟩) (by assumption) ?_
        · intro w hSw
          obtain ⟨s0, s1⟩ := HLDo.out _ hSw
          go_simp
        show wpAnyH _ _ _ _ _ _ _ (Act.put _ (some 54) _) _
        simp only [Act.put, List.setIfInBounds_toArray, List.set_cons_zero, List.set_cons_succ]
        refine wpAnyH_take (i := 10) (v := .bool true) rfl (by kernel_rfl) (by kernel_rfl) (by kernel_rfl) (fun _ _ _ h => h) (Or.inl ⟨by rfl, ?_⟩) (by assumption) ?_
        · intro w hSw
          obtain ⟨s0, s1⟩ := HLDo.out _ hSw
          go_simp
        show wpAnyH _ _ _ _ _ _ _ (Act.put _ (some 55) _) _
        simp only [Act.put, List.setIfInBounds_toArray, List.set_cons_zero, List.set_cons_succ]
        refine wpAnyH_take (i := 11) (v := .bool true) rfl (by kernel_rfl) (by kernel_rfl) (by kernel_rfl) (fun _ _ _ h => h) (Or.inl ⟨by rfl, ?_⟩) (by assumption) ?_
        · intro w hSw
          obtain ⟨s0, s1⟩ := HLDo.out _ hSw
          go_simp
        show wpAnyH _ _ _ _ _ _ _ (Act.put _ (some 56) _) _
        simp only [Act.put, List.setIfInBounds_toArray, List.set_cons_zero, List.set_cons_succ]
        refine wpAnyH_take (i := 12) (v := .int .i64 0) rfl (by kernel_rfl) (by kernel_rfl) (by kernel_rfl) (fun _ _ _ h => h) (Or.inl ⟨by rfl, ?_⟩) (by assumption) ?_
        · intro w hSw
          obtain ⟨s0, s1⟩ := HLDo.out _ hSw
          go_simp
        show wpAnyH _ _ _ _ _ _ _ (Act.put _ (some 57) _) _
        simp only [Act.put, List.setIfInBounds_toArray, List.set_cons_zero, List.set_cons_succ]
        refine wpAnyH_take (i := 13) (v := .bool true) rfl (by kernel_rfl) (by kernel_rfl) (by kernel_rfl) (fun _ _ _ h => h) (Or.inl ⟨by rfl, ?_⟩) (by assumption) ?_
        · intro w hSw
          obtain ⟨s0, s1⟩ := HLDo.out _ hSw
          go_simp
        show wpAnyH _ _ _ _ _ _ _ (Act.put _ (some 58) _) _
        simp only [Act.put, List.setIfInBounds_toArray, List.set_cons_zero, List.set_cons_succ]
        refine wpAnyH_take (i := 14) (v := .bool true) rfl (by kernel_rfl) (by kernel_rfl) (by kernel_rfl) (fun _ _ _ h => h) (Or.inl ⟨by rfl, ?_⟩) (by assumption) ?_
        · intro w hSw
          obtain ⟨s0, s1⟩ := HLDo.out _ hSw
          go_simp
        show wpAnyH _ _ _ _ _ _ _ (Act.put _ (some 59) _) _
        simp only [Act.put, List.setIfInBounds_toArray, List.set_cons_zero, List.set_cons_succ]
        refine wpAnyH_take (i := 15) (v := .bool true) rfl (by kernel_rfl) (by kernel_rfl) (by kernel_rfl) (fun _ _ _ h => h) (Or.inl ⟨by rfl, ?_⟩) (by assumption) ?_
        · intro w hSw
          obtain ⟨s0, s1⟩ := HLDo.out _ hSw
          go_simp
        show wpAnyH _ _ _ _ _ _ _ (Act.put _ (some 60) _) _
        simp only [Act.put, List.setIfInBounds_toArray, List.set_cons_zero, List.set_cons_succ]
        refine wpAnyH_take (i := 16) (v := .pointer (some ⟨p5, 0, none⟩)) rfl (by kernel_rfl) (by kernel_rfl) (by kernel_rfl) (fun _ _ _ h => h) (Or.inl ⟨by rfl, ?_⟩) (by assumption) ?_
        · intro w hSw
          obtain ⟨s0, s1⟩ := HLDo.out _ hSw
          go_simp
        show wpAnyH _ _ _ _ _ _ _ (Act.put _ (some 61) _) _
        simp only [Act.put, List.setIfInBounds_toArray, List.set_cons_zero, List.set_cons_succ]
        refine wpAnyH_take (i := 17) (v := .bool true) rfl (by kernel_rfl) (by kernel_rfl) (by kernel_rfl) (fun _ _ _ h => h) (Or.inl ⟨by rfl, ?_⟩) (by assumption) ?_
        · intro w hSw
          obtain ⟨s0, s1⟩ := HLDo.out _ hSw
          go_simp
        show wpAnyH _ _ _ _ _ _ _ (Act.put _ (some 62) _) _
        simp only [Act.put, List.setIfInBounds_toArray, List.set_cons_zero, List.set_cons_succ]
        refine wpAnyH_take (i := 18) (v := .bool true) rfl (by kernel_rfl) (by kernel_rfl) (by kernel_rfl) (fun _ _ _ h => h) (Or.inl ⟨by rfl, ?_⟩) (by assumption) ?_
        · intro w hSw
          obtain ⟨s0, s1⟩ := HLDo.out _ hSw
          go_simp
        show wpAnyH _ _ _ _ _ _ _ (Act.put _ (some 63) _) _
        simp only [Act.put, List.setIfInBounds_toArray, List.set_cons_zero, List.set_cons_succ]
        refine wpAnyH_take (i := 19) (v := .bool true) rfl (by kernel_rfl) (by kernel_rfl) (by kernel_rfl) (fun _ _ _ h => h) (Or.inl ⟨by rfl, ?_⟩) (by assumption) ?_
        · intro w hSw
          obtain ⟨s0, s1⟩ := HLDo.out _ hSw
          go_simp
        show wpAnyH _ _ _ _ _ _ _ (Act.put _ (some 64) _) _
        simp only [Act.put, List.setIfInBounds_toArray, List.set_cons_zero, List.set_cons_succ]
        refine wpAnyH_take (i := 20) (v := .pointer (some ⟨p5, 0, none⟩)) rfl (by kernel_rfl) (by kernel_rfl) (by kernel_rfl) (fun _ _ _ h => h) (Or.inl ⟨by rfl, ?_⟩) (by assumption) ?_
        · intro w hSw
          obtain ⟨s0, s1⟩ := HLDo.out _ hSw
          go_simp
        show wpAnyH _ _ _ _ _ _ _ (Act.put _ (some 65) _) _
        simp only [Act.put, List.setIfInBounds_toArray, List.set_cons_zero, List.set_cons_succ]
        refine wpAnyH_take (i := 22) (v := .pointer (some ⟨rb, 1, none⟩)) rfl (by kernel_rfl) (by kernel_rfl) (by kernel_rfl) (fun _ _ _ h => h) (Or.inl ⟨by rfl, ?_⟩) (by assumption) ?_
        · intro w hSw
          obtain ⟨s0, s1⟩ := HLDo.out _ hSw
          go_simp
        show wpAnyH _ _ _ _ _ _ _ (Act.put _ (some 67) _) _
        simp only [Act.put, List.setIfInBounds_toArray, List.set_cons_zero, List.set_cons_succ]
        refine wpAnyH_take (i := 23) (v := .slice LA3 M.length lc3) rfl (by kernel_rfl) (by kernel_rfl) (by kernel_rfl) (fun _ _ _ h => h) (Or.inl ⟨by rfl, ?_⟩) (by assumption) ?_
        · intro w hSw
          obtain ⟨s0, s1⟩ := HLDo.out _ hSw
          go_simp
        show wpAnyH _ _ _ _ _ _ _ (Act.put _ (some 68) _) _
        simp only [Act.put, List.setIfInBounds_toArray, List.set_cons_zero, List.set_cons_succ]
        refine wpAnyH_ready (rs := [21]) (by kernel_rfl) (by simp) ?_
        refine AllReadyH.cons rfl (fun K hK => ?_) AllReadyH.nil
        go_simp
        ((with_reducible refine (list_any (HT5.out.below hB6) (by omega) 0 4611686018427387904).mono ?_))
        rintro e w7 ⟨v7, rfl, hown7, hb7⟩
        have hB7 := hB6.trans (hb7.mono hB6.size)
        rw [HCH.out] at hown7
        obtain ⟨A7, c7, rfl, hsl7⟩ := OwnR.sl hown7
        have HSAME := Lib.hid (same_any A7 LA3 c7 lc3 M w7 hsl7 ((HBO.out.below (HB5.out.trans (hB7.mono HB5.out.size))).list) (by omega))
        clear hown7 hsl7
        go_simp
        refine hK.out _ _ hB7 (fun hHeld => ?_)
        clear hK K hHeld
        have hHeld := hB7
        refine wpAnyH_ready (rs := [24]) (by kernel_rfl) (by simp) ?_
        refine AllReadyH.cons rfl (fun K hK => ?_) AllReadyH.nil
        go_simp
        ((with_reducible refine (HSAME.out).mono ?_))
        rintro e w8 ⟨rfl, hb8⟩
        have hB8 := hB7.trans (hb8.mono hB7.size)
        go_simp
        refine hK.out _ _ hB8 (fun hHeld => ?_)
        clear hK K hHeld
        have hHeld := hB8
        refine wpAnyH_take (i := 25) (v := .bool true) rfl (by kernel_rfl) (by kernel_rfl) (by kernel_rfl) (fun _ _ _ h => h) (Or.inl ⟨by rfl, ?_⟩) (by assumption) ?_
        · intro w hSw
          obtain ⟨s0, s1⟩ := HLDo.out _ hSw
          go_simp
        show wpAnyH _ _ _ _ _ _ _ (Act.put _ (some 70) _) _
        simp only [Act.put, List.setIfInBounds_toArray, List.set_cons_zero, List.set_cons_succ]
        refine wpAnyH_take (i := 26) (v := .bool true) rfl (by kernel_rfl) (by kernel_rfl) (by kernel_rfl) (fun _ _ _ h => h) (Or.inl ⟨by rfl, ?_⟩) (by assumption) ?_
        · intro w hSw
          obtain ⟨s0, s1⟩ := HLDo.out _ hSw
          go_simp
        refine wpAnyH_done (by kernel_rfl) ?_ _
        go_wp2_with fail
        go_ret
        exact ⟨rfl, HB0.out.trans ((HBZ.out.trans ((HB5.out.trans (hB8.mono HB5.out.size)).mono HBZ.out.size)).mono HB0.out.size)⟩
      · exact absurd hbM (fun q => fine_bad (by omega) HFL.out q)
  · go_wp2_with fail
    go_ret
    exact ⟨rfl, HB0.out.trans ((HB2.out.alloc HB2.out.size _).mono HB0.out.size)⟩

theorem laid_met (os : Os) : laidMet Tryd.prog Rows.travelTimesFormatUptoRow.laid ((World.laidAll Tryd.prog os Rows.travelTimesFormatUptoRow.laid).forCall (fun _ _ => 0) ⟨#[], #[.slice none 0 0, .slice none 0 0], []⟩).memory :=
  laidMet_laidAll _ (laid_fits os) (laid_ifaces os)
theorem reads (os : Os) {H : Type} (enc : TypeId × Value → H) : ∃ places, DataW.whole enc Tryd.prog ((World.laidAll Tryd.prog os Rows.travelTimesFormatUptoRow.laid).forCall (fun _ _ => 0) ⟨#[], #[.slice none 0 0, .slice none 0 0], []⟩).memory Tryd.f3.params.toList Rows.travelTimesFormatSpec.vars false #[Value.slice none 0 0, .slice none 0 0].toList 8 = some ([.nil, .nil], [], places) :=
  ⟨[], by kernel_rfl⟩

set_option maxRecDepth 100000 in
theorem lifted (os : Os) (started : os.Started) (H : Type) (enc : TypeId × Value → H) (F : Stop.Interp) :
    ReturnsInHanded {} Tryd.checked os 3 .any ((Rows.OpenSpec.upto Rows.travelTimesFormatSpec).preRow enc Tryd.prog Tryd.f3 Rows.travelTimesFormatUptoRow.domain false Rows.travelTimesFormatUptoRow.laid) (((Rows.OpenSpec.upto Rows.travelTimesFormatSpec).at F).post enc Tryd.prog Tryd.f3 false true false false) := by
  obtain ⟨places, hx⟩ := reads os enc
  refine returnsInHanded_of_row (C := Tryd.checked) (s := Rows.OpenSpec.upto Rows.travelTimesFormatSpec) own started (by kernel_rfl) Tryd.func3
    (witness_row_atRef (enc := enc) (C := Tryd.checked) false (World.laidAll Tryd.prog os Rows.travelTimesFormatUptoRow.laid) #[.slice none 0 0, .slice none 0 0] (World.laidAll_os _ _ _) (laid_vars os _) (laid_rest os _) (by kernel_rfl)
      (OpenSpec.preRow_of_cond 8 hx (by kernel_rfl) (fun k hk => by cases hk; kernel_rfl) (by kernel_rfl) (laid_met os))) ?_
  intro W base args ds gs before hval0 hW _ hcond _ hLH hSh _
  have hL0 := hLH
  rw [MakeChecks.laidMetH_plain _ _ _ (by kernel_rfl)] at hL0
  have hL : laidMet Tryd.prog Rows.travelTimesFormatUptoRow.laid W := hL0
  clear hL0
  have hr : ReadyP W := readyP_of hL.tail.tail hL.tail.tail.tail.tail.tail hL.tail.tail.tail.tail hSh
  have hval : ∀ (j : Nat) t v, Tryd.f3.params[j]? = some t → args[j]? = some v → Value.okWide Tryd.prog W .any base t v := hval0
  have hW' := hW
  obtain ⟨p, q, hA0, hV, rfl, hfz, hnd⟩ := hW
  have hA : DataW.TrodAll enc Tryd.prog W 0 (fun _ => true) true Tryd.f3.params.toList args.toList ds p := hA0
  rw [Tryd.params3] at hA hval
  obtain ⟨v0, vs0, d0, ds0, p0, q0, hargs, rfl, rfl, h0, r0⟩ := trodAll_cons hA
  obtain ⟨v1, vs1, d1, ds1, p1, q1, rfl, rfl, rfl, h1, r1⟩ := trodAll_cons r0
  obtain ⟨rfl, rfl, rfl⟩ := trodAll_nil r1
  obtain rfl : args = #[v0, v1] := by cases args; simp_all
  obtain ⟨rfl, rfl⟩ := trodVars_none hV
  have hk := bulk_two (hcond _ rfl)
  obtain ⟨A0, zs0, c0, rfl, hs0, hwf0, hc0, hm0, hz0⟩ := open_sl Tryd.underlying22 Tryd.underlying2 (by kernel_rfl) (hval 0 22 v0 rfl rfl) h0
  have hn0 : zs0.length ≤ 1048576 := Nat.le_trans (bulk_slice Tryd.underlying22 h0) hk.1
  obtain ⟨A1, l1, c1, rfl, hl1, hc1, hm1, hz1⟩ := open_chgs (hval 1 23 v1 rfl rfl) h1
  clear hA0 hval0
  refine (walk W A0 zs0 c0 hs0 hn0 A1 l1 c1 hl1 hr).mono fun e W' ⟨he, hb⟩ => ?_
  subst he
  exact ⟨_, rfl, law_post laidOut (by kernel_rfl) rfl Tryd.underlying4 rfl hW' rfl rfl rfl hb⟩

theorem said : Rows.TravelTimesFormatUptoSaid :=
  OpenClaim.holds_of_cond 3 Tryd.f3 rfl rfl rfl rfl rfl rfl rfl ⟨rfl, rfl, rfl, rfl, rfl⟩ rfl rfl rfl rfl rfl (by kernel_rfl) Tryd.func3 (by kernel_rfl)
    (of_decide_eq_true (by kernel_rfl)) (by unfold Func.isWrapper; first | (rw [if_pos (by decide +kernel)]; kernel_rfl) | (rw [if_neg (by decide +kernel)]; exact ⟨rfl, rfl⟩))
    (fun os started H enc _ F => by rw [OpenClaim.pre_eq_preRow]; exact lifted os started H enc F)

/-- No parameter wants a stand-in; the program's looks are those of the card. -/
theorem plain (f : FuncId) (fn : Func) (hf : Tryd.pinned.checked.prog.funcNamed "samaritan/samaritanlaw08.TravelTimesFormat" = some f) (hfn : Tryd.pinned.checked.prog.funcs[f]? = some fn) :
    true = Tryd.pinned.checked.prog.looks [] ∧ ∀ (j : Nat) t, fn.params[j]? = some t → Tryd.pinned.checked.prog.wantsStandIn t = false := by
  obtain rfl : f = 3 := Option.some.inj ((show Tryd.prog.funcNamed "samaritan/samaritanlaw08.TravelTimesFormat" = some 3 by kernel_rfl).symm.trans hf) |>.symm
  obtain rfl : fn = Tryd.f3 := (Option.some.inj (Tryd.func3.symm.trans hfn)).symm
  refine ⟨by kernel_rfl, fun j t ht => ?_⟩
  rw [Tryd.params3] at ht
  have hm := Array.mem_of_getElem? ht
  have hall : (#[22, 23] : Array TypeId).toList.all (fun t => Tryd.prog.wantsStandIn t == false) = true := by kernel_rfl
  have := List.all_eq_true.1 hall t (by simpa using hm)
  exact beq_iff_eq.1 this

theorem card : Rows.TravelTimesFormatUptoCardSaid :=
  Claim7.holds_tied_plain_at .later [] _ _ _ _ said (fun _ h => by cases h) (by kernel_rfl) (fun _ h => by cases h) travelTimesFormatUpto_row_tie rfl ⟨rfl, rfl⟩ (by kernel_rfl) rfl plain (by kernel_rfl)
#print axioms card
end Go.Proofs.YtppbmnlneoinhaaDoor.l08Format
