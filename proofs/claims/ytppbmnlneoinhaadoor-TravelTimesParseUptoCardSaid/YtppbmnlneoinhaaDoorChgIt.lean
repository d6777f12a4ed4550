/-
  Changes of a table: the iterator that it returns.
-/
import Derived.Test.YtppbmnlneoinhaaDoorChgP
import Derived.Test.YtppbmnlneoinhaaDoorAppB
import Derived.Test.YtppbmnlneoinhaaDoorOpenC
import Derived.Deep.RegionHeld3
import Derived.Deep.DeepCutAuto
namespace Go.Proofs.YtppbmnlneoinhaaDoor
open Go.RowKit Go.Maps

section
variable {w : World} {B gp n : Nat} {E : List EdgeT} {p cb : Nat} {F : Option Nat → Value} {L : List ChgT}
/-- S lies at A', within the table's row of all changes. -/
def SubAt (F : Option Nat → Value) (L : List ChgT) (A' : Option Addr) (S : List ChgT) : Prop := S = [] ∨ ∃ g i, (F none).ownBlock = some g ∧ A' = some ⟨g, i * 3, none⟩ ∧ S = (L.drop i).take S.length
theorem sub_chgs {X : World} {A' : Option Addr} {S : List ChgT} (h : SubAt F L A' S) (hX : ∀ g j u, (F none).ownBlock = some g → (L.flatMap cellsC)[j]? = some u → X.cell? ⟨g, j, none⟩ = some u) (hlt : ∀ g, (F none).ownBlock = some g → g < X.heap.size) : ChgsAt X X.heap.size A' S := by
  rcases h with rfl | ⟨g, i, hg, rfl, hS⟩
  · exact RecsAt.empty
  · refine recsAt_of cellsC_len (by omega) (fun k c hk => ⟨g, i * 3, rfl, hlt g hg, fun j u hj => ?_⟩)
    have hL : L[i + k]? = some c := by
      rw [hS, List.getElem?_take] at hk
      split at hk
      · rw [List.getElem?_drop] at hk
        exact hk
      · cases hk
    have h1 := hX g _ u hg (flat_at cellsC_len hL hj)
    rw [Nat.add_mul] at h1
    exact h1
/-- what Changes returns. -/
def RetIt (w : World) (F : Option Nat → Value) (L : List ChgT) (a b : Int) (e : Ending) (w' : World) : Prop :=
  ∃ lb A', e = .returned (.func (.func 47) #[] #[.pointer (some ⟨lb, 0, none⟩)]) ∧ w.heap.size ≤ lb ∧ lb < w'.heap.size ∧ w'.cell? ⟨lb, 0, none⟩ = some (.slice A' (chgsL L a b).length (chgsL L a b).length) ∧ SubAt F L A' (chgsL L a b) ∧ Below w.heap.size w w'
set_option maxRecDepth 100000 in
set_option maxHeartbeats 2000000 in
theorem changes_any (h : TabAt w B gp n E p cb F L) (hl : L.length ≤ 100000) (a b : Int) :
    Calls Tryd.prog 29 #[.pointer (some ⟨p, 0, none⟩), .int .i64 a, .int .i64 b] w (RetIt w F L a b) := by
  have hp := h.size
  have c1 : w.cell? ⟨p, 1, none⟩ = some (F none) := h.fam.cell none trivial
  obtain ⟨A, cp, hF, hsl⟩ := (h.fam.own none trivial).sl
  rw [hF] at c1
  replace c1 : w.cell? ⟨p, 1, none⟩ = some (.slice A L.length cp) := c1
  obtain ⟨m, hm⟩ : ∃ m, m = L.length := ⟨_, rfl⟩
  rw [← hm] at c1
  have HASC := Lib.hid h.asc
  have HCN := Lib.hid (show ∀ (X : World) (x : Int), Below w.heap.size w X → Calls Tryd.prog 36 #[.slice A m cp, .int .i64 x] X fun e w' => e = .returned (.int .i64 (cntB L x : Nat)) ∧ Below X.heap.size X w' from fun X x hX => by
    have hs : ChgsAt X X.heap.size A L := (RecsAt.below hsl hX).more hX.size
    rw [hm]
    exact countBefore_any A cp L x X hs (by omega) HASC.out)
  have HLD := Lib.hid (show ∀ X, Below w.heap.size w X → X.cell? ⟨p, 1, none⟩ = some (.slice A m cp) from fun X hX => (hX.cell (p := ⟨p, 1, none⟩) hp).trans c1)
  have hca := cntB_le L a
  have hcb := cntB_le L b
  rw [← hm] at hca hcb hl
  obtain ⟨hcm, hcap, hcx, hnil⟩ : m = L.length ∧ L.length ≤ cp ∧ cp ≤ 9223372036854775807 ∧ (A = none → cp = 0) := by
    have h1 := h.fam.own none trivial
    rw [hF] at h1
    exact ⟨hm, (OwnR.caps h1).2.1, (OwnR.caps h1).2.2.1, (OwnR.caps h1).2.2.2⟩
  have hmc : m ≤ cp := by omega
  have HM := Lib.hid hm
  have HF := Lib.hid hF
  have HOWN := Lib.hid (h.fam.own none trivial)
  clear h hF hsl c1 hm hcm hcap
  go_enter Tryd.func29, Tryd.ntmps29
  go_upto_region 1 with (fail)
  go_cut [7, 8] (fun v1 v2 wx => v1 = .int .i64 (cntB L a : Nat) ∧ v2 = .int .i64 (cntB L b : Nat) ∧ Below w.heap.size w wx)
  case first =>
    obtain ⟨wd, hwd⟩ : ∃ wd, wd = w.drew := ⟨_, rfl⟩
    have hBd : Below w.heap.size w wd := by rw [hwd]; exact below_drewN (Below.refl _ _) 1
    refine wp_region_held_drew (S := fun X => Below w.heap.size w X) (by kernel_rfl) (by rw [← hwd]; exact hBd) (fun hHeld => ?_)
    rw [← hwd]
    clear hwd hHeld
    have hHeld := hBd
    refine wpAnyH_take (i := 0) (v := .pointer (some ⟨p, 0, none⟩)) rfl (by kernel_rfl) (by kernel_rfl) (by kernel_rfl) (fun _ _ _ h => h) (Or.inl ⟨by rfl, ?_⟩) (by assumption) ?_
    · intro w hSw
      have s0 := HLD.out _ hSw
      go_simp
    show wpAnyH _ _ _ _ _ _ _ (Act.put _ (some 10) _) _
    simp only [Act.put, List.setIfInBounds_toArray, List.set_cons_zero, List.set_cons_succ]
    refine wpAnyH_take (i := 1) (v := .pointer (some ⟨p, 0, none⟩)) rfl (by kernel_rfl) (by kernel_rfl) (by kernel_rfl) (fun _ _ _ h => h) (Or.inl ⟨by rfl, ?_⟩) (by assumption) ?_
    · intro w hSw
      have s0 := HLD.out _ hSw
      go_simp
    show wpAnyH _ _ _ _ _ _ _ (Act.put _ (some 11) _) _
    simp only [Act.put, List.setIfInBounds_toArray, List.set_cons_zero, List.set_cons_succ]
    refine wpAnyH_take (i := 2) (v := .pointer (some ⟨p, 1, none⟩)) rfl (by kernel_rfl) (by kernel_rfl) (by kernel_rfl) (fun _ _ _ h => h) (Or.inl ⟨by rfl, ?_⟩) (by assumption) ?_
    · intro w hSw
      have s0 := HLD.out _ hSw
      go_simp
    show wpAnyH _ _ _ _ _ _ _ (Act.put _ (some 12) _) _
    simp only [Act.put, List.setIfInBounds_toArray, List.set_cons_zero, List.set_cons_succ]
    refine wpAnyH_take (i := 3) (v := .slice A m cp) rfl (by kernel_rfl) (by kernel_rfl) (by kernel_rfl) (fun _ _ _ h => h) (Or.inl ⟨by rfl, ?_⟩) (by assumption) ?_
    · intro w hSw
      have s0 := HLD.out _ hSw
      go_simp
    show wpAnyH _ _ _ _ _ _ _ (Act.put _ (some 13) _) _
    simp only [Act.put, List.setIfInBounds_toArray, List.set_cons_zero, List.set_cons_succ]
    refine wpAnyH_take (i := 4) (v := .int .i64 a) rfl (by kernel_rfl) (by kernel_rfl) (by kernel_rfl) (fun _ _ _ h => h) (Or.inl ⟨by rfl, ?_⟩) (by assumption) ?_
    · intro w hSw
      have s0 := HLD.out _ hSw
      go_simp
    show wpAnyH _ _ _ _ _ _ _ (Act.put _ (some 14) _) _
    simp only [Act.put, List.setIfInBounds_toArray, List.set_cons_zero, List.set_cons_succ]
    refine wpAnyH_take (i := 6) (v := .pointer (some ⟨p, 0, none⟩)) rfl (by kernel_rfl) (by kernel_rfl) (by kernel_rfl) (fun _ _ _ h => h) (Or.inl ⟨by rfl, ?_⟩) (by assumption) ?_
    · intro w hSw
      have s0 := HLD.out _ hSw
      go_simp
    show wpAnyH _ _ _ _ _ _ _ (Act.put _ (some 16) _) _
    simp only [Act.put, List.setIfInBounds_toArray, List.set_cons_zero, List.set_cons_succ]
    refine wpAnyH_take (i := 7) (v := .pointer (some ⟨p, 0, none⟩)) rfl (by kernel_rfl) (by kernel_rfl) (by kernel_rfl) (fun _ _ _ h => h) (Or.inl ⟨by rfl, ?_⟩) (by assumption) ?_
    · intro w hSw
      have s0 := HLD.out _ hSw
      go_simp
    show wpAnyH _ _ _ _ _ _ _ (Act.put _ (some 17) _) _
    simp only [Act.put, List.setIfInBounds_toArray, List.set_cons_zero, List.set_cons_succ]
    refine wpAnyH_take (i := 8) (v := .pointer (some ⟨p, 1, none⟩)) rfl (by kernel_rfl) (by kernel_rfl) (by kernel_rfl) (fun _ _ _ h => h) (Or.inl ⟨by rfl, ?_⟩) (by assumption) ?_
    · intro w hSw
      have s0 := HLD.out _ hSw
      go_simp
    show wpAnyH _ _ _ _ _ _ _ (Act.put _ (some 18) _) _
    simp only [Act.put, List.setIfInBounds_toArray, List.set_cons_zero, List.set_cons_succ]
    refine wpAnyH_take (i := 9) (v := .slice A m cp) rfl (by kernel_rfl) (by kernel_rfl) (by kernel_rfl) (fun _ _ _ h => h) (Or.inl ⟨by rfl, ?_⟩) (by assumption) ?_
    · intro w hSw
      have s0 := HLD.out _ hSw
      go_simp
    show wpAnyH _ _ _ _ _ _ _ (Act.put _ (some 19) _) _
    simp only [Act.put, List.setIfInBounds_toArray, List.set_cons_zero, List.set_cons_succ]
    refine wpAnyH_take (i := 10) (v := .int .i64 b) rfl (by kernel_rfl) (by kernel_rfl) (by kernel_rfl) (fun _ _ _ h => h) (Or.inl ⟨by rfl, ?_⟩) (by assumption) ?_
    · intro w hSw
      have s0 := HLD.out _ hSw
      go_simp
    show wpAnyH _ _ _ _ _ _ _ (Act.put _ (some 20) _) _
    simp only [Act.put, List.setIfInBounds_toArray, List.set_cons_zero, List.set_cons_succ]
    refine wpAnyH_ready (rs := [5]) (by kernel_rfl) (by simp) ?_
    refine AllReadyH.cons rfl (fun K hK => ?_) AllReadyH.nil
    go_simp
    ((with_reducible refine (HCN.out _ a hBd).mono ?_))
    rintro e w5 ⟨rfl, hb5⟩
    have hB5 := hBd.trans (hb5.mono hBd.size)
    go_simp
    refine hK.out _ _ hB5 (fun hHeld => ?_)
    clear hK K hHeld
    have hHeld := hB5
    refine wpAnyH_ready (rs := [11]) (by kernel_rfl) (by simp) ?_
    refine AllReadyH.cons rfl (fun K hK => ?_) AllReadyH.nil
    go_simp
    ((with_reducible refine (HCN.out _ b hB5).mono ?_))
    rintro e w6 ⟨rfl, hb6⟩
    have hB6 := hB5.trans (hb6.mono hB5.size)
    go_simp
    refine hK.out _ _ hB6 (fun hHeld => ?_)
    clear hK K hHeld
    have hHeld := hB6
    refine wpAnyH_take (i := 12) (v := .int .i64 (cntB L a : Nat)) rfl (by kernel_rfl) (by kernel_rfl) (by kernel_rfl) (fun _ _ _ h => h) (Or.inl ⟨by rfl, ?_⟩) (by assumption) ?_
    · intro w hSw
      go_simp
    refine wpAnyH_take (i := 13) (v := .int .i64 (cntB L b : Nat)) rfl (by kernel_rfl) (by kernel_rfl) (by kernel_rfl) (fun _ _ _ h => h) (Or.inl ⟨by rfl, ?_⟩) (by assumption) ?_
    · intro w hSw
      go_simp
    refine wpAnyH_done (by kernel_rfl) ?_ _
    go_wp2_with fail
    go_meet
    case rel => exact ⟨rfl, rfl, hB6⟩
  case rest =>
    obtain ⟨rfl, rfl, hb⟩ := hcut
    have HB := Lib.hid hb
    have s0 := HLD.out _ hb
    clear hb
    have hcut := chgs_cut HASC.out a b
    obtain ⟨i, hi⟩ : ∃ i, i = cntB L a := ⟨_, rfl⟩
    obtain ⟨j, hj⟩ : ∃ j, j = cntB L b := ⟨_, rfl⟩
    rw [← hi, ← hj] at hcut
    rw [← hi, ← hj]
    rw [← hi] at hca
    rw [← hj] at hcb
    clear hi hj
    by_cases hij : i < j
    · have hx : max (i : Int) (j : Int) = (j : Int) := by omega
      have h1 : (i : Int) ≤ (j : Int) := by omega
      have h2 : (j : Int) ≤ (cp : Int) := by omega
      have h3 : (0 : Int) ≤ (i : Int) := by omega
      have h4 : (0 : Int) ≤ (j : Int) := by omega
      have hlen : (chgsL L a b).length = j - i := by
        rw [← hcut, List.length_take, List.length_drop]
        have := HM.out
        omega
      obtain ⟨g, cap', hform, _, _⟩ := World.ownsRow.form HOWN.out (show 0 < L.length by have := HM.out; omega)
      have hA : A = some ⟨g, 0, none⟩ := by
        rw [HF.out] at hform
        injection hform
      have HSUB := Lib.hid (show SubAt F L (some ⟨g, i * 3, none⟩) (chgsL L a b) from .inr ⟨g, i, by rw [hform]; rfl, rfl, by rw [hlen]; rw [← hcut]; congr 1; omega⟩)
      have HLEN := Lib.hid hlen
      subst hA
      clear hcut hlen hform hx
      go_wp2_with fail
      go_ret
      refine ⟨wc.heap.size, some ⟨g, i * 3, none⟩, rfl, HB.out.size, by simp, ?_, HSUB.out, HB.out.alloc HB.out.size _⟩
      rw [World.cell?_alloc_at (hn := rfl), HLEN.out]
      simp
      omega
    · have hx : max (i : Int) (j : Int) = (i : Int) := by omega
      have h1 : (j : Int) ≤ (i : Int) := by omega
      have h2 : (i : Int) ≤ (cp : Int) := by omega
      have h3 : (0 : Int) ≤ (i : Int) := by omega
      have hS : chgsL L a b = [] := by
        rw [← hcut, show max i j - i = 0 by omega, List.take_zero]
      have HS := Lib.hid hS
      clear hcut hS hx
      go_wp2_with fail
      go_ret
      refine ⟨wc.heap.size, A, rfl, HB.out.size, by simp, ?_, .inl HS.out, HB.out.alloc HB.out.size _⟩
      rw [HS.out, World.cell?_alloc_at (hn := rfl)]
      simp
      omega
end
end Go.Proofs.YtppbmnlneoinhaaDoor
