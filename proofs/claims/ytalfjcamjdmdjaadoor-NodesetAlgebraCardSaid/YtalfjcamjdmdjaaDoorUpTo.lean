/-
  nodeset: All (the nodes less than n).
-/
import Derived.Test.YtalfjcamjdmdjaaDoorSet
namespace Go.Proofs.YtalfjcamjdmdjaaDoor
open Go.RowKit

/-- how many nodes All takes. -/
def top (z : Int) : Nat := (min z 4096).toNat
def upI (k : Nat) : List Int := (List.range k).map Int.ofNat
theorem top_le (z : Int) : top z ≤ 4096 := by unfold top; omega
theorem top_min (z : Int) : (min z 4096 : Int) = if z < 0 then z else (top z : Int) := by
  unfold top
  split <;> omega
theorem upI_step (k : Nat) (hk : k < 4096) : ofW (upI (k + 1)) = addW (ofW (upI k)) k := by
  have e : upI (k + 1) = upI k ++ [(k : Int)] := by simp [upI, List.range_succ]
  rw [e, ofW_snoc]
  unfold ofStep
  rw [if_pos ⟨by omega, by omega⟩]
  rfl
set_option maxRecDepth 100000 in
set_option maxHeartbeats 1000000 in
theorem upto_any (w : World) (z : Int) :
    Calls Tryd.prog 26 #[.int .i64 z] w (RetSet w (ofW (upI (top z)))) := by
  obtain ⟨bb, hbb⟩ : ∃ bb, bb = w.heap.size + 1 := ⟨_, rfl⟩
  obtain ⟨W0, hW0⟩ : ∃ W0, W0 = (w.alloc (.cells #[.pointer none] 30)).alloc (.cells (wcells zeros) 56) := ⟨_, rfl⟩
  have hb0 : Below w.heap.size w W0 := by rw [hW0]; exact ((Below.refl _ _).alloc (Nat.le_refl _) _).alloc (by simp) _
  have hr0 : RowAt W0 bb zeros := by
    have := rowAt_zeros (w.alloc (.cells #[.pointer none] 30))
    rw [← hW0] at this
    have e : (w.alloc (.cells #[.pointer none] 30)).heap.size = bb := by rw [hbb]; simp
    rw [e] at this
    exact this
  have hwz : wcells zeros = (List.replicate 64 (Value.int .u64 0)).toArray := by simp [wcells, zeros]
  rw [hwz] at hW0
  simp only [List.replicate_succ, List.replicate_zero] at hW0
  have htop := top_min z
  have hl := top_le z
  obtain ⟨n, hn⟩ : ∃ n, n = top z := ⟨_, rfl⟩
  rw [← hn] at hl htop ⊢
  have HB0 := Lib.hid hb0
  have HR0 := Lib.hid hr0
  have HW0 := Lib.hid hW0
  have HBB := Lib.hid hbb
  have hbw : ¬ w.heap.size = bb := by omega
  have hz0 : w.heap.size < W0.heap.size := by have := hr0.lt; omega
  have hk0 : W0.cell? ⟨w.heap.size, 0, none⟩ = some (.pointer none) := by
    rw [hW0]
    exact ((Below.refl (w.alloc (.cells #[.pointer none] 30)).heap.size _).alloc (Nat.le_refl _) _).cell (p := ⟨w.heap.size, 0, none⟩) (by simp) |>.trans (by rw [World.cell?_alloc_at (hn := rfl)]; rfl)
  have hf0 : W0.frozen? ⟨w.heap.size, 0, none⟩ = false := by
    rw [hW0]
    exact ((Below.refl (w.alloc (.cells #[.pointer none] 30)).heap.size _).alloc (Nat.le_refl _) _).frozen (p := ⟨w.heap.size, 0, none⟩) (by simp) |>.trans (by rw [World.frozen?_alloc_at (hn := rfl)])
  have HK0 := Lib.hid (And.intro hk0 hf0)
  clear hb0 hr0 hW0 hwz hbb hk0 hf0 htop
  by_cases hz : z ≤ 4096
  · have htop : (n : Int) = if z < 0 then 0 else z := by rw [hn]; unfold top; split <;> omega
    go_enter Tryd.func26, Tryd.ntmps26
    go_wp2_with fail
    rw [← HW0.out, ← HBB.out]
    go_loopw [4, 7] (fun _ iv wr => ∃ k : Nat, k ≤ n ∧ iv = .int .i64 k ∧ RowAt wr bb (ofW (upI k)) ∧ Only (fun b => b = bb) W0 wr) (fun _ i _ => n - (intOf i).toNat)
    case atStart => exact ⟨0, Nat.zero_le _, rfl, HR0.out, Only.refl⟩
    case round =>
      obtain ⟨k, hk, rfl, hrow, hb⟩ := hrel
      have HROW := Lib.hid hrow
      have HB := Lib.hid hb
      have HBW := Lib.hid (HB0.out.trans (hb.below (B := w.heap.size) (Nat.le_of_lt hz0) (fun j e => by have e : j = bb := e; have := HBB.out; omega)))
      clear hrow hb
      by_cases hlt : (k : Int) < z
      · have hkn : k < n := by omega
        have HA := Lib.hid (add_any wr bb k _ (wds_of _) HROW.out (by omega))
        have HST := Lib.hid (upI_step k (by omega))
        go_wp2_with fail
        refine HA.out.mono ?_
        rintro e w2 ⟨⟨v, rfl⟩, hrow2, ho2⟩
        have HR2 := Lib.hid hrow2
        have HO2 := Lib.hid ho2
        clear hrow2 ho2
        go_wp2_with fail
        go_roundw
        case rel => exact ⟨k + 1, by omega, by go_num, by rw [HST.out]; exact HR2.out, HB.out.trans HO2.out (fun _ _ q => q)⟩
        case measure => simp [intOf]; omega
      · have hkk : k = n := by omega
        subst hkk
        clear htop hl HW0
        have hrow : RowAt wr bb (ofW (upI k)) := HROW.out
        have HRW := Lib.hid hrow
        have HSO := Lib.hid (setOf_any wr bb (ofW (upI k)) (wds_of _) hrow)
        clear hrow
        go_wp2_with fail
        refine HSO.out.mono ?_
        rintro e w2 ⟨v, rfl, hv, hb2⟩
        have hzw : w.heap.size < wr.heap.size := Nat.lt_of_lt_of_le hz0 HB.out.size
        have k2 : w2.cell? ⟨w.heap.size, 0, none⟩ = some (.pointer none) := (hb2.cell (p := ⟨w.heap.size, 0, none⟩) hzw).trans ((HB.out.cell (a := ⟨w.heap.size, 0, none⟩) hz0 hbw).trans HK0.out.1)
        have f2 : w2.frozen? ⟨w.heap.size, 0, none⟩ = false := (hb2.frozen (p := ⟨w.heap.size, 0, none⟩) hzw).trans ((HB.out.frozen (a := ⟨w.heap.size, 0, none⟩) hz0 hbw).trans HK0.out.2)
        have HV := Lib.hid hv
        have HB2 := Lib.hid hb2
        clear hv hb2
        go_wp2_with fail
        refine bodyPost_ret (v := .agg #[.pointer v]) (by simp [results, Tryd.results26, go_sem, k2]) rfl ⟨_, rfl, ?_, ?_⟩
        · exact setAt_new (wds_of _) HRW.out HV.out HB2.out (S := fun j => j = w.heap.size) (Only.setCell (S := fun j => j = w.heap.size) Only.refl (a := ⟨w.heap.size, 0, none⟩) (fun _ => rfl) _) (fun q => hbw q.symm)
        · exact (HBW.out.trans (HB2.out.mono HBW.out.size)).setCell (p := ⟨w.heap.size, 0, none⟩) (Nat.le_refl _) _
  · have htop : n = 4096 := by rw [hn]; unfold top; omega
    have hz : 4096 < z := by omega
    obtain ⟨q, hq⟩ : ∃ q : Int, q = 4096 := ⟨_, rfl⟩
    have htop : (n : Int) = q := by omega
    have HQ := Lib.hid hq
    clear hq
    go_enter Tryd.func26, Tryd.ntmps26
    go_wp2_with fail
    rw [← HW0.out, ← HBB.out, ← HQ.out]
    go_loopw [4, 7] (fun _ iv wr => ∃ k : Nat, k ≤ n ∧ iv = .int .i64 k ∧ RowAt wr bb (ofW (upI k)) ∧ Only (fun b => b = bb) W0 wr) (fun _ i _ => n - (intOf i).toNat)
    case atStart => exact ⟨0, Nat.zero_le _, rfl, HR0.out, Only.refl⟩
    case round =>
      obtain ⟨k, hk, rfl, hrow, hb⟩ := hrel
      have HROW := Lib.hid hrow
      have HB := Lib.hid hb
      have HBW := Lib.hid (HB0.out.trans (hb.below (B := w.heap.size) (Nat.le_of_lt hz0) (fun j e => by have e : j = bb := e; have := HBB.out; omega)))
      clear hrow hb
      by_cases hlt : (k : Int) < q
      · have hkn : k < n := by omega
        have HA := Lib.hid (add_any wr bb k _ (wds_of _) HROW.out (by omega))
        have HST := Lib.hid (upI_step k (by omega))
        go_wp2_with fail
        refine HA.out.mono ?_
        rintro e w2 ⟨⟨v, rfl⟩, hrow2, ho2⟩
        have HR2 := Lib.hid hrow2
        have HO2 := Lib.hid ho2
        clear hrow2 ho2
        go_wp2_with fail
        go_roundw
        case rel => exact ⟨k + 1, by omega, by go_num, by rw [HST.out]; exact HR2.out, HB.out.trans HO2.out (fun _ _ q => q)⟩
        case measure => simp [intOf]; omega
      · have hkk : k = n := by omega
        subst hkk
        clear htop hl HW0 HQ
        have hrow : RowAt wr bb (ofW (upI k)) := HROW.out
        have HRW := Lib.hid hrow
        have HSO := Lib.hid (setOf_any wr bb (ofW (upI k)) (wds_of _) hrow)
        clear hrow
        go_wp2_with fail
        refine HSO.out.mono ?_
        rintro e w2 ⟨v, rfl, hv, hb2⟩
        have hzw : w.heap.size < wr.heap.size := Nat.lt_of_lt_of_le hz0 HB.out.size
        have k2 : w2.cell? ⟨w.heap.size, 0, none⟩ = some (.pointer none) := (hb2.cell (p := ⟨w.heap.size, 0, none⟩) hzw).trans ((HB.out.cell (a := ⟨w.heap.size, 0, none⟩) hz0 hbw).trans HK0.out.1)
        have f2 : w2.frozen? ⟨w.heap.size, 0, none⟩ = false := (hb2.frozen (p := ⟨w.heap.size, 0, none⟩) hzw).trans ((HB.out.frozen (a := ⟨w.heap.size, 0, none⟩) hz0 hbw).trans HK0.out.2)
        have HV := Lib.hid hv
        have HB2 := Lib.hid hb2
        clear hv hb2
        go_wp2_with fail
        refine bodyPost_ret (v := .agg #[.pointer v]) (by simp [results, Tryd.results26, go_sem, k2]) rfl ⟨_, rfl, ?_, ?_⟩
        · exact setAt_new (wds_of _) HRW.out HV.out HB2.out (S := fun j => j = w.heap.size) (Only.setCell (S := fun j => j = w.heap.size) Only.refl (a := ⟨w.heap.size, 0, none⟩) (fun _ => rfl) _) (fun q => hbw q.symm)
        · exact (HBW.out.trans (HB2.out.mono HBW.out.size)).setCell (p := ⟨w.heap.size, 0, none⟩) (Nat.le_refl _) _
end Go.Proofs.YtalfjcamjdmdjaaDoor
