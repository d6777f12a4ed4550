/-
  nodeset: Difference.
-/
import Derived.Test.YtalfjcamjdmdjaaDoorMix
namespace Go.Proofs.YtalfjcamjdmdjaaDoor
open Go.RowKit

def lessN (x y : Nat) : Nat := x &&& (18446744073709551615 - y)
theorem lessN_run {x y : Nat} (hx : x < 18446744073709551616) (hy : y < 18446744073709551616) : bits .andNot .u64 (x : Int) (y : Int) = ((lessN x y : Nat) : Int) := Go.u64_andNot_nat x y hx hy
theorem lessN_lt {x y : Nat} (hx : x < 18446744073709551616) (hy : y < 18446744073709551616) : lessN x y < 18446744073709551616 := by
  have h1 : x < 2 ^ 64 := hx
  have h2 : y < 2 ^ 64 := hy
  unfold lessN
  exact Nat.lt_of_le_of_lt Nat.and_le_left hx
set_option maxRecDepth 100000 in
set_option maxHeartbeats 2000000 in
theorem lessN_any (w : World) (p q : Option Addr) (V W : List Nat) (hp : SetAt w p V) (hq : SetAt w q W) :
    Calls Tryd.prog 28 #[.agg #[.pointer p], .agg #[.pointer q]] w (RetSet w (mixW lessN V W 64)) := by
  obtain ⟨W0, hW0⟩ : ∃ W0, W0 = ((w.alloc (.cells #[.pointer p] 30)).alloc (.cells #[.pointer q] 30)).alloc (.cells #[.pointer none] 30) := ⟨_, rfl⟩
  obtain ⟨rb, hrb⟩ : ∃ rb, rb = w.heap.size + 1 + 1 := ⟨_, rfl⟩
  obtain ⟨hk0, hk1, hk2, hf2, hz0, hb0⟩ := ops_start w p q hW0
  rw [← hrb] at hk2 hf2
  have HK := Lib.hid (And.intro hk0 (And.intro hk1 (And.intro hk2 hf2)))
  have HP := Lib.hid (hp.below hb0)
  have HQ := Lib.hid (hq.below hb0)
  have HB0 := Lib.hid hb0
  have HW0 := Lib.hid hW0
  have HRB := Lib.hid hrb
  have HWV := Lib.hid hp.1
  have HWW := Lib.hid hq.1
  clear hk0 hk1 hk2 hf2 hp hq hb0 hW0
  go_enter Tryd.func28, Tryd.ntmps28
  have hwz : wcells zeros = (List.replicate 64 (Value.int .u64 0)).toArray := by simp [wcells, zeros]
  simp only [List.replicate_succ, List.replicate_zero] at hwz
  have HZ := Lib.hid hwz
  clear hwz
  go_upto_region 1 with (fail)
  rw [← HW0.out, ← hrb]
  clear hrb
  go_cut [5, 6] (OpsMid W0 V W)
  case first =>
    obtain ⟨c0, hcz⟩ : ∃ X, X = W0.drew := ⟨_, rfl⟩
    have hc0 : Below W0.heap.size W0 c0 := by rw [hcz]; exact below_drewN (Below.refl _ _) 1
    refine wp_region_held_drew (S := fun X => X.cell? ⟨w.heap.size, 0, none⟩ = some (.pointer p) ∧ X.cell? ⟨w.heap.size + 1, 0, none⟩ = some (.pointer q)) (by kernel_rfl) ⟨HK.out.1, HK.out.2.1⟩ (fun hHeld => ?_)
    rw [← hcz] at hHeld ⊢
    clear hcz
    refine wpAnyH_take (i := 0) (v := .agg #[.pointer p]) rfl (by kernel_rfl) (by kernel_rfl) (by kernel_rfl) (fun _ _ _ h => h) (Or.inl ⟨by rfl, ?_⟩) (by assumption) ?_
    · intro w hSw
      obtain ⟨s0, s1⟩ := hSw
      go_simp
    show wpAnyH _ _ _ _ _ _ _ (Act.put _ (some 8) _) _
    simp only [Act.put, List.setIfInBounds_toArray, List.set_cons_zero, List.set_cons_succ]
    refine wpAnyH_take (i := 2) (v := .agg #[.pointer q]) rfl (by kernel_rfl) (by kernel_rfl) (by kernel_rfl) (fun _ _ _ h => h) (Or.inl ⟨by rfl, ?_⟩) (by assumption) ?_
    · intro w hSw
      obtain ⟨s0, s1⟩ := hSw
      go_simp
    show wpAnyH _ _ _ _ _ _ _ (Act.put _ (some 10) _) _
    simp only [Act.put, List.setIfInBounds_toArray, List.set_cons_zero, List.set_cons_succ]
    clear hHeld
    refine wpAnyH_ready (rs := [1, 4, 5]) (by kernel_rfl) (by simp) ?_
    refine AllReadyH.cons rfl (fun K hK => ?_) (AllReadyH.cons rfl (fun K hK => ?_) (AllReadyH.cons rfl (fun K hK => ?_) AllReadyH.nil))
    · go_simp
      ((with_reducible refine (bitmap_any c0 p V (HP.out.below hc0)).mono ?_))
      rintro e c1 ⟨rfl, st0⟩
      have hc1 := hc0.trans (st0.mono hc0.size)
      go_simp
      refine hK.out _ _ ⟨(hc1.cell (p := ⟨w.heap.size, 0, none⟩) (by show w.heap.size < _; omega)).trans HK.out.1, (hc1.cell (p := ⟨w.heap.size + 1, 0, none⟩) (by show w.heap.size + 1 < _; omega)).trans HK.out.2.1⟩ (fun hHeld => ?_)
      clear hK K hHeld
      refine wpAnyH_ready (rs := [3, 4, 5]) (by kernel_rfl) (by simp) ?_
      refine AllReadyH.cons rfl (fun K hK => ?_) (AllReadyH.cons rfl (fun K hK => ?_) (AllReadyH.cons rfl (fun K hK => ?_) AllReadyH.nil))
      · go_simp
        ((with_reducible refine (bitmap_any c1 q W (HQ.out.below hc1)).mono ?_))
        rintro e c2 ⟨rfl, st1⟩
        have hc2 := hc1.trans (st1.mono hc1.size)
        go_simp
        refine hK.out _ _ ⟨(hc2.cell (p := ⟨w.heap.size, 0, none⟩) (by show w.heap.size < _; omega)).trans HK.out.1, (hc2.cell (p := ⟨w.heap.size + 1, 0, none⟩) (by show w.heap.size + 1 < _; omega)).trans HK.out.2.1⟩ (fun hHeld => ?_)
        clear hK K hHeld
        refine wpAnyH_ready (rs := [4, 5]) (by kernel_rfl) (by simp) ?_
        refine AllReadyH.cons rfl (fun K hK => ?_) (AllReadyH.cons rfl (fun K hK => ?_) AllReadyH.nil)
        · go_simp
          obtain ⟨c3, ec3⟩ : ∃ X, X = c2.alloc (.cells (wcells zeros) 56) := ⟨_, rfl⟩
          obtain ⟨b1, hb1⟩ : ∃ b, b = c2.heap.size := ⟨_, rfl⟩
          obtain ⟨r1, st2, zz2⟩ := row_alloc ec3
          rw [HZ.out] at ec3
          rw [← ec3, ← hb1]
          rw [← hb1] at r1
          have hc3 := hc2.trans (st2.mono hc2.size)
          have l1 : W0.heap.size ≤ b1 := by rw [hb1]; exact hc2.size
          refine hK.out _ _ ⟨(hc3.cell (p := ⟨w.heap.size, 0, none⟩) (by show w.heap.size < _; omega)).trans HK.out.1, (hc3.cell (p := ⟨w.heap.size + 1, 0, none⟩) (by show w.heap.size + 1 < _; omega)).trans HK.out.2.1⟩ (fun hHeld => ?_)
          clear hK K hHeld ec3 hb1
          refine wpAnyH_ready (rs := [5]) (by kernel_rfl) (by simp) ?_
          refine AllReadyH.cons rfl (fun K hK => ?_) AllReadyH.nil
          · go_simp
            obtain ⟨c4, ec4⟩ : ∃ X, X = c3.alloc (.cells (wcells zeros) 56) := ⟨_, rfl⟩
            obtain ⟨b2, hb2⟩ : ∃ b, b = c3.heap.size := ⟨_, rfl⟩
            obtain ⟨r2, st3, zz3⟩ := row_alloc ec4
            rw [HZ.out] at ec4
            rw [← ec4, ← hb2]
            rw [← hb2] at r2
            have hc4 := hc3.trans (st3.mono hc3.size)
            have l2 : W0.heap.size ≤ b2 := by rw [hb2]; exact hc3.size
            have hbb : b1 ≠ b2 := by have := r1.lt; omega
            have r1 := r1.below st3
            refine hK.out _ _ ⟨(hc4.cell (p := ⟨w.heap.size, 0, none⟩) (by show w.heap.size < _; omega)).trans HK.out.1, (hc4.cell (p := ⟨w.heap.size + 1, 0, none⟩) (by show w.heap.size + 1 < _; omega)).trans HK.out.2.1⟩ (fun hHeld => ?_)
            clear hK K hHeld ec4 hb2
            refine wpAnyH_ready (rs := [6]) (by kernel_rfl) (by simp) ?_
            refine AllReadyH.cons rfl (fun K hK => ?_) AllReadyH.nil
            refine step_store_words c4 rfl (.tmp 5) (.tmp 9) rfl b1 zeros V (by rfl) (by rfl) r1 wds_zeros.len HWV.out.len ?_
            intro d1 rd1 od1
            have hd1 := hc4.trans (od1.below (B := W0.heap.size) hc4.size (fun j e => by have e : j = b1 := e; omega))
            refine hK.out _ _ ⟨(hd1.cell (p := ⟨w.heap.size, 0, none⟩) (by show w.heap.size < _; omega)).trans HK.out.1, (hd1.cell (p := ⟨w.heap.size + 1, 0, none⟩) (by show w.heap.size + 1 < _; omega)).trans HK.out.2.1⟩ (fun hHeld => ?_)
            clear hK K hHeld
            refine wpAnyH_ready (rs := [7]) (by kernel_rfl) (by simp) ?_
            refine AllReadyH.cons rfl (fun K hK => ?_) AllReadyH.nil
            refine step_store_words d1 rfl (.tmp 6) (.tmp 11) rfl b2 zeros W (by rfl) (by rfl) (r2.only od1 (fun e => hbb e.symm)) wds_zeros.len HWW.out.len ?_
            intro d2 rd2 od2
            have hd2 := hd1.trans (od2.below (B := W0.heap.size) hd1.size (fun j e => by have e : j = b2 := e; omega))
            refine hK.out _ _ ⟨(hd2.cell (p := ⟨w.heap.size, 0, none⟩) (by show w.heap.size < _; omega)).trans HK.out.1, (hd2.cell (p := ⟨w.heap.size + 1, 0, none⟩) (by show w.heap.size + 1 < _; omega)).trans HK.out.2.1⟩ (fun hHeld => ?_)
            clear hK K hHeld
            refine wpAnyH_done (by kernel_rfl) ?_ _
            go_wp2_with fail
            go_meet
            case rel => exact ⟨b1, b2, rfl, rfl, l1, l2, hbb, rd1.only od2 hbb, rd2, hd2⟩
        · go_simp
          obtain ⟨c3, ec3⟩ : ∃ X, X = c2.alloc (.cells (wcells zeros) 56) := ⟨_, rfl⟩
          obtain ⟨b2, hb2⟩ : ∃ b, b = c2.heap.size := ⟨_, rfl⟩
          obtain ⟨r2, st2, zz2⟩ := row_alloc ec3
          rw [HZ.out] at ec3
          rw [← ec3, ← hb2]
          rw [← hb2] at r2
          have hc3 := hc2.trans (st2.mono hc2.size)
          have l2 : W0.heap.size ≤ b2 := by rw [hb2]; exact hc2.size
          refine hK.out _ _ ⟨(hc3.cell (p := ⟨w.heap.size, 0, none⟩) (by show w.heap.size < _; omega)).trans HK.out.1, (hc3.cell (p := ⟨w.heap.size + 1, 0, none⟩) (by show w.heap.size + 1 < _; omega)).trans HK.out.2.1⟩ (fun hHeld => ?_)
          clear hK K hHeld ec3 hb2
          refine wpAnyH_ready (rs := [4]) (by kernel_rfl) (by simp) ?_
          refine AllReadyH.cons rfl (fun K hK => ?_) AllReadyH.nil
          · go_simp
            obtain ⟨c4, ec4⟩ : ∃ X, X = c3.alloc (.cells (wcells zeros) 56) := ⟨_, rfl⟩
            obtain ⟨b1, hb1⟩ : ∃ b, b = c3.heap.size := ⟨_, rfl⟩
            obtain ⟨r1, st3, zz3⟩ := row_alloc ec4
            rw [HZ.out] at ec4
            rw [← ec4, ← hb1]
            rw [← hb1] at r1
            have hc4 := hc3.trans (st3.mono hc3.size)
            have l1 : W0.heap.size ≤ b1 := by rw [hb1]; exact hc3.size
            have hbb : b1 ≠ b2 := by have := r2.lt; omega
            have r2 := r2.below st3
            refine hK.out _ _ ⟨(hc4.cell (p := ⟨w.heap.size, 0, none⟩) (by show w.heap.size < _; omega)).trans HK.out.1, (hc4.cell (p := ⟨w.heap.size + 1, 0, none⟩) (by show w.heap.size + 1 < _; omega)).trans HK.out.2.1⟩ (fun hHeld => ?_)
            clear hK K hHeld ec4 hb1
            refine wpAnyH_ready (rs := [6]) (by kernel_rfl) (by simp) ?_
            refine AllReadyH.cons rfl (fun K hK => ?_) AllReadyH.nil
            refine step_store_words c4 rfl (.tmp 5) (.tmp 9) rfl b1 zeros V (by rfl) (by rfl) r1 wds_zeros.len HWV.out.len ?_
            intro d1 rd1 od1
            have hd1 := hc4.trans (od1.below (B := W0.heap.size) hc4.size (fun j e => by have e : j = b1 := e; omega))
            refine hK.out _ _ ⟨(hd1.cell (p := ⟨w.heap.size, 0, none⟩) (by show w.heap.size < _; omega)).trans HK.out.1, (hd1.cell (p := ⟨w.heap.size + 1, 0, none⟩) (by show w.heap.size + 1 < _; omega)).trans HK.out.2.1⟩ (fun hHeld => ?_)
            clear hK K hHeld
            refine wpAnyH_ready (rs := [7]) (by kernel_rfl) (by simp) ?_
            refine AllReadyH.cons rfl (fun K hK => ?_) AllReadyH.nil
            refine step_store_words d1 rfl (.tmp 6) (.tmp 11) rfl b2 zeros W (by rfl) (by rfl) (r2.only od1 (fun e => hbb e.symm)) wds_zeros.len HWW.out.len ?_
            intro d2 rd2 od2
            have hd2 := hd1.trans (od2.below (B := W0.heap.size) hd1.size (fun j e => by have e : j = b2 := e; omega))
            refine hK.out _ _ ⟨(hd2.cell (p := ⟨w.heap.size, 0, none⟩) (by show w.heap.size < _; omega)).trans HK.out.1, (hd2.cell (p := ⟨w.heap.size + 1, 0, none⟩) (by show w.heap.size + 1 < _; omega)).trans HK.out.2.1⟩ (fun hHeld => ?_)
            clear hK K hHeld
            refine wpAnyH_done (by kernel_rfl) ?_ _
            go_wp2_with fail
            go_meet
            case rel => exact ⟨b1, b2, rfl, rfl, l1, l2, hbb, rd1.only od2 hbb, rd2, hd2⟩
      · go_simp
        obtain ⟨c2, ec2⟩ : ∃ X, X = c1.alloc (.cells (wcells zeros) 56) := ⟨_, rfl⟩
        obtain ⟨b1, hb1⟩ : ∃ b, b = c1.heap.size := ⟨_, rfl⟩
        obtain ⟨r1, st1, zz1⟩ := row_alloc ec2
        rw [HZ.out] at ec2
        rw [← ec2, ← hb1]
        rw [← hb1] at r1
        have hc2 := hc1.trans (st1.mono hc1.size)
        have l1 : W0.heap.size ≤ b1 := by rw [hb1]; exact hc1.size
        refine hK.out _ _ ⟨(hc2.cell (p := ⟨w.heap.size, 0, none⟩) (by show w.heap.size < _; omega)).trans HK.out.1, (hc2.cell (p := ⟨w.heap.size + 1, 0, none⟩) (by show w.heap.size + 1 < _; omega)).trans HK.out.2.1⟩ (fun hHeld => ?_)
        clear hK K hHeld ec2 hb1
        refine wpAnyH_ready (rs := [3, 5]) (by kernel_rfl) (by simp) ?_
        refine AllReadyH.cons rfl (fun K hK => ?_) (AllReadyH.cons rfl (fun K hK => ?_) AllReadyH.nil)
        · go_simp
          ((with_reducible refine (bitmap_any c2 q W (HQ.out.below hc2)).mono ?_))
          rintro e c3 ⟨rfl, st2⟩
          have hc3 := hc2.trans (st2.mono hc2.size)
          have r1 := r1.below st2
          go_simp
          refine hK.out _ _ ⟨(hc3.cell (p := ⟨w.heap.size, 0, none⟩) (by show w.heap.size < _; omega)).trans HK.out.1, (hc3.cell (p := ⟨w.heap.size + 1, 0, none⟩) (by show w.heap.size + 1 < _; omega)).trans HK.out.2.1⟩ (fun hHeld => ?_)
          clear hK K hHeld
          refine wpAnyH_ready (rs := [5]) (by kernel_rfl) (by simp) ?_
          refine AllReadyH.cons rfl (fun K hK => ?_) AllReadyH.nil
          · go_simp
            obtain ⟨c4, ec4⟩ : ∃ X, X = c3.alloc (.cells (wcells zeros) 56) := ⟨_, rfl⟩
            obtain ⟨b2, hb2⟩ : ∃ b, b = c3.heap.size := ⟨_, rfl⟩
            obtain ⟨r2, st3, zz3⟩ := row_alloc ec4
            rw [HZ.out] at ec4
            rw [← ec4, ← hb2]
            rw [← hb2] at r2
            have hc4 := hc3.trans (st3.mono hc3.size)
            have l2 : W0.heap.size ≤ b2 := by rw [hb2]; exact hc3.size
            have hbb : b1 ≠ b2 := by have := r1.lt; omega
            have r1 := r1.below st3
            refine hK.out _ _ ⟨(hc4.cell (p := ⟨w.heap.size, 0, none⟩) (by show w.heap.size < _; omega)).trans HK.out.1, (hc4.cell (p := ⟨w.heap.size + 1, 0, none⟩) (by show w.heap.size + 1 < _; omega)).trans HK.out.2.1⟩ (fun hHeld => ?_)
            clear hK K hHeld ec4 hb2
            refine wpAnyH_ready (rs := [6]) (by kernel_rfl) (by simp) ?_
            refine AllReadyH.cons rfl (fun K hK => ?_) AllReadyH.nil
            refine step_store_words c4 rfl (.tmp 5) (.tmp 9) rfl b1 zeros V (by rfl) (by rfl) r1 wds_zeros.len HWV.out.len ?_
            intro d1 rd1 od1
            have hd1 := hc4.trans (od1.below (B := W0.heap.size) hc4.size (fun j e => by have e : j = b1 := e; omega))
            refine hK.out _ _ ⟨(hd1.cell (p := ⟨w.heap.size, 0, none⟩) (by show w.heap.size < _; omega)).trans HK.out.1, (hd1.cell (p := ⟨w.heap.size + 1, 0, none⟩) (by show w.heap.size + 1 < _; omega)).trans HK.out.2.1⟩ (fun hHeld => ?_)
            clear hK K hHeld
            refine wpAnyH_ready (rs := [7]) (by kernel_rfl) (by simp) ?_
            refine AllReadyH.cons rfl (fun K hK => ?_) AllReadyH.nil
            refine step_store_words d1 rfl (.tmp 6) (.tmp 11) rfl b2 zeros W (by rfl) (by rfl) (r2.only od1 (fun e => hbb e.symm)) wds_zeros.len HWW.out.len ?_
            intro d2 rd2 od2
            have hd2 := hd1.trans (od2.below (B := W0.heap.size) hd1.size (fun j e => by have e : j = b2 := e; omega))
            refine hK.out _ _ ⟨(hd2.cell (p := ⟨w.heap.size, 0, none⟩) (by show w.heap.size < _; omega)).trans HK.out.1, (hd2.cell (p := ⟨w.heap.size + 1, 0, none⟩) (by show w.heap.size + 1 < _; omega)).trans HK.out.2.1⟩ (fun hHeld => ?_)
            clear hK K hHeld
            refine wpAnyH_done (by kernel_rfl) ?_ _
            go_wp2_with fail
            go_meet
            case rel => exact ⟨b1, b2, rfl, rfl, l1, l2, hbb, rd1.only od2 hbb, rd2, hd2⟩
        · go_simp
          obtain ⟨c3, ec3⟩ : ∃ X, X = c2.alloc (.cells (wcells zeros) 56) := ⟨_, rfl⟩
          obtain ⟨b2, hb2⟩ : ∃ b, b = c2.heap.size := ⟨_, rfl⟩
          obtain ⟨r2, st2, zz2⟩ := row_alloc ec3
          rw [HZ.out] at ec3
          rw [← ec3, ← hb2]
          rw [← hb2] at r2
          have hc3 := hc2.trans (st2.mono hc2.size)
          have l2 : W0.heap.size ≤ b2 := by rw [hb2]; exact hc2.size
          have hbb : b1 ≠ b2 := by have := r1.lt; omega
          have r1 := r1.below st2
          refine hK.out _ _ ⟨(hc3.cell (p := ⟨w.heap.size, 0, none⟩) (by show w.heap.size < _; omega)).trans HK.out.1, (hc3.cell (p := ⟨w.heap.size + 1, 0, none⟩) (by show w.heap.size + 1 < _; omega)).trans HK.out.2.1⟩ (fun hHeld => ?_)
          clear hK K hHeld ec3 hb2
          refine wpAnyH_ready (rs := [3]) (by kernel_rfl) (by simp) ?_
          refine AllReadyH.cons rfl (fun K hK => ?_) AllReadyH.nil
          · go_simp
            ((with_reducible refine (bitmap_any c3 q W (HQ.out.below hc3)).mono ?_))
            rintro e c4 ⟨rfl, st3⟩
            have hc4 := hc3.trans (st3.mono hc3.size)
            have r1 := r1.below st3
            have r2 := r2.below st3
            go_simp
            refine hK.out _ _ ⟨(hc4.cell (p := ⟨w.heap.size, 0, none⟩) (by show w.heap.size < _; omega)).trans HK.out.1, (hc4.cell (p := ⟨w.heap.size + 1, 0, none⟩) (by show w.heap.size + 1 < _; omega)).trans HK.out.2.1⟩ (fun hHeld => ?_)
            clear hK K hHeld
            refine wpAnyH_ready (rs := [6]) (by kernel_rfl) (by simp) ?_
            refine AllReadyH.cons rfl (fun K hK => ?_) AllReadyH.nil
            refine step_store_words c4 rfl (.tmp 5) (.tmp 9) rfl b1 zeros V (by rfl) (by rfl) r1 wds_zeros.len HWV.out.len ?_
            intro d1 rd1 od1
            have hd1 := hc4.trans (od1.below (B := W0.heap.size) hc4.size (fun j e => by have e : j = b1 := e; omega))
            refine hK.out _ _ ⟨(hd1.cell (p := ⟨w.heap.size, 0, none⟩) (by show w.heap.size < _; omega)).trans HK.out.1, (hd1.cell (p := ⟨w.heap.size + 1, 0, none⟩) (by show w.heap.size + 1 < _; omega)).trans HK.out.2.1⟩ (fun hHeld => ?_)
            clear hK K hHeld
            refine wpAnyH_ready (rs := [7]) (by kernel_rfl) (by simp) ?_
            refine AllReadyH.cons rfl (fun K hK => ?_) AllReadyH.nil
            refine step_store_words d1 rfl (.tmp 6) (.tmp 11) rfl b2 zeros W (by rfl) (by rfl) (r2.only od1 (fun e => hbb e.symm)) wds_zeros.len HWW.out.len ?_
            intro d2 rd2 od2
            have hd2 := hd1.trans (od2.below (B := W0.heap.size) hd1.size (fun j e => by have e : j = b2 := e; omega))
            refine hK.out _ _ ⟨(hd2.cell (p := ⟨w.heap.size, 0, none⟩) (by show w.heap.size < _; omega)).trans HK.out.1, (hd2.cell (p := ⟨w.heap.size + 1, 0, none⟩) (by show w.heap.size + 1 < _; omega)).trans HK.out.2.1⟩ (fun hHeld => ?_)
            clear hK K hHeld
            refine wpAnyH_done (by kernel_rfl) ?_ _
            go_wp2_with fail
            go_meet
            case rel => exact ⟨b1, b2, rfl, rfl, l1, l2, hbb, rd1.only od2 hbb, rd2, hd2⟩
      · go_simp
        obtain ⟨c2, ec2⟩ : ∃ X, X = c1.alloc (.cells (wcells zeros) 56) := ⟨_, rfl⟩
        obtain ⟨b2, hb2⟩ : ∃ b, b = c1.heap.size := ⟨_, rfl⟩
        obtain ⟨r2, st1, zz1⟩ := row_alloc ec2
        rw [HZ.out] at ec2
        rw [← ec2, ← hb2]
        rw [← hb2] at r2
        have hc2 := hc1.trans (st1.mono hc1.size)
        have l2 : W0.heap.size ≤ b2 := by rw [hb2]; exact hc1.size
        refine hK.out _ _ ⟨(hc2.cell (p := ⟨w.heap.size, 0, none⟩) (by show w.heap.size < _; omega)).trans HK.out.1, (hc2.cell (p := ⟨w.heap.size + 1, 0, none⟩) (by show w.heap.size + 1 < _; omega)).trans HK.out.2.1⟩ (fun hHeld => ?_)
        clear hK K hHeld ec2 hb2
        refine wpAnyH_ready (rs := [3, 4]) (by kernel_rfl) (by simp) ?_
        refine AllReadyH.cons rfl (fun K hK => ?_) (AllReadyH.cons rfl (fun K hK => ?_) AllReadyH.nil)
        · go_simp
          ((with_reducible refine (bitmap_any c2 q W (HQ.out.below hc2)).mono ?_))
          rintro e c3 ⟨rfl, st2⟩
          have hc3 := hc2.trans (st2.mono hc2.size)
          have r2 := r2.below st2
          go_simp
          refine hK.out _ _ ⟨(hc3.cell (p := ⟨w.heap.size, 0, none⟩) (by show w.heap.size < _; omega)).trans HK.out.1, (hc3.cell (p := ⟨w.heap.size + 1, 0, none⟩) (by show w.heap.size + 1 < _; omega)).trans HK.out.2.1⟩ (fun hHeld => ?_)
          clear hK K hHeld
          refine wpAnyH_ready (rs := [4]) (by kernel_rfl) (by simp) ?_
          refine AllReadyH.cons rfl (fun K hK => ?_) AllReadyH.nil
          · go_simp
            obtain ⟨c4, ec4⟩ : ∃ X, X = c3.alloc (.cells (wcells zeros) 56) := ⟨_, rfl⟩
            obtain ⟨b1, hb1⟩ : ∃ b, b = c3.heap.size := ⟨_, rfl⟩
            obtain ⟨r1, st3, zz3⟩ := row_alloc ec4
            rw [HZ.out] at ec4
            rw [← ec4, ← hb1]
            rw [← hb1] at r1
            have hc4 := hc3.trans (st3.mono hc3.size)
            have l1 : W0.heap.size ≤ b1 := by rw [hb1]; exact hc3.size
            have hbb : b1 ≠ b2 := by have := r2.lt; omega
            have r2 := r2.below st3
            refine hK.out _ _ ⟨(hc4.cell (p := ⟨w.heap.size, 0, none⟩) (by show w.heap.size < _; omega)).trans HK.out.1, (hc4.cell (p := ⟨w.heap.size + 1, 0, none⟩) (by show w.heap.size + 1 < _; omega)).trans HK.out.2.1⟩ (fun hHeld => ?_)
            clear hK K hHeld ec4 hb1
            refine wpAnyH_ready (rs := [6]) (by kernel_rfl) (by simp) ?_
            refine AllReadyH.cons rfl (fun K hK => ?_) AllReadyH.nil
            refine step_store_words c4 rfl (.tmp 5) (.tmp 9) rfl b1 zeros V (by rfl) (by rfl) r1 wds_zeros.len HWV.out.len ?_
            intro d1 rd1 od1
            have hd1 := hc4.trans (od1.below (B := W0.heap.size) hc4.size (fun j e => by have e : j = b1 := e; omega))
            refine hK.out _ _ ⟨(hd1.cell (p := ⟨w.heap.size, 0, none⟩) (by show w.heap.size < _; omega)).trans HK.out.1, (hd1.cell (p := ⟨w.heap.size + 1, 0, none⟩) (by show w.heap.size + 1 < _; omega)).trans HK.out.2.1⟩ (fun hHeld => ?_)
            clear hK K hHeld
            refine wpAnyH_ready (rs := [7]) (by kernel_rfl) (by simp) ?_
            refine AllReadyH.cons rfl (fun K hK => ?_) AllReadyH.nil
            refine step_store_words d1 rfl (.tmp 6) (.tmp 11) rfl b2 zeros W (by rfl) (by rfl) (r2.only od1 (fun e => hbb e.symm)) wds_zeros.len HWW.out.len ?_
            intro d2 rd2 od2
            have hd2 := hd1.trans (od2.below (B := W0.heap.size) hd1.size (fun j e => by have e : j = b2 := e; omega))
            refine hK.out _ _ ⟨(hd2.cell (p := ⟨w.heap.size, 0, none⟩) (by show w.heap.size < _; omega)).trans HK.out.1, (hd2.cell (p := ⟨w.heap.size + 1, 0, none⟩) (by show w.heap.size + 1 < _; omega)).trans HK.out.2.1⟩ (fun hHeld => ?_)
            clear hK K hHeld
            refine wpAnyH_done (by kernel_rfl) ?_ _
            go_wp2_with fail
            go_meet
            case rel => exact ⟨b1, b2, rfl, rfl, l1, l2, hbb, rd1.only od2 hbb, rd2, hd2⟩
        · go_simp
          obtain ⟨c3, ec3⟩ : ∃ X, X = c2.alloc (.cells (wcells zeros) 56) := ⟨_, rfl⟩
          obtain ⟨b1, hb1⟩ : ∃ b, b = c2.heap.size := ⟨_, rfl⟩
          obtain ⟨r1, st2, zz2⟩ := row_alloc ec3
          rw [HZ.out] at ec3
          rw [← ec3, ← hb1]
          rw [← hb1] at r1
          have hc3 := hc2.trans (st2.mono hc2.size)
          have l1 : W0.heap.size ≤ b1 := by rw [hb1]; exact hc2.size
          have hbb : b1 ≠ b2 := by have := r2.lt; omega
          have r2 := r2.below st2
          refine hK.out _ _ ⟨(hc3.cell (p := ⟨w.heap.size, 0, none⟩) (by show w.heap.size < _; omega)).trans HK.out.1, (hc3.cell (p := ⟨w.heap.size + 1, 0, none⟩) (by show w.heap.size + 1 < _; omega)).trans HK.out.2.1⟩ (fun hHeld => ?_)
          clear hK K hHeld ec3 hb1
          refine wpAnyH_ready (rs := [3]) (by kernel_rfl) (by simp) ?_
          refine AllReadyH.cons rfl (fun K hK => ?_) AllReadyH.nil
          · go_simp
            ((with_reducible refine (bitmap_any c3 q W (HQ.out.below hc3)).mono ?_))
            rintro e c4 ⟨rfl, st3⟩
            have hc4 := hc3.trans (st3.mono hc3.size)
            have r1 := r1.below st3
            have r2 := r2.below st3
            go_simp
            refine hK.out _ _ ⟨(hc4.cell (p := ⟨w.heap.size, 0, none⟩) (by show w.heap.size < _; omega)).trans HK.out.1, (hc4.cell (p := ⟨w.heap.size + 1, 0, none⟩) (by show w.heap.size + 1 < _; omega)).trans HK.out.2.1⟩ (fun hHeld => ?_)
            clear hK K hHeld
            refine wpAnyH_ready (rs := [6]) (by kernel_rfl) (by simp) ?_
            refine AllReadyH.cons rfl (fun K hK => ?_) AllReadyH.nil
            refine step_store_words c4 rfl (.tmp 5) (.tmp 9) rfl b1 zeros V (by rfl) (by rfl) r1 wds_zeros.len HWV.out.len ?_
            intro d1 rd1 od1
            have hd1 := hc4.trans (od1.below (B := W0.heap.size) hc4.size (fun j e => by have e : j = b1 := e; omega))
            refine hK.out _ _ ⟨(hd1.cell (p := ⟨w.heap.size, 0, none⟩) (by show w.heap.size < _; omega)).trans HK.out.1, (hd1.cell (p := ⟨w.heap.size + 1, 0, none⟩) (by show w.heap.size + 1 < _; omega)).trans HK.out.2.1⟩ (fun hHeld => ?_)
            clear hK K hHeld
            refine wpAnyH_ready (rs := [7]) (by kernel_rfl) (by simp) ?_
            refine AllReadyH.cons rfl (fun K hK => ?_) AllReadyH.nil
            refine step_store_words d1 rfl (.tmp 6) (.tmp 11) rfl b2 zeros W (by rfl) (by rfl) (r2.only od1 (fun e => hbb e.symm)) wds_zeros.len HWW.out.len ?_
            intro d2 rd2 od2
            have hd2 := hd1.trans (od2.below (B := W0.heap.size) hd1.size (fun j e => by have e : j = b2 := e; omega))
            refine hK.out _ _ ⟨(hd2.cell (p := ⟨w.heap.size, 0, none⟩) (by show w.heap.size < _; omega)).trans HK.out.1, (hd2.cell (p := ⟨w.heap.size + 1, 0, none⟩) (by show w.heap.size + 1 < _; omega)).trans HK.out.2.1⟩ (fun hHeld => ?_)
            clear hK K hHeld
            refine wpAnyH_done (by kernel_rfl) ?_ _
            go_wp2_with fail
            go_meet
            case rel => exact ⟨b1, b2, rfl, rfl, l1, l2, hbb, rd1.only od2 hbb, rd2, hd2⟩
    · go_simp
      obtain ⟨c1, ec1⟩ : ∃ X, X = c0.alloc (.cells (wcells zeros) 56) := ⟨_, rfl⟩
      obtain ⟨b1, hb1⟩ : ∃ b, b = c0.heap.size := ⟨_, rfl⟩
      obtain ⟨r1, st0, zz0⟩ := row_alloc ec1
      rw [HZ.out] at ec1
      rw [← ec1, ← hb1]
      rw [← hb1] at r1
      have hc1 := hc0.trans (st0.mono hc0.size)
      have l1 : W0.heap.size ≤ b1 := by rw [hb1]; exact hc0.size
      refine hK.out _ _ ⟨(hc1.cell (p := ⟨w.heap.size, 0, none⟩) (by show w.heap.size < _; omega)).trans HK.out.1, (hc1.cell (p := ⟨w.heap.size + 1, 0, none⟩) (by show w.heap.size + 1 < _; omega)).trans HK.out.2.1⟩ (fun hHeld => ?_)
      clear hK K hHeld ec1 hb1
      refine wpAnyH_ready (rs := [1, 5]) (by kernel_rfl) (by simp) ?_
      refine AllReadyH.cons rfl (fun K hK => ?_) (AllReadyH.cons rfl (fun K hK => ?_) AllReadyH.nil)
      · go_simp
        ((with_reducible refine (bitmap_any c1 p V (HP.out.below hc1)).mono ?_))
        rintro e c2 ⟨rfl, st1⟩
        have hc2 := hc1.trans (st1.mono hc1.size)
        have r1 := r1.below st1
        go_simp
        refine hK.out _ _ ⟨(hc2.cell (p := ⟨w.heap.size, 0, none⟩) (by show w.heap.size < _; omega)).trans HK.out.1, (hc2.cell (p := ⟨w.heap.size + 1, 0, none⟩) (by show w.heap.size + 1 < _; omega)).trans HK.out.2.1⟩ (fun hHeld => ?_)
        clear hK K hHeld
        refine wpAnyH_ready (rs := [3, 5]) (by kernel_rfl) (by simp) ?_
        refine AllReadyH.cons rfl (fun K hK => ?_) (AllReadyH.cons rfl (fun K hK => ?_) AllReadyH.nil)
        · go_simp
          ((with_reducible refine (bitmap_any c2 q W (HQ.out.below hc2)).mono ?_))
          rintro e c3 ⟨rfl, st2⟩
          have hc3 := hc2.trans (st2.mono hc2.size)
          have r1 := r1.below st2
          go_simp
          refine hK.out _ _ ⟨(hc3.cell (p := ⟨w.heap.size, 0, none⟩) (by show w.heap.size < _; omega)).trans HK.out.1, (hc3.cell (p := ⟨w.heap.size + 1, 0, none⟩) (by show w.heap.size + 1 < _; omega)).trans HK.out.2.1⟩ (fun hHeld => ?_)
          clear hK K hHeld
          refine wpAnyH_ready (rs := [5]) (by kernel_rfl) (by simp) ?_
          refine AllReadyH.cons rfl (fun K hK => ?_) AllReadyH.nil
          · go_simp
            obtain ⟨c4, ec4⟩ : ∃ X, X = c3.alloc (.cells (wcells zeros) 56) := ⟨_, rfl⟩
            obtain ⟨b2, hb2⟩ : ∃ b, b = c3.heap.size := ⟨_, rfl⟩
            obtain ⟨r2, st3, zz3⟩ := row_alloc ec4
            rw [HZ.out] at ec4
            rw [← ec4, ← hb2]
            rw [← hb2] at r2
            have hc4 := hc3.trans (st3.mono hc3.size)
            have l2 : W0.heap.size ≤ b2 := by rw [hb2]; exact hc3.size
            have hbb : b1 ≠ b2 := by have := r1.lt; omega
            have r1 := r1.below st3
            refine hK.out _ _ ⟨(hc4.cell (p := ⟨w.heap.size, 0, none⟩) (by show w.heap.size < _; omega)).trans HK.out.1, (hc4.cell (p := ⟨w.heap.size + 1, 0, none⟩) (by show w.heap.size + 1 < _; omega)).trans HK.out.2.1⟩ (fun hHeld => ?_)
            clear hK K hHeld ec4 hb2
            refine wpAnyH_ready (rs := [6]) (by kernel_rfl) (by simp) ?_
            refine AllReadyH.cons rfl (fun K hK => ?_) AllReadyH.nil
            refine step_store_words c4 rfl (.tmp 5) (.tmp 9) rfl b1 zeros V (by rfl) (by rfl) r1 wds_zeros.len HWV.out.len ?_
            intro d1 rd1 od1
            have hd1 := hc4.trans (od1.below (B := W0.heap.size) hc4.size (fun j e => by have e : j = b1 := e; omega))
            refine hK.out _ _ ⟨(hd1.cell (p := ⟨w.heap.size, 0, none⟩) (by show w.heap.size < _; omega)).trans HK.out.1, (hd1.cell (p := ⟨w.heap.size + 1, 0, none⟩) (by show w.heap.size + 1 < _; omega)).trans HK.out.2.1⟩ (fun hHeld => ?_)
            clear hK K hHeld
            refine wpAnyH_ready (rs := [7]) (by kernel_rfl) (by simp) ?_
            refine AllReadyH.cons rfl (fun K hK => ?_) AllReadyH.nil
            refine step_store_words d1 rfl (.tmp 6) (.tmp 11) rfl b2 zeros W (by rfl) (by rfl) (r2.only od1 (fun e => hbb e.symm)) wds_zeros.len HWW.out.len ?_
            intro d2 rd2 od2
            have hd2 := hd1.trans (od2.below (B := W0.heap.size) hd1.size (fun j e => by have e : j = b2 := e; omega))
            refine hK.out _ _ ⟨(hd2.cell (p := ⟨w.heap.size, 0, none⟩) (by show w.heap.size < _; omega)).trans HK.out.1, (hd2.cell (p := ⟨w.heap.size + 1, 0, none⟩) (by show w.heap.size + 1 < _; omega)).trans HK.out.2.1⟩ (fun hHeld => ?_)
            clear hK K hHeld
            refine wpAnyH_done (by kernel_rfl) ?_ _
            go_wp2_with fail
            go_meet
            case rel => exact ⟨b1, b2, rfl, rfl, l1, l2, hbb, rd1.only od2 hbb, rd2, hd2⟩
        · go_simp
          obtain ⟨c3, ec3⟩ : ∃ X, X = c2.alloc (.cells (wcells zeros) 56) := ⟨_, rfl⟩
          obtain ⟨b2, hb2⟩ : ∃ b, b = c2.heap.size := ⟨_, rfl⟩
          obtain ⟨r2, st2, zz2⟩ := row_alloc ec3
          rw [HZ.out] at ec3
          rw [← ec3, ← hb2]
          rw [← hb2] at r2
          have hc3 := hc2.trans (st2.mono hc2.size)
          have l2 : W0.heap.size ≤ b2 := by rw [hb2]; exact hc2.size
          have hbb : b1 ≠ b2 := by have := r1.lt; omega
          have r1 := r1.below st2
          refine hK.out _ _ ⟨(hc3.cell (p := ⟨w.heap.size, 0, none⟩) (by show w.heap.size < _; omega)).trans HK.out.1, (hc3.cell (p := ⟨w.heap.size + 1, 0, none⟩) (by show w.heap.size + 1 < _; omega)).trans HK.out.2.1⟩ (fun hHeld => ?_)
          clear hK K hHeld ec3 hb2
          refine wpAnyH_ready (rs := [3]) (by kernel_rfl) (by simp) ?_
          refine AllReadyH.cons rfl (fun K hK => ?_) AllReadyH.nil
          · go_simp
            ((with_reducible refine (bitmap_any c3 q W (HQ.out.below hc3)).mono ?_))
            rintro e c4 ⟨rfl, st3⟩
            have hc4 := hc3.trans (st3.mono hc3.size)
            have r1 := r1.below st3
            have r2 := r2.below st3
            go_simp
            refine hK.out _ _ ⟨(hc4.cell (p := ⟨w.heap.size, 0, none⟩) (by show w.heap.size < _; omega)).trans HK.out.1, (hc4.cell (p := ⟨w.heap.size + 1, 0, none⟩) (by show w.heap.size + 1 < _; omega)).trans HK.out.2.1⟩ (fun hHeld => ?_)
            clear hK K hHeld
            refine wpAnyH_ready (rs := [6]) (by kernel_rfl) (by simp) ?_
            refine AllReadyH.cons rfl (fun K hK => ?_) AllReadyH.nil
            refine step_store_words c4 rfl (.tmp 5) (.tmp 9) rfl b1 zeros V (by rfl) (by rfl) r1 wds_zeros.len HWV.out.len ?_
            intro d1 rd1 od1
            have hd1 := hc4.trans (od1.below (B := W0.heap.size) hc4.size (fun j e => by have e : j = b1 := e; omega))
            refine hK.out _ _ ⟨(hd1.cell (p := ⟨w.heap.size, 0, none⟩) (by show w.heap.size < _; omega)).trans HK.out.1, (hd1.cell (p := ⟨w.heap.size + 1, 0, none⟩) (by show w.heap.size + 1 < _; omega)).trans HK.out.2.1⟩ (fun hHeld => ?_)
            clear hK K hHeld
            refine wpAnyH_ready (rs := [7]) (by kernel_rfl) (by simp) ?_
            refine AllReadyH.cons rfl (fun K hK => ?_) AllReadyH.nil
            refine step_store_words d1 rfl (.tmp 6) (.tmp 11) rfl b2 zeros W (by rfl) (by rfl) (r2.only od1 (fun e => hbb e.symm)) wds_zeros.len HWW.out.len ?_
            intro d2 rd2 od2
            have hd2 := hd1.trans (od2.below (B := W0.heap.size) hd1.size (fun j e => by have e : j = b2 := e; omega))
            refine hK.out _ _ ⟨(hd2.cell (p := ⟨w.heap.size, 0, none⟩) (by show w.heap.size < _; omega)).trans HK.out.1, (hd2.cell (p := ⟨w.heap.size + 1, 0, none⟩) (by show w.heap.size + 1 < _; omega)).trans HK.out.2.1⟩ (fun hHeld => ?_)
            clear hK K hHeld
            refine wpAnyH_done (by kernel_rfl) ?_ _
            go_wp2_with fail
            go_meet
            case rel => exact ⟨b1, b2, rfl, rfl, l1, l2, hbb, rd1.only od2 hbb, rd2, hd2⟩
      · go_simp
        obtain ⟨c2, ec2⟩ : ∃ X, X = c1.alloc (.cells (wcells zeros) 56) := ⟨_, rfl⟩
        obtain ⟨b2, hb2⟩ : ∃ b, b = c1.heap.size := ⟨_, rfl⟩
        obtain ⟨r2, st1, zz1⟩ := row_alloc ec2
        rw [HZ.out] at ec2
        rw [← ec2, ← hb2]
        rw [← hb2] at r2
        have hc2 := hc1.trans (st1.mono hc1.size)
        have l2 : W0.heap.size ≤ b2 := by rw [hb2]; exact hc1.size
        have hbb : b1 ≠ b2 := by have := r1.lt; omega
        have r1 := r1.below st1
        refine hK.out _ _ ⟨(hc2.cell (p := ⟨w.heap.size, 0, none⟩) (by show w.heap.size < _; omega)).trans HK.out.1, (hc2.cell (p := ⟨w.heap.size + 1, 0, none⟩) (by show w.heap.size + 1 < _; omega)).trans HK.out.2.1⟩ (fun hHeld => ?_)
        clear hK K hHeld ec2 hb2
        refine wpAnyH_ready (rs := [1]) (by kernel_rfl) (by simp) ?_
        refine AllReadyH.cons rfl (fun K hK => ?_) AllReadyH.nil
        · go_simp
          ((with_reducible refine (bitmap_any c2 p V (HP.out.below hc2)).mono ?_))
          rintro e c3 ⟨rfl, st2⟩
          have hc3 := hc2.trans (st2.mono hc2.size)
          have r1 := r1.below st2
          have r2 := r2.below st2
          go_simp
          refine hK.out _ _ ⟨(hc3.cell (p := ⟨w.heap.size, 0, none⟩) (by show w.heap.size < _; omega)).trans HK.out.1, (hc3.cell (p := ⟨w.heap.size + 1, 0, none⟩) (by show w.heap.size + 1 < _; omega)).trans HK.out.2.1⟩ (fun hHeld => ?_)
          clear hK K hHeld
          refine wpAnyH_ready (rs := [3]) (by kernel_rfl) (by simp) ?_
          refine AllReadyH.cons rfl (fun K hK => ?_) AllReadyH.nil
          · go_simp
            ((with_reducible refine (bitmap_any c3 q W (HQ.out.below hc3)).mono ?_))
            rintro e c4 ⟨rfl, st3⟩
            have hc4 := hc3.trans (st3.mono hc3.size)
            have r1 := r1.below st3
            have r2 := r2.below st3
            go_simp
            refine hK.out _ _ ⟨(hc4.cell (p := ⟨w.heap.size, 0, none⟩) (by show w.heap.size < _; omega)).trans HK.out.1, (hc4.cell (p := ⟨w.heap.size + 1, 0, none⟩) (by show w.heap.size + 1 < _; omega)).trans HK.out.2.1⟩ (fun hHeld => ?_)
            clear hK K hHeld
            refine wpAnyH_ready (rs := [6]) (by kernel_rfl) (by simp) ?_
            refine AllReadyH.cons rfl (fun K hK => ?_) AllReadyH.nil
            refine step_store_words c4 rfl (.tmp 5) (.tmp 9) rfl b1 zeros V (by rfl) (by rfl) r1 wds_zeros.len HWV.out.len ?_
            intro d1 rd1 od1
            have hd1 := hc4.trans (od1.below (B := W0.heap.size) hc4.size (fun j e => by have e : j = b1 := e; omega))
            refine hK.out _ _ ⟨(hd1.cell (p := ⟨w.heap.size, 0, none⟩) (by show w.heap.size < _; omega)).trans HK.out.1, (hd1.cell (p := ⟨w.heap.size + 1, 0, none⟩) (by show w.heap.size + 1 < _; omega)).trans HK.out.2.1⟩ (fun hHeld => ?_)
            clear hK K hHeld
            refine wpAnyH_ready (rs := [7]) (by kernel_rfl) (by simp) ?_
            refine AllReadyH.cons rfl (fun K hK => ?_) AllReadyH.nil
            refine step_store_words d1 rfl (.tmp 6) (.tmp 11) rfl b2 zeros W (by rfl) (by rfl) (r2.only od1 (fun e => hbb e.symm)) wds_zeros.len HWW.out.len ?_
            intro d2 rd2 od2
            have hd2 := hd1.trans (od2.below (B := W0.heap.size) hd1.size (fun j e => by have e : j = b2 := e; omega))
            refine hK.out _ _ ⟨(hd2.cell (p := ⟨w.heap.size, 0, none⟩) (by show w.heap.size < _; omega)).trans HK.out.1, (hd2.cell (p := ⟨w.heap.size + 1, 0, none⟩) (by show w.heap.size + 1 < _; omega)).trans HK.out.2.1⟩ (fun hHeld => ?_)
            clear hK K hHeld
            refine wpAnyH_done (by kernel_rfl) ?_ _
            go_wp2_with fail
            go_meet
            case rel => exact ⟨b1, b2, rfl, rfl, l1, l2, hbb, rd1.only od2 hbb, rd2, hd2⟩
    · go_simp
      obtain ⟨c1, ec1⟩ : ∃ X, X = c0.alloc (.cells (wcells zeros) 56) := ⟨_, rfl⟩
      obtain ⟨b2, hb2⟩ : ∃ b, b = c0.heap.size := ⟨_, rfl⟩
      obtain ⟨r2, st0, zz0⟩ := row_alloc ec1
      rw [HZ.out] at ec1
      rw [← ec1, ← hb2]
      rw [← hb2] at r2
      have hc1 := hc0.trans (st0.mono hc0.size)
      have l2 : W0.heap.size ≤ b2 := by rw [hb2]; exact hc0.size
      refine hK.out _ _ ⟨(hc1.cell (p := ⟨w.heap.size, 0, none⟩) (by show w.heap.size < _; omega)).trans HK.out.1, (hc1.cell (p := ⟨w.heap.size + 1, 0, none⟩) (by show w.heap.size + 1 < _; omega)).trans HK.out.2.1⟩ (fun hHeld => ?_)
      clear hK K hHeld ec1 hb2
      refine wpAnyH_ready (rs := [1, 4]) (by kernel_rfl) (by simp) ?_
      refine AllReadyH.cons rfl (fun K hK => ?_) (AllReadyH.cons rfl (fun K hK => ?_) AllReadyH.nil)
      · go_simp
        ((with_reducible refine (bitmap_any c1 p V (HP.out.below hc1)).mono ?_))
        rintro e c2 ⟨rfl, st1⟩
        have hc2 := hc1.trans (st1.mono hc1.size)
        have r2 := r2.below st1
        go_simp
        refine hK.out _ _ ⟨(hc2.cell (p := ⟨w.heap.size, 0, none⟩) (by show w.heap.size < _; omega)).trans HK.out.1, (hc2.cell (p := ⟨w.heap.size + 1, 0, none⟩) (by show w.heap.size + 1 < _; omega)).trans HK.out.2.1⟩ (fun hHeld => ?_)
        clear hK K hHeld
        refine wpAnyH_ready (rs := [3, 4]) (by kernel_rfl) (by simp) ?_
        refine AllReadyH.cons rfl (fun K hK => ?_) (AllReadyH.cons rfl (fun K hK => ?_) AllReadyH.nil)
        · go_simp
          ((with_reducible refine (bitmap_any c2 q W (HQ.out.below hc2)).mono ?_))
          rintro e c3 ⟨rfl, st2⟩
          have hc3 := hc2.trans (st2.mono hc2.size)
          have r2 := r2.below st2
          go_simp
          refine hK.out _ _ ⟨(hc3.cell (p := ⟨w.heap.size, 0, none⟩) (by show w.heap.size < _; omega)).trans HK.out.1, (hc3.cell (p := ⟨w.heap.size + 1, 0, none⟩) (by show w.heap.size + 1 < _; omega)).trans HK.out.2.1⟩ (fun hHeld => ?_)
          clear hK K hHeld
          refine wpAnyH_ready (rs := [4]) (by kernel_rfl) (by simp) ?_
          refine AllReadyH.cons rfl (fun K hK => ?_) AllReadyH.nil
          · go_simp
            obtain ⟨c4, ec4⟩ : ∃ X, X = c3.alloc (.cells (wcells zeros) 56) := ⟨_, rfl⟩
            obtain ⟨b1, hb1⟩ : ∃ b, b = c3.heap.size := ⟨_, rfl⟩
            obtain ⟨r1, st3, zz3⟩ := row_alloc ec4
            rw [HZ.out] at ec4
            rw [← ec4, ← hb1]
            rw [← hb1] at r1
            have hc4 := hc3.trans (st3.mono hc3.size)
            have l1 : W0.heap.size ≤ b1 := by rw [hb1]; exact hc3.size
            have hbb : b1 ≠ b2 := by have := r2.lt; omega
            have r2 := r2.below st3
            refine hK.out _ _ ⟨(hc4.cell (p := ⟨w.heap.size, 0, none⟩) (by show w.heap.size < _; omega)).trans HK.out.1, (hc4.cell (p := ⟨w.heap.size + 1, 0, none⟩) (by show w.heap.size + 1 < _; omega)).trans HK.out.2.1⟩ (fun hHeld => ?_)
            clear hK K hHeld ec4 hb1
            refine wpAnyH_ready (rs := [6]) (by kernel_rfl) (by simp) ?_
            refine AllReadyH.cons rfl (fun K hK => ?_) AllReadyH.nil
            refine step_store_words c4 rfl (.tmp 5) (.tmp 9) rfl b1 zeros V (by rfl) (by rfl) r1 wds_zeros.len HWV.out.len ?_
            intro d1 rd1 od1
            have hd1 := hc4.trans (od1.below (B := W0.heap.size) hc4.size (fun j e => by have e : j = b1 := e; omega))
            refine hK.out _ _ ⟨(hd1.cell (p := ⟨w.heap.size, 0, none⟩) (by show w.heap.size < _; omega)).trans HK.out.1, (hd1.cell (p := ⟨w.heap.size + 1, 0, none⟩) (by show w.heap.size + 1 < _; omega)).trans HK.out.2.1⟩ (fun hHeld => ?_)
            clear hK K hHeld
            refine wpAnyH_ready (rs := [7]) (by kernel_rfl) (by simp) ?_
            refine AllReadyH.cons rfl (fun K hK => ?_) AllReadyH.nil
            refine step_store_words d1 rfl (.tmp 6) (.tmp 11) rfl b2 zeros W (by rfl) (by rfl) (r2.only od1 (fun e => hbb e.symm)) wds_zeros.len HWW.out.len ?_
            intro d2 rd2 od2
            have hd2 := hd1.trans (od2.below (B := W0.heap.size) hd1.size (fun j e => by have e : j = b2 := e; omega))
            refine hK.out _ _ ⟨(hd2.cell (p := ⟨w.heap.size, 0, none⟩) (by show w.heap.size < _; omega)).trans HK.out.1, (hd2.cell (p := ⟨w.heap.size + 1, 0, none⟩) (by show w.heap.size + 1 < _; omega)).trans HK.out.2.1⟩ (fun hHeld => ?_)
            clear hK K hHeld
            refine wpAnyH_done (by kernel_rfl) ?_ _
            go_wp2_with fail
            go_meet
            case rel => exact ⟨b1, b2, rfl, rfl, l1, l2, hbb, rd1.only od2 hbb, rd2, hd2⟩
        · go_simp
          obtain ⟨c3, ec3⟩ : ∃ X, X = c2.alloc (.cells (wcells zeros) 56) := ⟨_, rfl⟩
          obtain ⟨b1, hb1⟩ : ∃ b, b = c2.heap.size := ⟨_, rfl⟩
          obtain ⟨r1, st2, zz2⟩ := row_alloc ec3
          rw [HZ.out] at ec3
          rw [← ec3, ← hb1]
          rw [← hb1] at r1
          have hc3 := hc2.trans (st2.mono hc2.size)
          have l1 : W0.heap.size ≤ b1 := by rw [hb1]; exact hc2.size
          have hbb : b1 ≠ b2 := by have := r2.lt; omega
          have r2 := r2.below st2
          refine hK.out _ _ ⟨(hc3.cell (p := ⟨w.heap.size, 0, none⟩) (by show w.heap.size < _; omega)).trans HK.out.1, (hc3.cell (p := ⟨w.heap.size + 1, 0, none⟩) (by show w.heap.size + 1 < _; omega)).trans HK.out.2.1⟩ (fun hHeld => ?_)
          clear hK K hHeld ec3 hb1
          refine wpAnyH_ready (rs := [3]) (by kernel_rfl) (by simp) ?_
          refine AllReadyH.cons rfl (fun K hK => ?_) AllReadyH.nil
          · go_simp
            ((with_reducible refine (bitmap_any c3 q W (HQ.out.below hc3)).mono ?_))
            rintro e c4 ⟨rfl, st3⟩
            have hc4 := hc3.trans (st3.mono hc3.size)
            have r1 := r1.below st3
            have r2 := r2.below st3
            go_simp
            refine hK.out _ _ ⟨(hc4.cell (p := ⟨w.heap.size, 0, none⟩) (by show w.heap.size < _; omega)).trans HK.out.1, (hc4.cell (p := ⟨w.heap.size + 1, 0, none⟩) (by show w.heap.size + 1 < _; omega)).trans HK.out.2.1⟩ (fun hHeld => ?_)
            clear hK K hHeld
            refine wpAnyH_ready (rs := [6]) (by kernel_rfl) (by simp) ?_
            refine AllReadyH.cons rfl (fun K hK => ?_) AllReadyH.nil
            refine step_store_words c4 rfl (.tmp 5) (.tmp 9) rfl b1 zeros V (by rfl) (by rfl) r1 wds_zeros.len HWV.out.len ?_
            intro d1 rd1 od1
            have hd1 := hc4.trans (od1.below (B := W0.heap.size) hc4.size (fun j e => by have e : j = b1 := e; omega))
            refine hK.out _ _ ⟨(hd1.cell (p := ⟨w.heap.size, 0, none⟩) (by show w.heap.size < _; omega)).trans HK.out.1, (hd1.cell (p := ⟨w.heap.size + 1, 0, none⟩) (by show w.heap.size + 1 < _; omega)).trans HK.out.2.1⟩ (fun hHeld => ?_)
            clear hK K hHeld
            refine wpAnyH_ready (rs := [7]) (by kernel_rfl) (by simp) ?_
            refine AllReadyH.cons rfl (fun K hK => ?_) AllReadyH.nil
            refine step_store_words d1 rfl (.tmp 6) (.tmp 11) rfl b2 zeros W (by rfl) (by rfl) (r2.only od1 (fun e => hbb e.symm)) wds_zeros.len HWW.out.len ?_
            intro d2 rd2 od2
            have hd2 := hd1.trans (od2.below (B := W0.heap.size) hd1.size (fun j e => by have e : j = b2 := e; omega))
            refine hK.out _ _ ⟨(hd2.cell (p := ⟨w.heap.size, 0, none⟩) (by show w.heap.size < _; omega)).trans HK.out.1, (hd2.cell (p := ⟨w.heap.size + 1, 0, none⟩) (by show w.heap.size + 1 < _; omega)).trans HK.out.2.1⟩ (fun hHeld => ?_)
            clear hK K hHeld
            refine wpAnyH_done (by kernel_rfl) ?_ _
            go_wp2_with fail
            go_meet
            case rel => exact ⟨b1, b2, rfl, rfl, l1, l2, hbb, rd1.only od2 hbb, rd2, hd2⟩
      · go_simp
        obtain ⟨c2, ec2⟩ : ∃ X, X = c1.alloc (.cells (wcells zeros) 56) := ⟨_, rfl⟩
        obtain ⟨b1, hb1⟩ : ∃ b, b = c1.heap.size := ⟨_, rfl⟩
        obtain ⟨r1, st1, zz1⟩ := row_alloc ec2
        rw [HZ.out] at ec2
        rw [← ec2, ← hb1]
        rw [← hb1] at r1
        have hc2 := hc1.trans (st1.mono hc1.size)
        have l1 : W0.heap.size ≤ b1 := by rw [hb1]; exact hc1.size
        have hbb : b1 ≠ b2 := by have := r2.lt; omega
        have r2 := r2.below st1
        refine hK.out _ _ ⟨(hc2.cell (p := ⟨w.heap.size, 0, none⟩) (by show w.heap.size < _; omega)).trans HK.out.1, (hc2.cell (p := ⟨w.heap.size + 1, 0, none⟩) (by show w.heap.size + 1 < _; omega)).trans HK.out.2.1⟩ (fun hHeld => ?_)
        clear hK K hHeld ec2 hb1
        refine wpAnyH_ready (rs := [1]) (by kernel_rfl) (by simp) ?_
        refine AllReadyH.cons rfl (fun K hK => ?_) AllReadyH.nil
        · go_simp
          ((with_reducible refine (bitmap_any c2 p V (HP.out.below hc2)).mono ?_))
          rintro e c3 ⟨rfl, st2⟩
          have hc3 := hc2.trans (st2.mono hc2.size)
          have r1 := r1.below st2
          have r2 := r2.below st2
          go_simp
          refine hK.out _ _ ⟨(hc3.cell (p := ⟨w.heap.size, 0, none⟩) (by show w.heap.size < _; omega)).trans HK.out.1, (hc3.cell (p := ⟨w.heap.size + 1, 0, none⟩) (by show w.heap.size + 1 < _; omega)).trans HK.out.2.1⟩ (fun hHeld => ?_)
          clear hK K hHeld
          refine wpAnyH_ready (rs := [3]) (by kernel_rfl) (by simp) ?_
          refine AllReadyH.cons rfl (fun K hK => ?_) AllReadyH.nil
          · go_simp
            ((with_reducible refine (bitmap_any c3 q W (HQ.out.below hc3)).mono ?_))
            rintro e c4 ⟨rfl, st3⟩
            have hc4 := hc3.trans (st3.mono hc3.size)
            have r1 := r1.below st3
            have r2 := r2.below st3
            go_simp
            refine hK.out _ _ ⟨(hc4.cell (p := ⟨w.heap.size, 0, none⟩) (by show w.heap.size < _; omega)).trans HK.out.1, (hc4.cell (p := ⟨w.heap.size + 1, 0, none⟩) (by show w.heap.size + 1 < _; omega)).trans HK.out.2.1⟩ (fun hHeld => ?_)
            clear hK K hHeld
            refine wpAnyH_ready (rs := [6]) (by kernel_rfl) (by simp) ?_
            refine AllReadyH.cons rfl (fun K hK => ?_) AllReadyH.nil
            refine step_store_words c4 rfl (.tmp 5) (.tmp 9) rfl b1 zeros V (by rfl) (by rfl) r1 wds_zeros.len HWV.out.len ?_
            intro d1 rd1 od1
            have hd1 := hc4.trans (od1.below (B := W0.heap.size) hc4.size (fun j e => by have e : j = b1 := e; omega))
            refine hK.out _ _ ⟨(hd1.cell (p := ⟨w.heap.size, 0, none⟩) (by show w.heap.size < _; omega)).trans HK.out.1, (hd1.cell (p := ⟨w.heap.size + 1, 0, none⟩) (by show w.heap.size + 1 < _; omega)).trans HK.out.2.1⟩ (fun hHeld => ?_)
            clear hK K hHeld
            refine wpAnyH_ready (rs := [7]) (by kernel_rfl) (by simp) ?_
            refine AllReadyH.cons rfl (fun K hK => ?_) AllReadyH.nil
            refine step_store_words d1 rfl (.tmp 6) (.tmp 11) rfl b2 zeros W (by rfl) (by rfl) (r2.only od1 (fun e => hbb e.symm)) wds_zeros.len HWW.out.len ?_
            intro d2 rd2 od2
            have hd2 := hd1.trans (od2.below (B := W0.heap.size) hd1.size (fun j e => by have e : j = b2 := e; omega))
            refine hK.out _ _ ⟨(hd2.cell (p := ⟨w.heap.size, 0, none⟩) (by show w.heap.size < _; omega)).trans HK.out.1, (hd2.cell (p := ⟨w.heap.size + 1, 0, none⟩) (by show w.heap.size + 1 < _; omega)).trans HK.out.2.1⟩ (fun hHeld => ?_)
            clear hK K hHeld
            refine wpAnyH_done (by kernel_rfl) ?_ _
            go_wp2_with fail
            go_meet
            case rel => exact ⟨b1, b2, rfl, rfl, l1, l2, hbb, rd1.only od2 hbb, rd2, hd2⟩
  case rest =>
    obtain ⟨b1, b2, rfl, rfl, l1, l2, hbb, hr1, hr2, hbc⟩ := hcut
    have HR2 := Lib.hid hr2
    have HBC := Lib.hid hbc
    have HBCW := Lib.hid (HB0.out.trans (hbc.mono (show w.heap.size ≤ W0.heap.size from HB0.out.size)))
    have HRB2 := HRB.out
    have hrb0 : rb < W0.heap.size := by omega
    have HR1 := Lib.hid (show RowAt wc b1 (mixW lessN V W 0) by rw [mix_zero HWV.out.len]; exact hr1)
    have hz1 := hr1.lt
    have hzc := hbc.size
    clear hr1 hr2 hbc HRB2
    go_wp2_with fail
    go_loopw [7, 12] (fun _ iv wr => ∃ k : Nat, k ≤ 64 ∧ iv = .int .i64 k ∧ RowAt wr b1 (mixW lessN V W k) ∧ Only (fun b => b = b1) wc wr) (fun _ i _ => 64 - (intOf i).toNat)
    case atStart =>
      first | exact ⟨0, Nat.zero_le _, rfl, HR1.out, Only.refl⟩ | exact ⟨0, Nat.zero_le _, by go_num, HR1.out, Only.refl⟩
    case round =>
      obtain ⟨k, hk, rfl, hrow, ho⟩ := hrel
      have HROW := Lib.hid hrow
      have HO := Lib.hid ho
      clear hrow ho
      by_cases hlt : k < 64
      · have hx0 := HROW.out.cell (mix_at (f := lessN) (V := V) (W := W) (k := k) hlt)
        rw [if_neg (Nat.lt_irrefl k)] at hx0
        have hy : W[k]? = some (W.getD k 0) := by rw [List.getD_eq_getElem?_getD, List.getElem?_eq_getElem (by rw [HWW.out.len]; exact hlt)]; rfl
        have hy0 := (HR2.out.only HO.out (fun e => hbb e.symm)).cell hy
        have hfz := HROW.out.free k
        have hrun := lessN_run (getD_lt HWV.out k) (getD_lt HWW.out k)
        have HSET := Lib.hid (HROW.out.set k (lessN (V.getD k 0) (W.getD k 0)))
        have HMS := Lib.hid (mix_set (f := lessN) (V := V) (W := W) (k := k))
        obtain ⟨x, hxx⟩ : ∃ x, x = V.getD k 0 := ⟨_, rfl⟩
        obtain ⟨y, hyy⟩ : ∃ y, y = W.getD k 0 := ⟨_, rfl⟩
        rw [← hxx] at hx0 hrun HSET HMS
        rw [← hyy] at hy0 hrun HSET HMS
        have hk64 : (k : Int) < 64 := by omega
        have hnb : ¬ b2 = b1 := fun e => hbb e.symm
        clear hy hxx hyy
        go_wp2_with fail
        refine wp_region_held_drew (S := fun X => X.cell? ⟨b2, k, none⟩ = some (.int .u64 y)) (by kernel_rfl) hy0 (fun hHeld => ?_)
        refine wpAnyH_take (i := 0) (v := .int .i64 k) rfl (by kernel_rfl) (by kernel_rfl) (by kernel_rfl) (fun _ _ _ h => h) (Or.inl ⟨by rfl, ?_⟩) (by assumption) ?_
        · intro w hSw
          go_simp
        show wpAnyH _ _ _ _ _ _ _ (Act.put _ (some 15) _) _
        simp only [Act.put, List.setIfInBounds_toArray, List.set_cons_zero, List.set_cons_succ]
        refine wpAnyH_take (i := 1) (v := .pointer (some ⟨b1, k, none⟩)) rfl (by kernel_rfl) (by kernel_rfl) (by kernel_rfl) (fun _ _ _ h => h) (Or.inl ⟨by rfl, ?_⟩) (by assumption) ?_
        · intro w hSw
          go_simp
        show wpAnyH _ _ _ _ _ _ _ (Act.put _ (some 16) _) _
        simp only [Act.put, List.setIfInBounds_toArray, List.set_cons_zero, List.set_cons_succ]
        refine wpAnyH_take (i := 3) (v := .int .i64 k) rfl (by kernel_rfl) (by kernel_rfl) (by kernel_rfl) (fun _ _ _ h => h) (Or.inl ⟨by rfl, ?_⟩) (by assumption) ?_
        · intro w hSw
          go_simp
        show wpAnyH _ _ _ _ _ _ _ (Act.put _ (some 18) _) _
        simp only [Act.put, List.setIfInBounds_toArray, List.set_cons_zero, List.set_cons_succ]
        refine wpAnyH_take (i := 4) (v := .pointer (some ⟨b2, k, none⟩)) rfl (by kernel_rfl) (by kernel_rfl) (by kernel_rfl) (fun _ _ _ h => h) (Or.inl ⟨by rfl, ?_⟩) (by assumption) ?_
        · intro w hSw
          go_simp
        show wpAnyH _ _ _ _ _ _ _ (Act.put _ (some 19) _) _
        simp only [Act.put, List.setIfInBounds_toArray, List.set_cons_zero, List.set_cons_succ]
        refine wpAnyH_take (i := 5) (v := .int .u64 y) rfl (by kernel_rfl) (by kernel_rfl) (by kernel_rfl) (fun _ _ _ h => h) (Or.inl ⟨by rfl, ?_⟩) (by assumption) ?_
        · intro w hSw
          go_simp
        show wpAnyH _ _ _ _ _ _ _ (Act.put _ (some 20) _) _
        simp only [Act.put, List.setIfInBounds_toArray, List.set_cons_zero, List.set_cons_succ]
        refine wpAnyH_ready (rs := [2]) (by kernel_rfl) (by simp) ?_
        refine AllReadyH.cons rfl (fun K hK => ?_) AllReadyH.nil
        go_simp
        refine hK.out _ _ hHeld (fun _ => ?_)
        clear hK K
        refine wpAnyH_take (i := 6) (v := .int .u64 ((lessN x y : Nat) : Int)) rfl (by kernel_rfl) (by kernel_rfl) (by kernel_rfl) (fun _ _ _ h => h) (Or.inl ⟨by rfl, ?_⟩) (by assumption) ?_
        · intro w hSw
          go_simp
        show wpAnyH _ _ _ _ _ _ _ (Act.put _ (some 21) _) _
        simp only [Act.put, List.setIfInBounds_toArray, List.set_cons_zero, List.set_cons_succ]
        refine wpAnyH_take (i := 7) (v := .pointer (some ⟨b1, k, none⟩)) rfl (by kernel_rfl) (by kernel_rfl) (by kernel_rfl) (fun _ _ _ h => h) (Or.inl ⟨by rfl, ?_⟩) (by assumption) ?_
        · intro w hSw
          go_simp
        show wpAnyH _ _ _ _ _ _ _ (Act.put _ (some 22) _) _
        simp only [Act.put, List.setIfInBounds_toArray, List.set_cons_zero, List.set_cons_succ]
        refine wpAnyH_ready (rs := [8]) (by kernel_rfl) (by simp) ?_
        refine AllReadyH.cons rfl (fun K hK => ?_) AllReadyH.nil
        go_simp
        refine hK.out _ _ ((World.cell?_setCell_other _ _ _ _ (fun e => by injection e with e; exact hbb e)).trans hHeld) (fun _ => ?_)
        clear hK K hHeld
        refine wpAnyH_done (by kernel_rfl) ?_ _
        go_wp2_with fail
        go_roundw
        case rel => exact ⟨k + 1, by omega, by go_num, by rw [← HMS.out]; exact HSET.out, (HO.out.setCell (a := ⟨b1, k, none⟩) (fun _ => rfl) _).drew⟩
        case measure => simp [intOf]; omega
      · have hkk : k = 64 := by omega
        subst hkk
        have HSO := Lib.hid (setOf_any wr b1 _ (wds_mix (f := lessN) (fun a b => lessN_lt a b) HWV.out HWW.out 64) HROW.out)
        go_wp2_with fail
        refine HSO.out.mono ?_
        rintro e w2 ⟨v, rfl, hv, hb2⟩
        have hzr : W0.heap.size ≤ wr.heap.size := Nat.le_trans hzc HO.out.size
        have hnr : ¬ rb = b1 := by omega
        have k2 : w2.cell? ⟨rb, 0, none⟩ = some (.pointer none) := (hb2.cell (p := ⟨rb, 0, none⟩) (by show rb < _; omega)).trans ((HO.out.cell (a := ⟨rb, 0, none⟩) (by show rb < _; omega) hnr).trans ((HBC.out.cell (p := ⟨rb, 0, none⟩) hrb0).trans HK.out.2.2.1))
        have f2 : w2.frozen? ⟨rb, 0, none⟩ = false := (hb2.frozen (p := ⟨rb, 0, none⟩) (by show rb < _; omega)).trans ((HO.out.frozen (a := ⟨rb, 0, none⟩) (by show rb < _; omega) hnr).trans ((HBC.out.frozen (p := ⟨rb, 0, none⟩) hrb0).trans HK.out.2.2.2))
        have HV := Lib.hid hv
        have HB2 := Lib.hid hb2
        have HBW := Lib.hid (HBCW.out.trans (HO.out.below (B := w.heap.size) (by have := HB0.out.size; omega) (fun j e => by have e : j = b1 := e; have := HB0.out.size; omega)))
        clear hv hb2
        go_wp2_with fail
        refine bodyPost_ret (v := .agg #[.pointer v]) (by simp [results, Tryd.results28, go_sem, k2]) rfl ⟨_, rfl, ?_, ?_⟩
        · exact setAt_new (wds_mix (f := lessN) (fun a b => lessN_lt a b) HWV.out HWW.out 64) HROW.out HV.out HB2.out (S := fun j => j = rb) (Only.setCell (S := fun j => j = rb) Only.refl (a := ⟨rb, 0, none⟩) (fun _ => rfl) _) (fun q => hnr q.symm)
        · exact (HBW.out.trans (HB2.out.mono HBW.out.size)).setCell (p := ⟨rb, 0, none⟩) (by show w.heap.size ≤ rb; have := HRB.out; omega) _

end Go.Proofs.YtalfjcamjdmdjaaDoor
