/-
  samaritanlaw35.DispatchcostAssignedUnits returns true for every input, and the arguments read afterwards as before.
  No condition beyond those of the given row.
-/
import Derived.Test.YtpomakmmjbimfaaRows
import Derived.Test.YtpomakmmjbimfaaNetB
import Derived.Test.YtpomakmmjbimfaaMoreU
import Derived.Test.YtpomakmmjbimfaaLift
namespace Go.Proofs.Ytpomakmmjbimfaa.l35AssignedUnits
open Go.ChangeShapes Go.WideShapes Go.ChangeAt Go.RowKit Go.Maps
open Go.ChangeMaps (open_string shut_string)

theorem own : ownKnob Try.prog.godebug = none := by kernel_rfl
theorem laidOut : laidOutB Try.prog = true := by kernel_rfl

set_option maxRecDepth 100000 in
set_option maxHeartbeats 4000000 in
theorem walk (w : World) (A0 : Option Addr) (xs : List IncT) (c0 : Nat) (hi : IncsAt w w.heap.size A0 xs) (hnd : NodesAt w w.heap.size xs) (hwf : ∀ x ∈ xs, IncWf x) (hc0 : xs.length ≤ c0) (hm0 : c0 ≤ 9223372036854775807) (_hn0 : A0 = none → c0 = 0)
    (A1 : Option Addr) (us : List UnitT) (c1 : Nat) (hu : UnitsAt w w.heap.size A1 us) (huw : ∀ u ∈ us, UnitWf u) (hc1 : us.length ≤ c1) (hm1 : c1 ≤ 9223372036854775807) (hn1 : A1 = none → c1 = 0)
    (a b : Int) (ha : 0 ≤ a ∧ a ≤ 255) (hb' : 0 ≤ b ∧ b ≤ 255) :
    Calls Try.prog 7 #[.slice A0 xs.length c0, .slice A1 us.length c1, .agg #[.int .u8 a, .int .u8 b]] w fun e w' => e = .returned (.bool true) ∧ Below w.heap.size w w' := by
  obtain ⟨a0, a1⟩ := ha
  obtain ⟨b0, b1⟩ := hb'
  have HI := Lib.hid hi
  have HND := Lib.hid hnd
  have HWF := Lib.hid hwf
  have HU := Lib.hid hu
  have HUW := Lib.hid huw
  have HN1 := Lib.hid hn1
  have HPN : Hid (∀ (W : World) (B : Nat), Plans W B none []) := Lib.hid (fun W B i p h => by simp at h)
  obtain ⟨W0, hW0⟩ : ∃ W0, W0 = w.alloc (.cells #[.int .u8 a, .int .u8 b] 61) := ⟨_, rfl⟩
  have HARR : Hid (∀ W, Below W0.heap.size W0 W → Below w.heap.size w W ∧ W.cell? ⟨w.heap.size, 0, none⟩ = some (.int .u8 a) ∧ W.cell? ⟨w.heap.size, 1, none⟩ = some (.int .u8 b)) := Lib.hid (fun W hb => by
    have hlt : w.heap.size < W0.heap.size := by rw [hW0]; simp
    have h0 : Below w.heap.size w W0 := by rw [hW0]; exact (Below.refl _ _).alloc (Nat.le_refl _) _
    have hc : ∀ j, W.cell? ⟨w.heap.size, j, none⟩ = W0.cell? ⟨w.heap.size, j, none⟩ := fun j => hb.cell (p := ⟨w.heap.size, j, none⟩) hlt
    refine ⟨h0.trans (hb.mono h0.size), ?_, ?_⟩ <;> rw [hc, hW0, World.cell?_alloc_at (hn := rfl)] <;> rfl)
  clear hi hnd hwf hu huw hn1
  go_enter Try.func7, Try.ntmps7
  go_wp2_with fail
  rw [← hW0]
  clear hW0
  refine (wakes35_any _).mono ?_
  rintro e w1 ⟨rfl, hb⟩
  have HB1 := Lib.hid hb
  have HB := Lib.hid (HARR.out w1 hb).1
  have hsma : Calls Try.prog 19 #[.slice A0 xs.length c0, .slice A1 us.length c1, .slice none 0 0] w1 _ := small35_any A0 A1 none c0 c1 0 xs us [] w1 w.heap.size (HI.out.below HB.out) HWF.out (by omega) (by omega) (HPN.out _ _) (by simp)
  have HSMA := Lib.hid hsma
  clear hb hsma
  obtain ⟨ba, hba⟩ : ∃ ba, ba = w.heap.size := ⟨_, rfl⟩
  rw [← hba] at HARR ⊢
  have HBA := Lib.hid hba
  clear hba
  go_wp2_with fail
  ((with_reducible refine HSMA.out.mono ?_))
  rintro e w' ⟨bb, rfl, hsm, rfl⟩
  have HSM := Lib.hid hsm
  clear hsm HSMA
  cases bb
  · go_wp2_with fail
    go_ret
    exact ⟨rfl, HB.out⟩
  · obtain ⟨s1, s2, _, _, s5⟩ := HSM.out rfl
    have HS5 := Lib.hid s5
    clear s5 HSM
    by_cases h0 : xs.length = 0
    · have d0 : ((xs.length : Int) == 0) = true := beq_iff_eq.2 (by omega)
      have d0' : (xs.length == 0) = true := beq_iff_eq.2 h0
      clear h0
      go_wp2_with fail
      go_ret
      exact ⟨rfl, HB.out⟩
    · have d0 : ((xs.length : Int) == 0) = false := beq_eq_false_iff_ne.2 (by omega)
      have d0' : (xs.length == 0) = false := beq_eq_false_iff_ne.2 h0
      have hpos : 0 < xs.length := by omega
      clear h0
      go_upto_region 6 with (fail)
      clear d0 d0'
      obtain ⟨W3, hW3⟩ : ∃ W3, W3 = ((w1.alloc (.cells #[.int .i64 1, .int .i64 2, .int .i64 1] 3)).alloc (.cells #[.int .i64 3, .int .i64 1] 3)).alloc (.cells #[.string ⟨#[42]⟩, .int .i64 1, .slice (some ⟨w1.heap.size, 0, none⟩) 3 3, .string ⟨#[42]⟩, .int .i64 3, .slice (some ⟨w1.heap.size + 1, 0, none⟩) 2 2] 63) := ⟨_, rfl⟩
      have HP3 : Hid (Plans W3 W3.heap.size (some ⟨w1.heap.size + 1 + 1, 0, none⟩) (exP w1.heap.size)) := Lib.hid (exP_at' hW3)
      have HB3 : Hid (Below w1.heap.size w1 W3) := Lib.hid (by rw [hW3]; exact (((Below.refl _ _).alloc (Nat.le_refl _) _).alloc (by simp) _).alloc (by simp; omega) _)
      rw [← hW3]
      clear hW3
      have HBW3 : Hid (Below w.heap.size w W3) := Lib.hid (HB.out.trans (HB3.out.mono HB.out.size))
      obtain ⟨ka, hka⟩ : ∃ ka, ka = a % 4 := ⟨_, rfl⟩
      have hka0 : 0 ≤ ka := by omega
      have hka1 : ka ≤ 3 := by omega
      obtain ⟨m, hm⟩ : ∃ m : Nat, (m : Int) = b % (xs.length : Int) := ⟨(b % (xs.length : Int)).toNat, by
        have := Int.emod_nonneg b (show (xs.length : Int) ≠ 0 by omega)
        omega⟩
      have hml : m < xs.length := by
        have := Int.emod_lt_of_pos b (show (0 : Int) < (xs.length : Int) by omega)
        omega
      have hmj : (m : Int) < (xs.length : Int) := by omega
      have t1 : a.tmod 4 = ka := by rw [hka]; exact Int.tmod_eq_emod_of_nonneg a0
      have t2 : b.tmod (xs.length : Int) = (m : Int) := by rw [hm]; exact Int.tmod_eq_emod_of_nonneg b0
      have t1' : a % 4 = ka := hka.symm
      have t2' : b % (xs.length : Int) = (m : Int) := hm.symm
      have v1 : IntKind.i64.wrap a = a := IntWalk.i64_in _ (by omega)
      have v2 : IntKind.i64.wrap b = b := IntWalk.i64_in _ (by omega)
      have v3 : IntKind.i64.wrap ka = ka := IntWalk.i64_in _ (by omega)
      have v4 : IntKind.i64.wrap (1 + ka) = 1 + ka := IntWalk.i64_in _ (by omega)
      have v5 : IntKind.i64.wrap (m : Int) = (m : Int) := IntWalk.i64_in _ (by omega)
      have v6 : ((xs.length : Int) == 0) = false := beq_eq_false_iff_ne.2 (by omega)
      have v7 : ¬ ((xs.length : Int) = 0) := by omega
      have v8 : ¬ (xs = []) := fun e => by rw [e] at hpos; simp at hpos
      obtain ⟨x, hx⟩ : ∃ x, xs[m]? = some x := ⟨xs[m], by simp⟩
      obtain ⟨bl, ol, rfl, hbl, c0', _⟩ := inc_at HI.out hx
      have hxw := (HWF.out x (List.mem_of_getElem? hx)).id
      have HLD : Hid (∀ W, Below W3.heap.size W3 W → W.cell? ⟨ba, 0, none⟩ = some (.int .u8 a) ∧ W.cell? ⟨ba, 1, none⟩ = some (.int .u8 b) ∧ W.cell? ⟨bl, ol + m * 10, none⟩ = some (.int .i64 x.id)) := Lib.hid (fun W h => by
        obtain ⟨h1, h2, h3⟩ := HARR.out W (HB1.out.trans ((HB3.out.trans (h.mono HB3.out.size)).mono HB1.out.size))
        exact ⟨h2, h3, (h1.cell (p := ⟨bl, ol + m * 10, none⟩) (by rw [HBA.out]; exact hbl)).trans c0'⟩)
      have HSU : Hid (∀ W, Below W3.heap.size W3 W → UnitsAt W W3.heap.size A1 us) := Lib.hid (fun W h => ((HU.out.below HBW3.out).more HBW3.out.size).below h)
      obtain ⟨wd, hwd⟩ : ∃ wd, wd = W3.drew := ⟨_, rfl⟩
      have HDW : Hid (Below W3.heap.size W3 wd) := Lib.hid (by rw [hwd]; exact (Below.refl _ _).drew)
      have HDZ : Hid (wd.heap.size = W3.heap.size) := Lib.hid (by rw [hwd]; rfl)
      clear hx hka hm c0'
      go_cut [8] (fun v wx => ∃ A c, v = .slice A (us ++ [UnitT.mk 99 (1 + ka) 0 0 0 0 0 x.id 0 0]).length c ∧ UnitsAt wx wx.heap.size A (us ++ [UnitT.mk 99 (1 + ka) 0 0 0 0 0 x.id 0 0]) ∧ Below W3.heap.size W3 wx)
      case first =>
        refine wp_region_held_drew (S := fun W => Below W3.heap.size W3 W) (by kernel_rfl) (by rw [← hwd]; exact HDW.out) (fun hHeld => ?_)
        rw [← hwd]
        clear hwd hHeld
        have hHeld := HDW.out
        refine wpAnyH_take (i := 1) (v := .slice A1 us.length c1) rfl (by kernel_rfl) (by kernel_rfl) (by kernel_rfl) (fun _ _ _ h => h) (Or.inl ⟨by rfl, ?_⟩) (by assumption) ?_
        · intro w hSw
          go_simp
        show wpAnyH _ _ _ _ _ _ _ (Act.put _ (some 31) _) _
        simp only [Act.put, List.setIfInBounds_toArray, List.set_cons_zero, List.set_cons_succ]
        refine wpAnyH_take (i := 3) (v := .pointer (some ⟨ba, 0, none⟩)) rfl (by kernel_rfl) (by kernel_rfl) (by kernel_rfl) (fun _ _ _ h => h) (Or.inl ⟨by rfl, ?_⟩) (by assumption) ?_
        · intro w hSw
          go_simp
        show wpAnyH _ _ _ _ _ _ _ (Act.put _ (some 33) _) _
        simp only [Act.put, List.setIfInBounds_toArray, List.set_cons_zero, List.set_cons_succ]
        refine wpAnyH_take (i := 4) (v := .int .u8 a) rfl (by kernel_rfl) (by kernel_rfl) (by kernel_rfl) (fun _ _ _ h => h) (Or.inl ⟨by rfl, ?_⟩) (by assumption) ?_
        · intro w hSw
          obtain ⟨s1, s2, s3⟩ := HLD.out w hSw
          go_simp
        show wpAnyH _ _ _ _ _ _ _ (Act.put _ (some 34) _) _
        simp only [Act.put, List.setIfInBounds_toArray, List.set_cons_zero, List.set_cons_succ]
        refine wpAnyH_take (i := 5) (v := .int .i64 a) rfl (by kernel_rfl) (by kernel_rfl) (by kernel_rfl) (fun _ _ _ h => h) (Or.inl ⟨by rfl, ?_⟩) (by assumption) ?_
        · intro w hSw
          go_simp
        show wpAnyH _ _ _ _ _ _ _ (Act.put _ (some 35) _) _
        simp only [Act.put, List.setIfInBounds_toArray, List.set_cons_zero, List.set_cons_succ]
        refine wpAnyH_take (i := 6) (v := .int .i64 ka) rfl (by kernel_rfl) (by kernel_rfl) (by kernel_rfl) (fun _ _ _ h => h) (Or.inl ⟨by rfl, ?_⟩) (by assumption) ?_
        · intro w hSw
          go_simp
        show wpAnyH _ _ _ _ _ _ _ (Act.put _ (some 36) _) _
        simp only [Act.put, List.setIfInBounds_toArray, List.set_cons_zero, List.set_cons_succ]
        refine wpAnyH_take (i := 7) (v := .int .i64 (1 + ka)) rfl (by kernel_rfl) (by kernel_rfl) (by kernel_rfl) (fun _ _ _ h => h) (Or.inl ⟨by rfl, ?_⟩) (by assumption) ?_
        · intro w hSw
          go_simp
        show wpAnyH _ _ _ _ _ _ _ (Act.put _ (some 37) _) _
        simp only [Act.put, List.setIfInBounds_toArray, List.set_cons_zero, List.set_cons_succ]
        refine wpAnyH_take (i := 8) (v := .slice (some ⟨bl, ol, none⟩) xs.length c0) rfl (by kernel_rfl) (by kernel_rfl) (by kernel_rfl) (fun _ _ _ h => h) (Or.inl ⟨by rfl, ?_⟩) (by assumption) ?_
        · intro w hSw
          go_simp
        show wpAnyH _ _ _ _ _ _ _ (Act.put _ (some 38) _) _
        simp only [Act.put, List.setIfInBounds_toArray, List.set_cons_zero, List.set_cons_succ]
        refine wpAnyH_take (i := 9) (v := .pointer (some ⟨ba, 1, none⟩)) rfl (by kernel_rfl) (by kernel_rfl) (by kernel_rfl) (fun _ _ _ h => h) (Or.inl ⟨by rfl, ?_⟩) (by assumption) ?_
        · intro w hSw
          go_simp
        show wpAnyH _ _ _ _ _ _ _ (Act.put _ (some 39) _) _
        simp only [Act.put, List.setIfInBounds_toArray, List.set_cons_zero, List.set_cons_succ]
        refine wpAnyH_take (i := 10) (v := .int .u8 b) rfl (by kernel_rfl) (by kernel_rfl) (by kernel_rfl) (fun _ _ _ h => h) (Or.inl ⟨by rfl, ?_⟩) (by assumption) ?_
        · intro w hSw
          obtain ⟨s1, s2, s3⟩ := HLD.out w hSw
          go_simp
        show wpAnyH _ _ _ _ _ _ _ (Act.put _ (some 40) _) _
        simp only [Act.put, List.setIfInBounds_toArray, List.set_cons_zero, List.set_cons_succ]
        refine wpAnyH_take (i := 11) (v := .int .i64 b) rfl (by kernel_rfl) (by kernel_rfl) (by kernel_rfl) (fun _ _ _ h => h) (Or.inl ⟨by rfl, ?_⟩) (by assumption) ?_
        · intro w hSw
          go_simp
        show wpAnyH _ _ _ _ _ _ _ (Act.put _ (some 41) _) _
        simp only [Act.put, List.setIfInBounds_toArray, List.set_cons_zero, List.set_cons_succ]
        refine wpAnyH_take (i := 12) (v := .slice (some ⟨bl, ol, none⟩) xs.length c0) rfl (by kernel_rfl) (by kernel_rfl) (by kernel_rfl) (fun _ _ _ h => h) (Or.inl ⟨by rfl, ?_⟩) (by assumption) ?_
        · intro w hSw
          go_simp
        show wpAnyH _ _ _ _ _ _ _ (Act.put _ (some 42) _) _
        simp only [Act.put, List.setIfInBounds_toArray, List.set_cons_zero, List.set_cons_succ]
        refine wpAnyH_take (i := 13) (v := .int .i64 (xs.length : Int)) rfl (by kernel_rfl) (by kernel_rfl) (by kernel_rfl) (fun _ _ _ h => h) (Or.inl ⟨by rfl, ?_⟩) (by assumption) ?_
        · intro w hSw
          go_simp
        show wpAnyH _ _ _ _ _ _ _ (Act.put _ (some 43) _) _
        simp only [Act.put, List.setIfInBounds_toArray, List.set_cons_zero, List.set_cons_succ]
        refine wpAnyH_take (i := 14) (v := .int .i64 (m : Int)) rfl (by kernel_rfl) (by kernel_rfl) (by kernel_rfl) (fun _ _ _ h => h) (Or.inl ⟨by rfl, ?_⟩) (by assumption) ?_
        · intro w hSw
          go_simp
        show wpAnyH _ _ _ _ _ _ _ (Act.put _ (some 44) _) _
        simp only [Act.put, List.setIfInBounds_toArray, List.set_cons_zero, List.set_cons_succ]
        refine wpAnyH_take (i := 15) (v := .pointer (some ⟨bl, ol + m * 10, none⟩)) rfl (by kernel_rfl) (by kernel_rfl) (by kernel_rfl) (fun _ _ _ h => h) (Or.inl ⟨by rfl, ?_⟩) (by assumption) ?_
        · intro w hSw
          go_simp
        show wpAnyH _ _ _ _ _ _ _ (Act.put _ (some 45) _) _
        simp only [Act.put, List.setIfInBounds_toArray, List.set_cons_zero, List.set_cons_succ]
        refine wpAnyH_take (i := 16) (v := .pointer (some ⟨bl, ol + m * 10, none⟩)) rfl (by kernel_rfl) (by kernel_rfl) (by kernel_rfl) (fun _ _ _ h => h) (Or.inl ⟨by rfl, ?_⟩) (by assumption) ?_
        · intro w hSw
          go_simp
        show wpAnyH _ _ _ _ _ _ _ (Act.put _ (some 46) _) _
        simp only [Act.put, List.setIfInBounds_toArray, List.set_cons_zero, List.set_cons_succ]
        refine wpAnyH_take (i := 17) (v := .int .i64 x.id) rfl (by kernel_rfl) (by kernel_rfl) (by kernel_rfl) (fun _ _ _ h => h) (Or.inl ⟨by rfl, ?_⟩) (by assumption) ?_
        · intro w hSw
          obtain ⟨s1, s2, s3⟩ := HLD.out w hSw
          go_simp
        show wpAnyH _ _ _ _ _ _ _ (Act.put _ (some 47) _) _
        simp only [Act.put, List.setIfInBounds_toArray, List.set_cons_zero, List.set_cons_succ]
        refine wpAnyH_take (i := 18) (v := .agg #[.int .i64 99, .int .i64 (1 + ka), .int .i64 0, .int .i64 0, .int .i64 0, .int .i64 0, .int .i64 0, .int .i64 x.id, .int .i64 0, .int .i64 0]) rfl (by kernel_rfl) (by kernel_rfl) (by kernel_rfl) (fun _ _ _ h => h) (Or.inl ⟨by rfl, ?_⟩) (by assumption) ?_
        · intro w hSw
          go_simp
        show wpAnyH _ _ _ _ _ _ _ (Act.put _ (some 48) _) _
        simp only [Act.put, List.setIfInBounds_toArray, List.set_cons_zero, List.set_cons_succ]
        refine wpAnyH_ready (rs := [0, 19]) (by kernel_rfl) (by simp) ?_
        refine AllReadyH.cons rfl (fun K hK => ?_) (AllReadyH.cons rfl (fun K hK => ?_) AllReadyH.nil)
        · go_simp
          refine hK.out _ _ (hHeld.alloc hHeld.size _) (fun hHa => ?_)
          clear hK K
          have hE0 : OwnU (wd.alloc (.cells #[] 39)) W3.heap.size 39 (.slice (some ⟨wd.heap.size, 0, none⟩) 0 0) [] := OwnR.lit wd cellsU_len W3.heap.size 39 [] rfl hHeld.size (by simp) #[] rfl
          refine wpAnyH_ready (rs := [2, 19]) (by kernel_rfl) (by simp) ?_
          refine AllReadyH.cons rfl (fun K hK => ?_) (AllReadyH.cons rfl (fun K hK => ?_) AllReadyH.nil)
          · refine step_append_recs _ (by rfl) cellsU_len (.tmp 30) (.tmp 31) 36 (by rfl) 39 Try.underlying36 unit_info rfl (by omega) (by omega) W3.heap.size _ [] (by rfl) hE0 W3.heap.size _ _ _ us (by rfl) (by rfl) HN1.out (HSU.out _ hHa) (fun y _ => cellsU_one y) (by simp; omega) hHa.size ?_
            intro v5 w5 hown5 hg5
            rw [List.nil_append] at hown5
            have HB5 := Lib.hid (hHa.grown hg5 hHa.size (fun j hj => OwnR.ge_base hE0 j hj))
            refine hK.out _ _ HB5.out (fun hHeld => ?_)
            clear hK K
            refine wpAnyH_ready (rs := [19]) (by kernel_rfl) (by simp) ?_
            refine AllReadyH.cons rfl (fun K hK => ?_) AllReadyH.nil
            go_simp
            refine hK.out _ _ (HB5.out.alloc HB5.out.size _) (fun hHeld => ?_)
            clear hK K
            have HBM := Lib.hid (HB5.out.alloc HB5.out.size (.cells #[.int .i64 99, .int .i64 (1 + ka), .int .i64 0, .int .i64 0, .int .i64 0, .int .i64 0, .int .i64 0, .int .i64 x.id, .int .i64 0, .int .i64 0] 39))
            have HOM := Lib.hid (OwnR.alloc hown5 (.cells #[.int .i64 99, .int .i64 (1 + ka), .int .i64 0, .int .i64 0, .int .i64 0, .int .i64 0, .int .i64 0, .int .i64 x.id, .int .i64 0, .int .i64 0] 39))
            have hX : UnitsAt (w5.alloc (.cells #[.int .i64 99, .int .i64 (1 + ka), .int .i64 0, .int .i64 0, .int .i64 0, .int .i64 0, .int .i64 0, .int .i64 x.id, .int .i64 0, .int .i64 0] 39)) (w5.alloc (.cells #[.int .i64 99, .int .i64 (1 + ka), .int .i64 0, .int .i64 0, .int .i64 0, .int .i64 0, .int .i64 0, .int .i64 x.id, .int .i64 0, .int .i64 0] 39)).heap.size (some ⟨w5.heap.size, 0, none⟩) [UnitT.mk 99 (1 + ka) 0 0 0 0 0 x.id 0 0] := RecsAt.lit w5 [UnitT.mk 99 (1 + ka) 0 0 0 0 0 x.id 0 0] 39 rfl _ rfl
            refine wpAnyH_ready (rs := [20]) (by kernel_rfl) (by simp) ?_
            refine AllReadyH.cons rfl (fun K hK => ?_) AllReadyH.nil
            refine step_append_recs _ (by rfl) cellsU_len (.tmp 32) (.tmp 49) 36 (by rfl) 39 Try.underlying36 unit_info rfl (by omega) (by omega) W3.heap.size _ us (by rfl) HOM.out _ _ _ _ [UnitT.mk 99 (1 + ka) 0 0 0 0 0 x.id 0 0] (by rfl) (by rfl) (by simp) hX (fun y _ => cellsU_one y) (by simp; omega) HBM.out.size ?_
            intro v6 w6 hown6 hg6
            have HB6 := Lib.hid (HBM.out.grown hg6 HBM.out.size (fun j hj => OwnR.ge_base HOM.out j hj))
            obtain ⟨A6, c6, rfl, hsl6⟩ := OwnR.sl hown6
            refine hK.out _ _ HB6.out (fun hHeld => ?_)
            clear hK K
            refine wpAnyH_take (i := 21) (v := .slice A6 (us ++ [UnitT.mk 99 (1 + ka) 0 0 0 0 0 x.id 0 0]).length c6) rfl (by kernel_rfl) (by kernel_rfl) (by kernel_rfl) (fun _ _ _ h => h) (Or.inl ⟨by rfl, ?_⟩) (by assumption) ?_
            · intro w hSw
              go_simp
            refine wpAnyH_done (by kernel_rfl) ?_ _
            go_wp2_with fail
            go_meet
            case rel => exact ⟨A6, c6, rfl, hsl6, HB6.out⟩
          · go_simp
            refine hK.out _ _ (hHa.alloc hHa.size _) (fun hHb => ?_)
            clear hK K
            have hE1 := OwnR.alloc hE0 (.cells #[.int .i64 99, .int .i64 (1 + ka), .int .i64 0, .int .i64 0, .int .i64 0, .int .i64 0, .int .i64 0, .int .i64 x.id, .int .i64 0, .int .i64 0] 39)
            have hX0 : UnitsAt ((wd.alloc (.cells #[] 39)).alloc (.cells #[.int .i64 99, .int .i64 (1 + ka), .int .i64 0, .int .i64 0, .int .i64 0, .int .i64 0, .int .i64 0, .int .i64 x.id, .int .i64 0, .int .i64 0] 39)) ((wd.alloc (.cells #[] 39)).alloc (.cells #[.int .i64 99, .int .i64 (1 + ka), .int .i64 0, .int .i64 0, .int .i64 0, .int .i64 0, .int .i64 0, .int .i64 x.id, .int .i64 0, .int .i64 0] 39)).heap.size (some ⟨wd.heap.size + 1, 0, none⟩) [UnitT.mk 99 (1 + ka) 0 0 0 0 0 x.id 0 0] := RecsAt.lit (wd.alloc (.cells #[] 39)) [UnitT.mk 99 (1 + ka) 0 0 0 0 0 x.id 0 0] 39 (by simp) _ rfl
            refine wpAnyH_ready (rs := [2]) (by kernel_rfl) (by simp) ?_
            refine AllReadyH.cons rfl (fun K hK => ?_) AllReadyH.nil
            refine step_append_recs _ (by rfl) cellsU_len (.tmp 30) (.tmp 31) 36 (by rfl) 39 Try.underlying36 unit_info rfl (by omega) (by omega) W3.heap.size _ [] (by rfl) hE1 W3.heap.size _ _ _ us (by rfl) (by rfl) HN1.out (HSU.out _ hHb) (fun y _ => cellsU_one y) (by simp; omega) hHb.size ?_
            intro v5 w5 hown5 hg5
            rw [List.nil_append] at hown5
            have HB5 := Lib.hid (hHb.grown hg5 hHb.size (fun j hj => OwnR.ge_base hE1 j hj))
            refine hK.out _ _ HB5.out (fun hHeld => ?_)
            clear hK K
            have hX : UnitsAt w5 w5.heap.size (some ⟨wd.heap.size + 1, 0, none⟩) [UnitT.mk 99 (1 + ka) 0 0 0 0 0 x.id 0 0] := fun j u hj => by
              obtain ⟨b, o, e, hb, hc⟩ := hX0 j u hj
              cases e
              exact ⟨_, _, rfl, Nat.lt_of_lt_of_le hb hg5.size, (hg5.cell_far ⟨_, _, none⟩ hb (by simp [Value.ownBlock])).trans hc⟩
            refine wpAnyH_ready (rs := [20]) (by kernel_rfl) (by simp) ?_
            refine AllReadyH.cons rfl (fun K hK => ?_) AllReadyH.nil
            refine step_append_recs _ (by rfl) cellsU_len (.tmp 32) (.tmp 49) 36 (by rfl) 39 Try.underlying36 unit_info rfl (by omega) (by omega) W3.heap.size _ us (by rfl) hown5 _ _ _ _ [UnitT.mk 99 (1 + ka) 0 0 0 0 0 x.id 0 0] (by rfl) (by rfl) (by simp) hX (fun y _ => cellsU_one y) (by simp; omega) HB5.out.size ?_
            intro v6 w6 hown6 hg6
            have HB6 := Lib.hid (HB5.out.grown hg6 HB5.out.size (fun j hj => OwnR.ge_base hown5 j hj))
            obtain ⟨A6, c6, rfl, hsl6⟩ := OwnR.sl hown6
            refine hK.out _ _ HB6.out (fun hHeld => ?_)
            clear hK K
            refine wpAnyH_take (i := 21) (v := .slice A6 (us ++ [UnitT.mk 99 (1 + ka) 0 0 0 0 0 x.id 0 0]).length c6) rfl (by kernel_rfl) (by kernel_rfl) (by kernel_rfl) (fun _ _ _ h => h) (Or.inl ⟨by rfl, ?_⟩) (by assumption) ?_
            · intro w hSw
              go_simp
            refine wpAnyH_done (by kernel_rfl) ?_ _
            go_wp2_with fail
            go_meet
            case rel => exact ⟨A6, c6, rfl, hsl6, HB6.out⟩
        · go_simp
          refine hK.out _ _ (hHeld.alloc hHeld.size _) (fun hHa => ?_)
          clear hK K
          refine wpAnyH_ready (rs := [0]) (by kernel_rfl) (by simp) ?_
          refine AllReadyH.cons rfl (fun K hK => ?_) AllReadyH.nil
          go_simp
          refine hK.out _ _ (hHa.alloc hHa.size _) (fun hHeld => ?_)
          clear hK K
          have hHb := hHa.alloc hHa.size (.cells #[] 39)
          have hE1 : OwnU ((wd.alloc (.cells #[.int .i64 99, .int .i64 (1 + ka), .int .i64 0, .int .i64 0, .int .i64 0, .int .i64 0, .int .i64 0, .int .i64 x.id, .int .i64 0, .int .i64 0] 39)).alloc (.cells #[] 39)) W3.heap.size 39 (.slice (some ⟨wd.heap.size + 1, 0, none⟩) 0 0) [] := OwnR.lit (wd.alloc (.cells #[.int .i64 99, .int .i64 (1 + ka), .int .i64 0, .int .i64 0, .int .i64 0, .int .i64 0, .int .i64 0, .int .i64 x.id, .int .i64 0, .int .i64 0] 39)) cellsU_len W3.heap.size 39 [] (by simp) (by have := HDZ.out; omega) (by simp) #[] rfl
          have hX0 : UnitsAt ((wd.alloc (.cells #[.int .i64 99, .int .i64 (1 + ka), .int .i64 0, .int .i64 0, .int .i64 0, .int .i64 0, .int .i64 0, .int .i64 x.id, .int .i64 0, .int .i64 0] 39)).alloc (.cells #[] 39)) ((wd.alloc (.cells #[.int .i64 99, .int .i64 (1 + ka), .int .i64 0, .int .i64 0, .int .i64 0, .int .i64 0, .int .i64 0, .int .i64 x.id, .int .i64 0, .int .i64 0] 39)).alloc (.cells #[] 39)).heap.size (some ⟨wd.heap.size, 0, none⟩) [UnitT.mk 99 (1 + ka) 0 0 0 0 0 x.id 0 0] := ((RecsAt.lit (cs := cellsU) wd [UnitT.mk 99 (1 + ka) 0 0 0 0 0 x.id 0 0] 39 rfl #[.int .i64 99, .int .i64 (1 + ka), .int .i64 0, .int .i64 0, .int .i64 0, .int .i64 0, .int .i64 0, .int .i64 x.id, .int .i64 0, .int .i64 0] rfl).alloc (Nat.le_refl _) _).more (by simp)
          refine wpAnyH_ready (rs := [2]) (by kernel_rfl) (by simp) ?_
          refine AllReadyH.cons rfl (fun K hK => ?_) AllReadyH.nil
          refine step_append_recs _ (by rfl) cellsU_len (.tmp 30) (.tmp 31) 36 (by rfl) 39 Try.underlying36 unit_info rfl (by omega) (by omega) W3.heap.size _ [] (by rfl) hE1 W3.heap.size _ _ _ us (by rfl) (by rfl) HN1.out (HSU.out _ hHb) (fun y _ => cellsU_one y) (by simp; omega) hHb.size ?_
          intro v5 w5 hown5 hg5
          rw [List.nil_append] at hown5
          have HB5 := Lib.hid (hHb.grown hg5 hHb.size (fun j hj => OwnR.ge_base hE1 j hj))
          refine hK.out _ _ HB5.out (fun hHeld => ?_)
          clear hK K
          have hX : UnitsAt w5 w5.heap.size (some ⟨wd.heap.size, 0, none⟩) [UnitT.mk 99 (1 + ka) 0 0 0 0 0 x.id 0 0] := fun j u hj => by
            obtain ⟨b, o, e, hb, hc⟩ := hX0 j u hj
            cases e
            exact ⟨_, _, rfl, Nat.lt_of_lt_of_le hb hg5.size, (hg5.cell_far ⟨_, _, none⟩ hb (by simp [Value.ownBlock])).trans hc⟩
          refine wpAnyH_ready (rs := [20]) (by kernel_rfl) (by simp) ?_
          refine AllReadyH.cons rfl (fun K hK => ?_) AllReadyH.nil
          refine step_append_recs _ (by rfl) cellsU_len (.tmp 32) (.tmp 49) 36 (by rfl) 39 Try.underlying36 unit_info rfl (by omega) (by omega) W3.heap.size _ us (by rfl) hown5 _ _ _ _ [UnitT.mk 99 (1 + ka) 0 0 0 0 0 x.id 0 0] (by rfl) (by rfl) (by simp) hX (fun y _ => cellsU_one y) (by simp; omega) HB5.out.size ?_
          intro v6 w6 hown6 hg6
          have HB6 := Lib.hid (HB5.out.grown hg6 HB5.out.size (fun j hj => OwnR.ge_base hown5 j hj))
          obtain ⟨A6, c6, rfl, hsl6⟩ := OwnR.sl hown6
          refine hK.out _ _ HB6.out (fun hHeld => ?_)
          clear hK K
          refine wpAnyH_take (i := 21) (v := .slice A6 (us ++ [UnitT.mk 99 (1 + ka) 0 0 0 0 0 x.id 0 0]).length c6) rfl (by kernel_rfl) (by kernel_rfl) (by kernel_rfl) (fun _ _ _ h => h) (Or.inl ⟨by rfl, ?_⟩) (by assumption) ?_
          · intro w hSw
            go_simp
          refine wpAnyH_done (by kernel_rfl) ?_ _
          go_wp2_with fail
          go_meet
          case rel => exact ⟨A6, c6, rfl, hsl6, HB6.out⟩
      case rest =>
        clear t1 t2 t1' t2' v1 v2 v3 v4 v5 v6 v7 v8 hwd HDW HDZ HLD HSU hmj hml
        obtain ⟨A8, c8, rfl, hsl8, hb8⟩ := hcut
        obtain ⟨us2, hus2⟩ : ∃ us2, us2 = us ++ [UnitT.mk 99 (1 + ka) 0 0 0 0 0 x.id 0 0] := ⟨_, rfl⟩
        have HU2 : Hid (UnitsAt wc wc.heap.size A8 us2) := Lib.hid (by rw [hus2]; exact hsl8)
        have HW2 : Hid (∀ u ∈ us2, UnitWf u) := Lib.hid (by
          intro u hu
          rw [hus2, List.mem_append, List.mem_singleton] at hu
          rcases hu with hu | rfl
          · exact HUW.out u hu
          · exact ⟨WalkArith.wf_i64 (by simp only; omega), rfl, rfl, hxw⟩)
        have HLE : Hid ((slotsL xs us2 (exP w1.heap.size)).length ≤ (slotsL xs us (exP w1.heap.size)).length) := Lib.hid (by
          rw [hus2]
          exact slots_more (exP_kinds _) us _ (by simp only; omega) _)
        have hu2l : us2.length ≤ 13 := by rw [hus2]; simp; omega
        rw [← hus2]
        have HB8 := Lib.hid hb8
        have HBW8 : Hid (Below w.heap.size w wc) := Lib.hid (HBW3.out.trans (hb8.mono HBW3.out.size))
        clear hsl8 hb8 hus2 hxw hka0 hka1
        have c1_ : Calls Try.prog 22 #[.slice (some ⟨bl, ol, none⟩) xs.length c0, .slice A1 us.length c1, .slice (some ⟨w1.heap.size + 1 + 1, 0, none⟩) 2 2] wc _ := slots_any (some ⟨bl, ol, none⟩) A1 (some ⟨w1.heap.size + 1 + 1, 0, none⟩) c0 c1 2 xs us (exP w1.heap.size) wc ((HI.out.below HBW8.out).more HBW8.out.size) ((HND.out.below HBW8.out).more HBW8.out.size) HWF.out (by omega) (fun x hx => by have := HS5.out x hx; omega) ((HU.out.below HBW8.out).more HBW8.out.size) HUW.out (by omega) ((HP3.out.below HB8.out).more HB8.out.size) (by simp [exP]) (exP_small _)
        have HC1 := Lib.hid c1_
        clear c1_
        go_wp2_with fail
        ((with_reducible refine HC1.out.mono ?_))
        rintro e w4 ⟨A9, c9, ss1, rfl, hst1, hb4⟩
        have HL1 : Hid (ss1.length = (slotsL xs us (exP w1.heap.size)).length) := Lib.hid (by rw [← hst1.strip]; simp)
        have hl1 : ss1.length ≤ 400 := by
          rw [HL1.out]
          have h2 := slots_len (exP_small w1.heap.size) us (sortK (xs.filter openI))
          rw [sortK_len] at h2
          have h3 := List.length_filter_le openI xs
          unfold slotsL
          omega
        have HB4 := Lib.hid (HB8.out.trans (hb4.mono HB8.out.size))
        have HBW4 : Hid (Below w.heap.size w w4) := Lib.hid (HBW3.out.trans (HB4.out.mono HBW3.out.size))
        have HU24 := Lib.hid ((HU2.out.below hb4).more hb4.size)
        clear hst1 hb4 HC1
        have c2_ : Calls Try.prog 22 #[.slice (some ⟨bl, ol, none⟩) xs.length c0, .slice A8 us2.length c8, .slice (some ⟨w1.heap.size + 1 + 1, 0, none⟩) 2 2] w4 _ := slots_any (some ⟨bl, ol, none⟩) A8 (some ⟨w1.heap.size + 1 + 1, 0, none⟩) c0 c8 2 xs us2 (exP w1.heap.size) w4 ((HI.out.below HBW4.out).more HBW4.out.size) ((HND.out.below HBW4.out).more HBW4.out.size) HWF.out (by omega) (fun x hx => by have := HS5.out x hx; omega) HU24.out HW2.out (by omega) ((HP3.out.below HB4.out).more HB4.out.size) (by simp [exP]) (exP_small _)
        have HC2 := Lib.hid c2_
        clear c2_
        go_wp2_with fail
        ((with_reducible refine HC2.out.mono ?_))
        rintro e w5 ⟨A10, c10, ss2, rfl, hst2, hb5⟩
        have hl2 : ss2.length ≤ ss1.length := by
          have h1 : ss2.length = (slotsL xs us2 (exP w1.heap.size)).length := by rw [← hst2.strip]; simp
          rw [h1, HL1.out]
          exact HLE.out
        have HB5 := Lib.hid (HB4.out.trans (hb5.mono HB4.out.size))
        have HBW5 : Hid (Below w.heap.size w w5) := Lib.hid (HBW3.out.trans (HB5.out.mono HBW3.out.size))
        clear hst2 hb5 HC2
        go_wp2_with fail
        go_loopw [11, 61] (fun v iv wr => ∃ k : Nat, k ≤ xs.length ∧ iv = .int .i64 k ∧ OwnInc wr w5.heap.size 65 v ((xs.take k).map closeI) ∧ Below w5.heap.size w5 wr) (fun _ i _ => xs.length - (intOf i).toNat)
        case atStart => exact ⟨0, Nat.zero_le _, rfl, OwnR.nil _ _ _, Below.refl _ _⟩
        case round =>
          obtain ⟨k, hk, rfl, hown, hb⟩ := hrel
          have hmb := hb.size
          have HBR := Lib.hid hb
          have HBW : Hid (Below w.heap.size w wr) := Lib.hid (HBW5.out.trans (hb.mono HBW5.out.size))
          have htl : (xs.take k).length ≤ k := List.length_take_le _ _
          by_cases hlt : k < xs.length
          · obtain ⟨y, hy⟩ : ∃ y, xs[k]? = some y := ⟨xs[k], by simp⟩
            obtain ⟨b1', o1, e1, _, y0, y1, y2, y3, y4, y5, y6, y7, y8, y9⟩ := inc_at (HI.out.below HBW.out) hy
            cases e1
            have HT : Hid ((xs.take (k + 1)).map closeI = (xs.take k).map closeI ++ [closeI y]) := Lib.hid (by rw [take_snoc' hy, List.map_append]; rfl)
            have HBA2 := Lib.hid (hb.alloc hmb (objI (closeI y)))
            replace hown := hown.alloc (objI (closeI y))
            have hkj : (k : Int) < (xs.length : Int) := by omega
            clear hy hb
            go_wp2_with (at_builtin; refine wpList_append_rec _ rfl _ _ 54 rfl w5.heap.size 65 Try.underlying54 inc_info rfl (by omega) (by omega) cellsI_len _ _ (wr.alloc (objI (closeI y))) (closeI y) (cellsI_one _) _ rfl rfl rfl hown _ rfl (by simp) (by simp; omega) (by simp; omega) ?_; intro v1 w9 hown1 hg1)
            go_roundw
            case rel =>
              refine ⟨k + 1, by omega, by go_num, ?_, HBA2.out.grown hg1 HBA2.out.size (fun j hj => hown.ge_base _ hj)⟩
              rw [HT.out]
              exact hown1
            case measure => simp [intOf]; omega
          · have hkk : k = xs.length := by omega
            subst hkk
            rw [List.take_length] at hown
            obtain ⟨A11, c11, rfl, hsl11⟩ := hown.sl
            have HO := Lib.hid hsl11
            have hlm : (xs.map closeI).length = xs.length := by simp
            have HB9 := Lib.hid (HB5.out.trans (HBR.out.mono HB5.out.size))
            have c3_ : Calls Try.prog 22 #[.slice A11 (xs.map closeI).length c11, .slice A1 us.length c1, .slice (some ⟨w1.heap.size + 1 + 1, 0, none⟩) 2 2] wr _ := slots_any A11 A1 (some ⟨w1.heap.size + 1 + 1, 0, none⟩) c11 c1 2 (xs.map closeI) us (exP w1.heap.size) wr HO.out (nodes_close ((HND.out.below HBW.out).more HBW.out.size)) (wf_close HWF.out) (by omega) (fun x hx => by
                rw [List.mem_map] at hx
                obtain ⟨z, hz, rfl⟩ := hx
                have := HS5.out z hz
                simp only [closeI]
                omega) ((HU.out.below HBW.out).more HBW.out.size) HUW.out (by omega) ((HP3.out.below HB9.out).more HB9.out.size) (by simp [exP]) (exP_small _)
            rw [hlm] at c3_ ⊢
            have HC3 := Lib.hid c3_
            have dl : decide ((ss2.length : Int) ≤ (ss1.length : Int)) = true := decide_eq_true (by omega)
            have dl' : decide (ss2.length ≤ ss1.length) = true := decide_eq_true (by omega)
            clear c3_ hlm hown hsl11 hb
            go_wp2_with fail
            ((with_reducible refine HC3.out.mono ?_))
            rintro e w10 ⟨A12, c12, ss3, rfl, hst3, hb10⟩
            obtain rfl : ss3 = [] := by
              have h1 := hst3.strip
              rw [slots_closed (xs.map closeI) us _ (fun x hx => by
                rw [List.mem_map] at hx
                obtain ⟨z, _, rfl⟩ := hx
                rfl)] at h1
              simpa using h1
            have HBF := Lib.hid (HBW.out.trans (hb10.mono HBW.out.size))
            clear hst3 hb10 HC3
            go_wp2_with fail
            go_ret
            exact ⟨rfl, HBF.out⟩

set_option maxRecDepth 100000 in
theorem lifted (os : Os) (started : os.Started) (H : Type) (enc : TypeId × Value → H) :
    ReturnsInHanded {} Try.checked os 7 .any (Rows.dispatchcostAssignedUnitsSpec.pre6 enc Try.prog Try.f7 Rows.dispatchcostAssignedUnitsRow.domain false) (Rows.dispatchcostAssignedUnitsSpec.post enc Try.prog Try.f7 false true false false) := by
  refine returnsInHanded_of_change (C := Try.checked) own started (by kernel_rfl) Try.func7
    (ChangeSpec.witness6 (enc := enc) (C := Try.checked) false ⟨#[], #[.slice none 0 0, .slice none 0 0, .agg #[.int .u8 0, .int .u8 0]], []⟩ 8 (by kernel_rfl) (by kernel_rfl) (by kernel_rfl) (by kernel_rfl)) ?_
  intro W base args ds gs before hval0 hW hcnd _
  have hval : ∀ (j : Nat) t v, Try.f7.params[j]? = some t → args[j]? = some v → Value.okWide Try.prog W .any base t v := hval0
  have hW' := hW
  obtain ⟨p, q, hA0, hV, rfl, hfz, hnd⟩ := hW
  have hA : DataW.TrodAll enc Try.prog W 0 (fun _ => true) true Try.f7.params.toList args.toList ds p := hA0
  rw [Try.params7] at hA hval
  obtain ⟨v0, vs0, d0, ds0, p0, q0, hargs, rfl, rfl, h0, r0⟩ := trodAll_cons hA
  obtain ⟨v1, vs1, d1, ds1, p1, q1, rfl, rfl, rfl, h1, r1⟩ := trodAll_cons r0
  obtain ⟨v2, vs2, d2, ds2, p2, q2, rfl, rfl, rfl, h2, r2⟩ := trodAll_cons r1
  obtain ⟨rfl, rfl, rfl⟩ := trodAll_nil r2
  obtain rfl : args = #[v0, v1, v2] := by cases args; simp_all
  obtain ⟨rfl, rfl⟩ := trodVars_none hV
  obtain ⟨A0, x0, c0, rfl, hi0, hnd0, hwf0, hc0, hm0, hn0⟩ := open_incs (hval 0 54 v0 rfl rfl) h0
  obtain ⟨A1, u1, c1, rfl, hs1, hwf1, hc1, hm1, hn1⟩ := open_units (hval 1 36 v1 rfl rfl) h1
  obtain ⟨a2, b2, rfl, ha2, hb2⟩ := open_two (hval 2 61 v2 rfl rfl) h2
  clear hA0 hval0
  refine (walk W A0 x0 c0 hi0 hnd0 hwf0 hc0 hm0 hn0 A1 u1 c1 hs1 hwf1 hc1 hm1 hn1 a2 b2 ha2 hb2).mono fun e W' ⟨he, hb⟩ => ?_
  subst he
  exact ⟨_, rfl, law_post laidOut (by kernel_rfl) rfl Try.underlying4 rfl hW' rfl rfl rfl hb⟩

theorem over : Rows.dispatchcostAssignedUnitsRow.holds Try.pinned (OpenSpec.ofChange Rows.dispatchcostAssignedUnitsSpec) :=
  OpenClaim.holds_of_wide 7 Try.f7 rfl rfl rfl rfl rfl rfl rfl ⟨rfl, rfl, rfl, rfl, rfl⟩ rfl rfl rfl rfl rfl (by kernel_rfl) Try.func7 (by kernel_rfl)
    (of_decide_eq_true (by kernel_rfl)) (by unfold Func.isWrapper; first | (rw [if_pos (by decide +kernel)]; kernel_rfl) | (rw [if_neg (by decide +kernel)]; exact ⟨rfl, rfl⟩))
    (fun os started H enc _ => lifted os started H enc)

theorem proved : Rows.DispatchcostAssignedUnitsSaid := over
#print axioms proved
end Go.Proofs.Ytpomakmmjbimfaa.l35AssignedUnits
