/-
  config.parsePlan at the words of a plan (printed by genppl6.py).
-/
import Derived.Test.YtloacoalmfaceaaGreatDoorPun6
import Derived.Deep.RegionHeld3
namespace Go.Proofs.YtloacoalmfaceaaGreatDoor
open Go.RowKit Go.Maps Go.Shelf

theorem plan_info : (Tryz.prog.info? 43).map (fun i => (i.zero, i.size, i.bytes)) = some (some (.agg #[.string ⟨#[]⟩, .int .i64 0, .slice none 0 0]), 3, 48) := by kernel_rfl
theorem planC_one (p : Plan) : ∀ u ∈ planC p, u.oneCell' = true := by
  intro u hu
  simp only [planC, List.mem_cons, List.mem_nil_iff, or_false] at hu
  rcases hu with rfl | rfl | rfl <;> rfl
set_option maxRecDepth 100000 in
set_option maxHeartbeats 8000000 in
theorem parsePlan_any (cb : Nat) (c : Cfg) (W : World) (h : PAt cb c W) (hr : Rdy W) (code : ByteArray) (urg : Int) (kinds : List Int) (hco : CodeOk code) (hu : Num18 urg) (hk : ∀ k ∈ kinds, KindOk k) (kl : Nat) (hkl : kinds.length = kl) (hk1 : 1 ≤ kl) (hk8 : kl ≤ 1000) (hlen : c.pl.length ≤ 100000000)
    (bk o : Nat) (hs : Sl W W.heap.size (some ⟨bk, o, none⟩) ((code.data.toList :: dec urg :: kinds.map kindName).map strV)) :
    Calls Tryz.prog 73 #[.pointer (some ⟨cb, 0, none⟩), .slice (some ⟨bk, o, none⟩) (kl + 2) (kl + 2)] W (RetBool cb W fun c' => ∃ A cp kA kc, c' = { c with pA := A, pc := cp, pl := c.pl ++ [⟨code, urg, kA, kinds, kc⟩] }) := by
  obtain ⟨b2, o2, e2, hbk, q0⟩ := hs 0 (strV code.data.toList) rfl
  injection e2 with e2
  injection e2 with e2 e3
  subst e2 e3
  obtain ⟨b2, o2, e2, _, q1⟩ := hs 1 (strV (dec urg)) rfl
  injection e2 with e2
  injection e2 with e2 e3
  subst e2 e3
  have q0' : W.cell? ⟨bk, o, none⟩ = some (.string code) := by rw [Nat.add_zero] at q0; rw [q0]; show some (Value.string (bs code.data.toList)) = _; rw [bs_of']
  have HWD : Hid (∀ k z, kinds[k]? = some z → W.cell? ⟨bk, o + 2 + k, none⟩ = some (.string (bs (kindName z)))) := Lib.hid (fun k z hz => by
    obtain ⟨b2, o2, e2, _, q⟩ := hs (k + 2) (strV (kindName z)) (by simp [hz])
    injection e2 with e2
    injection e2 with e2 e3
    subst e2 e3
    rw [show o + 2 + k = o + (k + 2) by omega]
    exact q)
  have HIC := Lib.hid (isCode_any code)
  rw [tb_true hco] at HIC
  obtain ⟨UD, hUD⟩ : ∃ U, U = bs (dec urg) := ⟨_, rfl⟩
  have HNU := Lib.hid (number_any UD urg (by rw [hUD]; exact numb_dec hu.1 hu.2))
  have q1' : W.cell? ⟨bk, o + 1, none⟩ = some (.string UD) := by rw [q1, hUD]
  have HP := Lib.hid h
  have HL := Lib.hid hlen
  have HR := Lib.hid hr
  have HBK := Lib.hid (And.intro hbk (And.intro q0' q1'))
  have HKS := Lib.hid (And.intro hk hkl)
  have d3 : decide (((kl : Int) + 2) < 3) = false := decide_eq_false (by omega)
  have hkl0 : ¬ kl = 0 := by omega
  have hkl2 : (2 : Int) ≤ (kl : Int) + 2 := by omega
  have hkl3 : (0 : Int) < (kl : Int) + 2 := by omega
  have hkl4 : (1 : Int) < (kl : Int) + 2 := by omega
  clear hs h hr hco hu hk hkl hlen q0 q1 hUD hbk
  go_enter Tryz.func73, Tryz.ntmps73
  go_wp2_with fail
  refine (HIC.out W).mono ?_
  rintro e w' ⟨rfl, hw⟩
  rw [hw]
  clear hw w'
  go_wp2_with fail
  refine (HNU.out W).mono ?_
  rintro e W1 ⟨rfl, hb1⟩
  have HP1 := Lib.hid (HP.out.next hb1)
  have HB1 := Lib.hid (hb1.mono (Nat.le_of_lt HP.out.lt))
  have HR1 := Lib.hid (HR.out.below hb1)
  have HWD1 : Hid (∀ k z, kinds[k]? = some z → W1.cell? ⟨bk, o + 2 + k, none⟩ = some (.string (bs (kindName z)))) := Lib.hid (fun k z hz => (hb1.cell (p := ⟨bk, o + 2 + k, none⟩) HBK.out.1).trans (HWD.out k z hz))
  have z0 := (hb1.cell (p := ⟨bk, o, none⟩) HBK.out.1).trans HBK.out.2.1
  have hbl1 : bk < W1.heap.size := Nat.lt_of_lt_of_le HBK.out.1 hb1.size
  have HBL1 := Lib.hid hbl1
  clear hb1 q0' q1' HNU HIC d3
  obtain ⟨X1, hX1⟩ : ∃ Y, Y = W1.alloc (.cells #[.string code, .int .i64 urg, .slice none 0 0] 43) := ⟨_, rfl⟩
  have hx1 : X1.heap[W1.heap.size]? = some (.cells #[.string code, .int .i64 urg, .slice none 0 0] 43 (0, 0)) := by rw [hX1]; exact new_obj W1 _
  have hbx : Below W1.heap.size W1 X1 := by rw [hX1]; exact (Below.refl _ _).alloc (Nat.le_refl _) _
  have HX1 := Lib.hid (And.intro hx1 hbx)
  clear hx1 hbx
  go_wp2_with fail
  rw [← hX1]
  clear hX1 z0 hbl1
  go_loopw [38] (fun i Y => ∃ (k : Nat) (v : Value), k ≤ kl ∧ i = .int .i64 k ∧ Y.heap[W1.heap.size]? = some (.cells #[.string code, .int .i64 urg, v] 43 (0, 0)) ∧ OwnI Y (W1.heap.size + 1) 3 v (kinds.take k) ∧ Below W1.heap.size W1 Y) (fun i _ => kl - (intOf i).toNat)
  case atStart => exact ⟨0, _, Nat.zero_le _, rfl, HX1.out.1, by simpa using OwnV.nil X1 (W1.heap.size + 1) 3, HX1.out.2⟩
  case round =>
    obtain ⟨k, v, hk, rfl, hrow, hown, hb⟩ := hrel
    have HST := Lib.hid (And.intro hrow (And.intro hown hb))
    by_cases hlt : k < kl
    · have hltI : (k : Int) < (kl : Int) := by omega
      obtain ⟨z, hz⟩ : ∃ z, kinds[k]? = some z := ⟨kinds[k]'(by rw [HKS.out.2]; exact hlt), by simp⟩
      have hcw := (hb.cell (p := ⟨bk, o + 2 + k, none⟩) HBL1.out).trans (HWD1.out k z hz)
      obtain ⟨KN, hKN⟩ : ∃ K, K = bs (kindName z) := ⟨_, rfl⟩
      rw [← hKN] at hcw
      have hkz := HKS.out.1 z (List.mem_of_getElem? hz)
      have HKN : Hid (Calls Tryz.prog 89 #[.string KN] wr fun e w' => e = .returned (.int .i64 z) ∧ wr = w') := Lib.hid (by
        have := kindNumber_any KN wr (HR1.out.below hb).n
        rw [hKN, bs_data, num_name hkz] at this
        rw [hKN]
        exact this)
      have ez : (z == 0) = false := by unfold KindOk at hkz; simp; omega
      have c2 : wr.cell? ⟨W1.heap.size, 2, none⟩ = some v := (cell_of_row wr W1.heap.size 2 _ _ _ hrow).trans rfl
      have HZ := Lib.hid hz
      have htk : (kinds.take k).length ≤ 1000 := by simp; omega
      have HLN := Lib.hid (show ((kinds.take k) ++ [z]).length = k + 1 from by simp; have := HKS.out.2; omega)
      have hNs : W1.heap.size + 1 ≤ wr.heap.size := (Array.getElem?_eq_some_iff.1 hrow).1
      clear hz hKN hkz hb hrow
      go_wp2_with fail
      refine HKN.out.mono ?_
      rintro e w' ⟨rfl, hw⟩
      rw [← hw]
      clear hw w' HKN hcw
      go_wp2_with (at_builtin; refine wpList_append_one (f := Value.int .i64) _ rfl _ _ 22 rfl (W1.heap.size + 1) 3 Tryz.underlying22 int_info rfl (by omega) _ _ wr z rfl rfl rfl hown rfl (by omega) hNs ?_; intro v3 w3 hown3 hg; obtain ⟨A3, c3, hv3, _⟩ := OwnV.sl hown3; rw [HLN.out] at hv3; subst hv3; have hon : Only (fun b => v.ownBlock = some b) wr w3 := Only.of_grown hg (fun j e => e); have hr3 := (hon.block W1.heap.size (by omega) (fun e => by have := hown.ge_base _ e; omega)).trans HST.out.1; have k1 : w3.cell? ⟨W1.heap.size, 2, none⟩ = some v := (cell_of_row w3 W1.heap.size 2 _ _ _ hr3).trans rfl; have k2 := frozen_of_row w3 W1.heap.size 2 _ _ hr3; have H3 := Lib.hid (And.intro hown3 (And.intro hg hr3)); clear hown3 hg hr3 hon)
      go_roundw
      case rel =>
        refine ⟨k + 1, .slice A3 (k + 1) c3, by omega, by go_num, ?_, ?_, ?_⟩
        · rw [heap_setCell_same _ W1.heap.size 2 _ _ _ H3.out.2.2]
          rfl
        · rw [take_snoc' HZ.out]
          refine ownsRow_setCell_other H3.out.1 (fun e => ?_) _
          exact Nat.not_succ_le_self _ (World.ownsRow.lt H3.out.1 _ e).1
        · have hbg : Below W1.heap.size wr w3 := (Below.refl _ _).grown H3.out.2.1 (by omega) (fun j e => by have := HST.out.2.1.ge_base _ e; omega)
          exact HST.out.2.2.trans (hbg.setCell (Nat.le_refl _) _)
      case measure => simp [intOf]; omega
    · have hkk : k = kl := by omega
      subst hkk
      have hkinds : kinds.take k = kinds := List.take_of_length_le (by have := HKS.out.2; omega)
      rw [hkinds] at hown
      obtain ⟨kA, kc, hv, _⟩ := OwnV.sl hown
      rw [HKS.out.2] at hv
      subst hv
      have hp2 := HP1.out.next hb
      have HK0 := Lib.hid (OwnV.base_le hown (show cb + 1 ≤ W1.heap.size + 1 from by have := HP1.out.lt; omega))
      have c0 : wr.cell? ⟨W1.heap.size, 0, none⟩ = some (.string code) := (cell_of_row wr W1.heap.size 0 _ _ _ hrow).trans rfl
      have c1 : wr.cell? ⟨W1.heap.size, 1, none⟩ = some (.int .i64 urg) := (cell_of_row wr W1.heap.size 1 _ _ _ hrow).trans rfl
      have c2 : wr.cell? ⟨W1.heap.size, 2, none⟩ = some (.slice kA k kc) := (cell_of_row wr W1.heap.size 2 _ _ _ hrow).trans rfl
      have HPW := Lib.hid (And.intro hp2 (HB1.out.trans (hb.mono (Nat.le_of_lt HP1.out.lt))))
      have HC := Lib.hid (And.intro c0 (And.intro c1 (And.intro c2 (show W1.heap.size < wr.heap.size from (Array.getElem?_eq_some_iff.1 hrow).1))))
      have HOW := Lib.hid (And.intro (show ∀ q, (Value.slice c.pA c.pl.length c.pc).ownBlock = some q → q < W1.heap.size from fun q hq => HP1.out.pl.lt_size q hq) (show cb < W1.heap.size from HP1.out.lt))
      clear hrow hown hb hp2 c0 c1 c2 hkinds
      go_wp2_with fail
      obtain ⟨g0, g1, g2, gl⟩ := HC.out
      refine wp_region_held_drew (S := fun Y => Y.cell? ⟨W1.heap.size, 0, none⟩ = some (.string code) ∧ Y.cell? ⟨W1.heap.size, 1, none⟩ = some (.int .i64 urg) ∧ Y.cell? ⟨W1.heap.size, 2, none⟩ = some (.slice kA k kc)) (by kernel_rfl) ⟨g0, g1, g2⟩ (fun hHeld => ?_)
      have h0 : PAt cb c wr.drew := HPW.out.1.next (Below.refl _ _).drew
      have hB0 : Below cb W wr.drew := HPW.out.2.drew
      have gl0 : W1.heap.size < wr.drew.heap.size := gl
      have hk0 : OwnI wr.drew (cb + 1) 3 (.slice kA k kc) kinds := HK0.out
      obtain ⟨U0, hU0⟩ : ∃ U, U = wr.drew := ⟨_, rfl⟩
      rw [← hU0] at hHeld h0 hB0 gl0 hk0 ⊢
      clear hU0 g0 g1 g2 gl
      refine wpAnyH_take (i := 0) (v := .pointer (some ⟨cb, 0, none⟩)) rfl (by kernel_rfl) (by kernel_rfl) (by kernel_rfl) (fun _ _ _ h => h) (Or.inl ⟨by rfl, ?_⟩) (by assumption) ?_
      · intro w hSw
        go_simp
      show wpAnyH _ _ _ _ _ _ _ (Act.put _ (some 53) _) _
      simp only [Act.put, List.setIfInBounds_toArray, List.set_cons_zero, List.set_cons_succ]
      refine wpAnyH_take (i := 1) (v := .pointer (some ⟨cb, 0, none⟩)) rfl (by kernel_rfl) (by kernel_rfl) (by kernel_rfl) (fun _ _ _ h => h) (Or.inl ⟨by rfl, ?_⟩) (by assumption) ?_
      · intro w hSw
        go_simp
      show wpAnyH _ _ _ _ _ _ _ (Act.put _ (some 54) _) _
      simp only [Act.put, List.setIfInBounds_toArray, List.set_cons_zero, List.set_cons_succ]
      refine wpAnyH_take (i := 2) (v := .pointer (some ⟨cb, 0, none⟩)) rfl (by kernel_rfl) (by kernel_rfl) (by kernel_rfl) (fun _ _ _ h => h) (Or.inl ⟨by rfl, ?_⟩) (by assumption) ?_
      · intro w hSw
        go_simp
      show wpAnyH _ _ _ _ _ _ _ (Act.put _ (some 55) _) _
      simp only [Act.put, List.setIfInBounds_toArray, List.set_cons_zero, List.set_cons_succ]
      refine wpAnyH_take (i := 3) (v := .pointer (some ⟨cb, 4, none⟩)) rfl (by kernel_rfl) (by kernel_rfl) (by kernel_rfl) (fun _ _ _ h => h) (Or.inl ⟨by rfl, ?_⟩) (by assumption) ?_
      · intro w hSw
        go_simp
      show wpAnyH _ _ _ _ _ _ _ (Act.put _ (some 56) _) _
      simp only [Act.put, List.setIfInBounds_toArray, List.set_cons_zero, List.set_cons_succ]
      refine wpAnyH_take (i := 5) (v := .agg #[.string code, .int .i64 urg, .slice kA k kc]) rfl (by kernel_rfl) (by kernel_rfl) (by kernel_rfl) (fun _ _ _ h => h) (Or.inl ⟨by rfl, ?_⟩) (by assumption) ?_
      · intro w hSw
        obtain ⟨s0, s1, s2⟩ := hSw
        go_simp
      show wpAnyH _ _ _ _ _ _ _ (Act.put _ (some 58) _) _
      simp only [Act.put, List.setIfInBounds_toArray, List.set_cons_zero, List.set_cons_succ]
      have HSS := Lib.hid hHeld
      refine wpAnyH_ready (rs := [4, 6]) (by kernel_rfl) (by simp) ?_
      refine AllReadyH.cons rfl (fun K hK => ?_) (AllReadyH.cons rfl (fun K hK => ?_) AllReadyH.nil)
      · have cr := (h0.cell (j := 4) (u := .slice c.pA c.pl.length c.pc) rfl).1
        go_simp
        refine hK.out _ _ hHeld (fun hHeld => ?_)
        clear hK K cr
        refine wpAnyH_ready (rs := [6]) (by kernel_rfl) (by simp) ?_
        refine AllReadyH.cons rfl (fun K hK => ?_) AllReadyH.nil
        have hbz : Below U0.heap.size U0 (U0.alloc (.cells #[.string code, .int .i64 urg, .slice kA k kc] 43)) := (Below.refl _ _).alloc (Nat.le_refl _) _
        go_simp
        refine hK.out _ _ ⟨(hbz.cell (p := ⟨W1.heap.size, 0, none⟩) gl0).trans hHeld.1, (hbz.cell (p := ⟨W1.heap.size, 1, none⟩) gl0).trans hHeld.2.1, (hbz.cell (p := ⟨W1.heap.size, 2, none⟩) gl0).trans hHeld.2.2⟩ (fun hHeld => ?_)
        clear hK K
        refine wpAnyH_ready (rs := [7]) (by kernel_rfl) (by simp) ?_
        refine AllReadyH.cons rfl (fun K hK => ?_) AllReadyH.nil
        refine step_append_keep (cs := planC) (s := 3) _ rfl (.tmp 57) (.tmp 59) 25 (by rfl) (cb + 1) 43 Tryz.underlying25 plan_info rfl (by decide) (by decide) planC_len _ c.pl U0 (⟨code, urg, kA, kinds, kc⟩ : Plan) (planC_one _) _ (by unfold planC; dsimp only; rw [HKS.out.2]) rfl (by rfl) h0.pl U0.heap.size (by rfl) rfl (by have := HL.out; omega) h0.lt ?_
        intro g cap w' hown' hg' _ _
        obtain ⟨k1, k2, r3, r4⟩ := h0.put_pl (by dsimp only; rw [HKS.out.2]; exact hk0) hown' hg'
        have hon : Only (fun b => (Value.slice c.pA c.pl.length c.pc).ownBlock = some b) U0 w' := Only.of_grown hg' (fun j e => e)
        have hnn : ¬ (Value.slice c.pA c.pl.length c.pc).ownBlock = some W1.heap.size := fun e => absurd (HOW.out.1 _ e) (Nat.lt_irrefl _)
        have hS0 := HSS.out
        refine hK.out _ _ ⟨(hon.cell (a := ⟨W1.heap.size, 0, none⟩) gl0 hnn).trans hS0.1, (hon.cell (a := ⟨W1.heap.size, 1, none⟩) gl0 hnn).trans hS0.2.1, (hon.cell (a := ⟨W1.heap.size, 2, none⟩) gl0 hnn).trans hS0.2.2⟩ (fun hHeld => ?_)
        clear hK K hnn hon
        show wpAnyH _ _ _ _ _ _ _ (Act.put _ (some 60) _) _
        simp only [Act.put, List.setIfInBounds_toArray, List.set_cons_zero, List.set_cons_succ]
        refine wpAnyH_take (i := 8) (v := .pointer (some ⟨cb, 0, none⟩)) rfl (by kernel_rfl) (by kernel_rfl) (by kernel_rfl) (fun _ _ _ h => h) (Or.inl ⟨by rfl, ?_⟩) (by assumption) ?_
        · intro w hSw
          go_simp
        show wpAnyH _ _ _ _ _ _ _ (Act.put _ (some 61) _) _
        simp only [Act.put, List.setIfInBounds_toArray, List.set_cons_zero, List.set_cons_succ]
        refine wpAnyH_take (i := 9) (v := .pointer (some ⟨cb, 4, none⟩)) rfl (by kernel_rfl) (by kernel_rfl) (by kernel_rfl) (fun _ _ _ h => h) (Or.inl ⟨by rfl, ?_⟩) (by assumption) ?_
        · intro w hSw
          go_simp
        show wpAnyH _ _ _ _ _ _ _ (Act.put _ (some 62) _) _
        simp only [Act.put, List.setIfInBounds_toArray, List.set_cons_zero, List.set_cons_succ]
        refine wpAnyH_ready (rs := [10]) (by kernel_rfl) (by simp) ?_
        refine AllReadyH.cons rfl (fun K hK => ?_) AllReadyH.nil
        go_simp
        refine hK.out _ _ ⟨(World.cell?_setCell_other _ _ _ _ (by intro e; injection e with e _; have := HOW.out.2; omega)).trans hHeld.1, (World.cell?_setCell_other _ _ _ _ (by intro e; injection e with e _; have := HOW.out.2; omega)).trans hHeld.2.1, (World.cell?_setCell_other _ _ _ _ (by intro e; injection e with e _; have := HOW.out.2; omega)).trans hHeld.2.2⟩ (fun _ => ?_)
        clear hK K
        refine wpAnyH_done (by kernel_rfl) ?_ _
        have HE := Lib.hid (And.intro r3 (hB0.trans r4))
        clear hown' hg' h0 hB0 r3 r4 k1 k2 hk0
        go_wp2_with fail
        go_ret
        exact ⟨rfl, _, ⟨_, _, _, _, rfl⟩, HE.out.1, HE.out.2⟩
      · have hbz : Below U0.heap.size U0 (U0.alloc (.cells #[.string code, .int .i64 urg, .slice kA k kc] 43)) := (Below.refl _ _).alloc (Nat.le_refl _) _
        go_simp
        refine hK.out _ _ ⟨(hbz.cell (p := ⟨W1.heap.size, 0, none⟩) gl0).trans hHeld.1, (hbz.cell (p := ⟨W1.heap.size, 1, none⟩) gl0).trans hHeld.2.1, (hbz.cell (p := ⟨W1.heap.size, 2, none⟩) gl0).trans hHeld.2.2⟩ (fun hHeld => ?_)
        clear hK K
        refine wpAnyH_ready (rs := [4]) (by kernel_rfl) (by simp) ?_
        refine AllReadyH.cons rfl (fun K hK => ?_) AllReadyH.nil
        have h0' := h0.next hbz
        have cr := (h0'.cell (j := 4) (u := .slice c.pA c.pl.length c.pc) rfl).1
        go_simp
        refine hK.out _ _ hHeld (fun hHeld => ?_)
        clear hK K cr
        clear h0'
        refine wpAnyH_ready (rs := [7]) (by kernel_rfl) (by simp) ?_
        refine AllReadyH.cons rfl (fun K hK => ?_) AllReadyH.nil
        refine step_append_keep (cs := planC) (s := 3) _ rfl (.tmp 57) (.tmp 59) 25 (by rfl) (cb + 1) 43 Tryz.underlying25 plan_info rfl (by decide) (by decide) planC_len _ c.pl U0 (⟨code, urg, kA, kinds, kc⟩ : Plan) (planC_one _) _ (by unfold planC; dsimp only; rw [HKS.out.2]) rfl (by rfl) h0.pl U0.heap.size (by rfl) rfl (by have := HL.out; omega) h0.lt ?_
        intro g cap w' hown' hg' _ _
        obtain ⟨k1, k2, r3, r4⟩ := h0.put_pl (by dsimp only; rw [HKS.out.2]; exact hk0) hown' hg'
        have hon : Only (fun b => (Value.slice c.pA c.pl.length c.pc).ownBlock = some b) U0 w' := Only.of_grown hg' (fun j e => e)
        have hnn : ¬ (Value.slice c.pA c.pl.length c.pc).ownBlock = some W1.heap.size := fun e => absurd (HOW.out.1 _ e) (Nat.lt_irrefl _)
        have hS0 := HSS.out
        refine hK.out _ _ ⟨(hon.cell (a := ⟨W1.heap.size, 0, none⟩) gl0 hnn).trans hS0.1, (hon.cell (a := ⟨W1.heap.size, 1, none⟩) gl0 hnn).trans hS0.2.1, (hon.cell (a := ⟨W1.heap.size, 2, none⟩) gl0 hnn).trans hS0.2.2⟩ (fun hHeld => ?_)
        clear hK K hnn hon
        show wpAnyH _ _ _ _ _ _ _ (Act.put _ (some 60) _) _
        simp only [Act.put, List.setIfInBounds_toArray, List.set_cons_zero, List.set_cons_succ]
        refine wpAnyH_take (i := 8) (v := .pointer (some ⟨cb, 0, none⟩)) rfl (by kernel_rfl) (by kernel_rfl) (by kernel_rfl) (fun _ _ _ h => h) (Or.inl ⟨by rfl, ?_⟩) (by assumption) ?_
        · intro w hSw
          go_simp
        show wpAnyH _ _ _ _ _ _ _ (Act.put _ (some 61) _) _
        simp only [Act.put, List.setIfInBounds_toArray, List.set_cons_zero, List.set_cons_succ]
        refine wpAnyH_take (i := 9) (v := .pointer (some ⟨cb, 4, none⟩)) rfl (by kernel_rfl) (by kernel_rfl) (by kernel_rfl) (fun _ _ _ h => h) (Or.inl ⟨by rfl, ?_⟩) (by assumption) ?_
        · intro w hSw
          go_simp
        show wpAnyH _ _ _ _ _ _ _ (Act.put _ (some 62) _) _
        simp only [Act.put, List.setIfInBounds_toArray, List.set_cons_zero, List.set_cons_succ]
        refine wpAnyH_ready (rs := [10]) (by kernel_rfl) (by simp) ?_
        refine AllReadyH.cons rfl (fun K hK => ?_) AllReadyH.nil
        go_simp
        refine hK.out _ _ ⟨(World.cell?_setCell_other _ _ _ _ (by intro e; injection e with e _; have := HOW.out.2; omega)).trans hHeld.1, (World.cell?_setCell_other _ _ _ _ (by intro e; injection e with e _; have := HOW.out.2; omega)).trans hHeld.2.1, (World.cell?_setCell_other _ _ _ _ (by intro e; injection e with e _; have := HOW.out.2; omega)).trans hHeld.2.2⟩ (fun _ => ?_)
        clear hK K
        refine wpAnyH_done (by kernel_rfl) ?_ _
        have HE := Lib.hid (And.intro r3 (hB0.trans r4))
        clear hown' hg' h0 hB0 r3 r4 k1 k2 hk0
        go_wp2_with fail
        go_ret
        exact ⟨rfl, _, ⟨_, _, _, _, rfl⟩, HE.out.1, HE.out.2⟩
end Go.Proofs.YtloacoalmfaceaaGreatDoor
