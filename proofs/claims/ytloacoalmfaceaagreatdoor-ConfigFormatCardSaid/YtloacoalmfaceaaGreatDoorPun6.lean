/-
  config.parseUnit at the words of a unit (printed by genpun6.py).
-/
import Derived.Test.YtloacoalmfaceaaGreatDoorPed6
import Derived.Deep.RegionHeld3
namespace Go.Proofs.YtloacoalmfaceaaGreatDoor
open Go.RowKit Go.Maps Go.Shelf

theorem unit_info : (Tryz.prog.info? 53).map (fun i => (i.zero, i.size, i.bytes)) = some (some (.agg #[.int .i64 0, .int .i64 0, .int .i64 0]), 3, 24) := by kernel_rfl
set_option maxRecDepth 100000 in
set_option maxHeartbeats 8000000 in
theorem parseUnit_any (cb : Nat) (c : Cfg) (W : World) (h : PAt cb c W) (hr : Rdy W) (ta tb' tc : Int) (ha : KindOk ta) (hb : Num18 tb') (hc : Num18 tc) (hlen : c.us.length ≤ 100000000) (bk o : Nat) (hbo : (Value.slice c.uA c.us.length c.uc).ownBlock ≠ some bk) (hcbk : bk ≠ cb) (hs : Sl W W.heap.size (some ⟨bk, o, none⟩) ([kindName ta, dec tb', dec tc].map strV)) :
    Calls Tryz.prog 72 #[.pointer (some ⟨cb, 0, none⟩), .slice (some ⟨bk, o, none⟩) 3 3] W (RetBool cb W fun c' => ∃ A cp, c' = { c with uA := A, uc := cp, us := c.us ++ [⟨ta, tb', tc⟩] }) := by
  have hs2 : Sl W W.heap.size (some ⟨bk, o + 1, none⟩) (([tb', tc].map dec).map strV) := fun j u hj => by
    obtain ⟨b2, o2, e2, hbk, q2⟩ := hs (j + 1) u (by
      match j, hj with
      | 0, hj => exact hj
      | 1, hj => exact hj
      | n + 2, hj => simp at hj)
    injection e2 with e2
    injection e2 with e2 e3
    subst e2 e3
    exact ⟨bk, o + 1, rfl, hbk, by rw [show o + 1 + j = o + (j + 1) by omega]; exact q2⟩
  obtain ⟨b2, o2, e2, hbk, q2⟩ := hs 0 (strV (kindName ta)) rfl
  injection e2 with e2
  injection e2 with e2 e3
  subst e2 e3
  rw [Nat.add_zero] at q2
  have HN := Lib.hid (numbers_any [tb', tc] (by intro z hz; simp only [List.mem_cons, List.mem_nil_iff, or_false] at hz; rcases hz with rfl | rfl; exact hb; exact hc) (by simp) (some ⟨bk, o + 1, none⟩) 2 W W.heap.size hs2 (Nat.le_refl _))
  obtain ⟨KN, hKN⟩ : ∃ K, K = bs (kindName ta) := ⟨_, rfl⟩
  have hkn : kindNum KN.data.toList = ta := by rw [hKN, bs_data]; exact num_name ha
  have q2' : W.cell? ⟨bk, o, none⟩ = some (.string KN) := by rw [q2, hKN]
  have HKN : Hid (∀ Y, Rdy Y → Calls Tryz.prog 89 #[.string KN] Y fun e w' => e = .returned (.int .i64 ta) ∧ Y = w') := Lib.hid (fun Y hY => by
    have := kindNumber_any KN Y hY.n
    rw [hkn] at this
    exact this)
  have ez : (ta == 0) = false := by unfold KindOk at ha; simp; omega
  have HP := Lib.hid h
  have HL := Lib.hid hlen
  have HR := Lib.hid hr
  have HBK := Lib.hid (And.intro hbk q2')
  have HBO := Lib.hid hbo
  have HCB := Lib.hid hcbk
  clear hs hs2 h ha hb hlen hc hr q2 hKN hkn hbk hbo hcbk
  go_enter Tryz.func72, Tryz.ntmps72
  go_wp2_with fail
  refine (HKN.out W HR.out).mono ?_
  rintro e w' ⟨rfl, hw⟩
  rw [← hw]
  clear hw w'
  go_wp2_with fail
  refine HN.out.mono ?_
  rintro e W1 ⟨v, rfl, hown, hb1⟩
  obtain ⟨A, c2, rfl, hsl⟩ := OwnV.sl hown
  obtain ⟨nb, no, hA, hnl, y0⟩ := hsl 0 (.int .i64 tb') rfl
  obtain ⟨nb', no', hA', _, y1⟩ := hsl 1 (.int .i64 tc) rfl
  subst hA
  injection hA' with hA'
  injection hA' with e4 e5
  subst e4 e5
  have hge : W.heap.size ≤ nb := by
    have := hown.ge_base nb (by
      rcases hown.2 with ⟨e1, _⟩ | ⟨g, cap, cur, e1, _⟩
      · cases e1
      · injection e1 with e1 _ _
        injection e1 with e1
        injection e1 with e1 _
        rw [e1]
        cases e1
        rcases hown.2 with ⟨e6, _⟩ | ⟨g6, cap6, cur6, e6, _⟩
        · cases e6
        · rw [e6]
          injection e6 with e7 _ _
          injection e7 with e7
          injection e7 with e7 _
          rw [e7]
          rfl)
    exact this
  have HP1 := Lib.hid (HP.out.next hb1)
  have HB1 := Lib.hid (hb1.mono (Nat.le_of_lt HP.out.lt))
  have HR1 := Lib.hid (HR.out.below hb1)
  have z2 := (hb1.cell (p := ⟨bk, o, none⟩) HBK.out.1).trans HBK.out.2
  have HBK1 := Lib.hid (And.intro z2 (Nat.lt_of_lt_of_le HBK.out.1 hb1.size))
  have HOW := Lib.hid (And.intro (show ∀ k, (Value.slice c.uA c.us.length c.uc).ownBlock = some k → k < W.heap.size from fun k hk => HP.out.us.lt_size k hk) (And.intro hge (And.intro hnl (show cb < W.heap.size from HP.out.lt))))
  rw [Nat.add_zero] at y0
  have HY := Lib.hid (And.intro y0 y1)
  clear hown hsl hb1 hge y0 y1 hnl HN HP q2' z2 ez
  simp only [List.length_cons, List.length_nil]
  go_wp2_with fail
  obtain ⟨g0, g1⟩ := HY.out
  have gl := HOW.out.2.2.1
  obtain ⟨gk, gkl⟩ := HBK1.out
  refine wp_region_held_drew (S := fun Y => Y.cell? ⟨nb, no, none⟩ = some (.int .i64 tb') ∧ Y.cell? ⟨nb, no + 1, none⟩ = some (.int .i64 tc) ∧ Y.cell? ⟨bk, o, none⟩ = some (.string KN)) (by kernel_rfl) ⟨g0, g1, gk⟩ (fun hHeld => ?_)
  have h0 : PAt cb c W1.drew := HP1.out.next (Below.refl _ _).drew
  have hB0 : Below cb W W1.drew := HB1.out.drew
  have gl0 : nb < W1.drew.heap.size := gl
  have gk0 : bk < W1.drew.heap.size := gkl
  have HR2 : Hid (Rdy W1.drew) := Lib.hid (HR1.out.below (Below.refl _ _).drew)
  obtain ⟨U0, hU0⟩ : ∃ U, U = W1.drew := ⟨_, rfl⟩
  rw [← hU0] at hHeld h0 hB0 gl0 gk0 HR2 ⊢
  clear hU0 g0 g1 gl gk gkl
  refine wpAnyH_take (i := 0) (v := .pointer (some ⟨cb, 0, none⟩)) rfl (by kernel_rfl) (by kernel_rfl) (by kernel_rfl) (fun _ _ _ h => h) (Or.inl ⟨by rfl, ?_⟩) (by assumption) ?_
  · intro w hSw
    go_simp
  show wpAnyH _ _ _ _ _ _ _ (Act.put _ (some 25) _) _
  simp only [Act.put, List.setIfInBounds_toArray, List.set_cons_zero, List.set_cons_succ]
  refine wpAnyH_take (i := 1) (v := .pointer (some ⟨cb, 0, none⟩)) rfl (by kernel_rfl) (by kernel_rfl) (by kernel_rfl) (fun _ _ _ h => h) (Or.inl ⟨by rfl, ?_⟩) (by assumption) ?_
  · intro w hSw
    go_simp
  show wpAnyH _ _ _ _ _ _ _ (Act.put _ (some 26) _) _
  simp only [Act.put, List.setIfInBounds_toArray, List.set_cons_zero, List.set_cons_succ]
  refine wpAnyH_take (i := 2) (v := .pointer (some ⟨cb, 0, none⟩)) rfl (by kernel_rfl) (by kernel_rfl) (by kernel_rfl) (fun _ _ _ h => h) (Or.inl ⟨by rfl, ?_⟩) (by assumption) ?_
  · intro w hSw
    go_simp
  show wpAnyH _ _ _ _ _ _ _ (Act.put _ (some 27) _) _
  simp only [Act.put, List.setIfInBounds_toArray, List.set_cons_zero, List.set_cons_succ]
  refine wpAnyH_take (i := 3) (v := .pointer (some ⟨cb, 3, none⟩)) rfl (by kernel_rfl) (by kernel_rfl) (by kernel_rfl) (fun _ _ _ h => h) (Or.inl ⟨by rfl, ?_⟩) (by assumption) ?_
  · intro w hSw
    go_simp
  show wpAnyH _ _ _ _ _ _ _ (Act.put _ (some 28) _) _
  simp only [Act.put, List.setIfInBounds_toArray, List.set_cons_zero, List.set_cons_succ]
  refine wpAnyH_take (i := 5) (v := .slice (some ⟨bk, o, none⟩) 3 3) rfl (by kernel_rfl) (by kernel_rfl) (by kernel_rfl) (fun _ _ _ h => h) (Or.inl ⟨by rfl, ?_⟩) (by assumption) ?_
  · intro w hSw
    go_simp
  show wpAnyH _ _ _ _ _ _ _ (Act.put _ (some 30) _) _
  simp only [Act.put, List.setIfInBounds_toArray, List.set_cons_zero, List.set_cons_succ]
  refine wpAnyH_take (i := 6) (v := .pointer (some ⟨bk, o, none⟩)) rfl (by kernel_rfl) (by kernel_rfl) (by kernel_rfl) (fun _ _ _ h => h) (Or.inl ⟨by rfl, ?_⟩) (by assumption) ?_
  · intro w hSw
    go_simp
  show wpAnyH _ _ _ _ _ _ _ (Act.put _ (some 31) _) _
  simp only [Act.put, List.setIfInBounds_toArray, List.set_cons_zero, List.set_cons_succ]
  refine wpAnyH_take (i := 7) (v := .string KN) rfl (by kernel_rfl) (by kernel_rfl) (by kernel_rfl) (fun _ _ _ h => h) (Or.inl ⟨by rfl, ?_⟩) (by assumption) ?_
  · intro w hSw
    obtain ⟨s0, s1, s2⟩ := hSw
    go_simp
  show wpAnyH _ _ _ _ _ _ _ (Act.put _ (some 32) _) _
  simp only [Act.put, List.setIfInBounds_toArray, List.set_cons_zero, List.set_cons_succ]
  refine wpAnyH_take (i := 9) (v := .slice (some ⟨nb, no, none⟩) 2 c2) rfl (by kernel_rfl) (by kernel_rfl) (by kernel_rfl) (fun _ _ _ h => h) (Or.inl ⟨by rfl, ?_⟩) (by assumption) ?_
  · intro w hSw
    go_simp
  show wpAnyH _ _ _ _ _ _ _ (Act.put _ (some 34) _) _
  simp only [Act.put, List.setIfInBounds_toArray, List.set_cons_zero, List.set_cons_succ]
  refine wpAnyH_take (i := 10) (v := .pointer (some ⟨nb, no, none⟩)) rfl (by kernel_rfl) (by kernel_rfl) (by kernel_rfl) (fun _ _ _ h => h) (Or.inl ⟨by rfl, ?_⟩) (by assumption) ?_
  · intro w hSw
    go_simp
  show wpAnyH _ _ _ _ _ _ _ (Act.put _ (some 35) _) _
  simp only [Act.put, List.setIfInBounds_toArray, List.set_cons_zero, List.set_cons_succ]
  refine wpAnyH_take (i := 11) (v := .int .i64 tb') rfl (by kernel_rfl) (by kernel_rfl) (by kernel_rfl) (fun _ _ _ h => h) (Or.inl ⟨by rfl, ?_⟩) (by assumption) ?_
  · intro w hSw
    obtain ⟨s0, s1, s2⟩ := hSw
    go_simp
  show wpAnyH _ _ _ _ _ _ _ (Act.put _ (some 36) _) _
  simp only [Act.put, List.setIfInBounds_toArray, List.set_cons_zero, List.set_cons_succ]
  refine wpAnyH_take (i := 12) (v := .slice (some ⟨nb, no, none⟩) 2 c2) rfl (by kernel_rfl) (by kernel_rfl) (by kernel_rfl) (fun _ _ _ h => h) (Or.inl ⟨by rfl, ?_⟩) (by assumption) ?_
  · intro w hSw
    go_simp
  show wpAnyH _ _ _ _ _ _ _ (Act.put _ (some 37) _) _
  simp only [Act.put, List.setIfInBounds_toArray, List.set_cons_zero, List.set_cons_succ]
  refine wpAnyH_take (i := 13) (v := .pointer (some ⟨nb, no + 1, none⟩)) rfl (by kernel_rfl) (by kernel_rfl) (by kernel_rfl) (fun _ _ _ h => h) (Or.inl ⟨by rfl, ?_⟩) (by assumption) ?_
  · intro w hSw
    go_simp
  show wpAnyH _ _ _ _ _ _ _ (Act.put _ (some 38) _) _
  simp only [Act.put, List.setIfInBounds_toArray, List.set_cons_zero, List.set_cons_succ]
  refine wpAnyH_take (i := 14) (v := .int .i64 tc) rfl (by kernel_rfl) (by kernel_rfl) (by kernel_rfl) (fun _ _ _ h => h) (Or.inl ⟨by rfl, ?_⟩) (by assumption) ?_
  · intro w hSw
    obtain ⟨s0, s1, s2⟩ := hSw
    go_simp
  show wpAnyH _ _ _ _ _ _ _ (Act.put _ (some 39) _) _
  simp only [Act.put, List.setIfInBounds_toArray, List.set_cons_zero, List.set_cons_succ]
  have HSS := Lib.hid hHeld
  refine wpAnyH_ready (rs := [4, 8]) (by kernel_rfl) (by simp) ?_
  refine AllReadyH.cons rfl (fun K hK => ?_) (AllReadyH.cons rfl (fun K hK => ?_) AllReadyH.nil)
  · have cr := (h0.cell (j := 3) (u := .slice c.uA c.us.length c.uc) rfl).1
    go_simp
    refine hK.out _ _ hHeld (fun hHeld => ?_)
    clear hK K cr
    refine wpAnyH_ready (rs := [8]) (by kernel_rfl) (by simp) ?_
    refine AllReadyH.cons rfl (fun K hK => ?_) AllReadyH.nil
    go_simp
    refine (HKN.out U0 HR2.out).mono ?_
    rintro e w' ⟨rfl, hw⟩
    rw [← hw]
    clear hw w'
    go_simp
    refine hK.out _ _ hHeld (fun hHeld => ?_)
    clear hK K
    refine wpAnyH_take (i := 15) (v := .agg #[.int .i64 ta, .int .i64 tb', .int .i64 tc]) rfl (by kernel_rfl) (by kernel_rfl) (by kernel_rfl) (fun _ _ _ h => h) (Or.inl ⟨by rfl, ?_⟩) (by assumption) ?_
    · intro w hSw
      go_simp
    show wpAnyH _ _ _ _ _ _ _ (Act.put _ (some 40) _) _
    simp only [Act.put, List.setIfInBounds_toArray, List.set_cons_zero, List.set_cons_succ]
    refine wpAnyH_ready (rs := [16]) (by kernel_rfl) (by simp) ?_
    refine AllReadyH.cons rfl (fun K hK => ?_) AllReadyH.nil
    have hbz : Below U0.heap.size U0 (U0.alloc (.cells #[.int .i64 ta, .int .i64 tb', .int .i64 tc] 53)) := (Below.refl _ _).alloc (Nat.le_refl _) _
    go_simp
    refine hK.out _ _ ⟨(hbz.cell (p := ⟨nb, no, none⟩) gl0).trans hHeld.1, (hbz.cell (p := ⟨nb, no + 1, none⟩) gl0).trans hHeld.2.1, (hbz.cell (p := ⟨bk, o, none⟩) gk0).trans hHeld.2.2⟩ (fun hHeld => ?_)
    clear hK K
    refine wpAnyH_ready (rs := [17]) (by kernel_rfl) (by simp) ?_
    refine AllReadyH.cons rfl (fun K hK => ?_) AllReadyH.nil
    refine step_append_keep (cs := cells3) (s := 3) _ rfl (.tmp 29) (.tmp 41) 24 (by rfl) (cb + 1) 53 Tryz.underlying24 unit_info rfl (by decide) (by decide) cells3_len _ c.us U0 (⟨ta, tb', tc⟩ : T3) (cells3_one _) _ rfl rfl (by rfl) h0.us U0.heap.size (by rfl) rfl (by have := HL.out; omega) h0.lt ?_
    intro g cap w' hown' hg' _ _
    obtain ⟨k1, k2, r3, r4⟩ := h0.put_us hown' hg'
    have hon : Only (fun b => (Value.slice c.uA c.us.length c.uc).ownBlock = some b) U0 w' := Only.of_grown hg' (fun j e => e)
    have hnn : ¬ (Value.slice c.uA c.us.length c.uc).ownBlock = some nb := fun e => by have := HOW.out.1 nb e; have := HOW.out.2.1; omega
    have hS0 := HSS.out
    have hkk : ¬ (Value.slice c.uA c.us.length c.uc).ownBlock = some bk := fun e => absurd e (HBO.out)
    refine hK.out _ _ ⟨(hon.cell (a := ⟨nb, no, none⟩) gl0 hnn).trans hS0.1, (hon.cell (a := ⟨nb, no + 1, none⟩) gl0 hnn).trans hS0.2.1, (hon.cell (a := ⟨bk, o, none⟩) gk0 hkk).trans hS0.2.2⟩ (fun hHeld => ?_)
    clear hK K hnn hon hkk
    show wpAnyH _ _ _ _ _ _ _ (Act.put _ (some 42) _) _
    simp only [Act.put, List.setIfInBounds_toArray, List.set_cons_zero, List.set_cons_succ]
    refine wpAnyH_take (i := 18) (v := .pointer (some ⟨cb, 0, none⟩)) rfl (by kernel_rfl) (by kernel_rfl) (by kernel_rfl) (fun _ _ _ h => h) (Or.inl ⟨by rfl, ?_⟩) (by assumption) ?_
    · intro w hSw
      go_simp
    show wpAnyH _ _ _ _ _ _ _ (Act.put _ (some 43) _) _
    simp only [Act.put, List.setIfInBounds_toArray, List.set_cons_zero, List.set_cons_succ]
    refine wpAnyH_take (i := 19) (v := .pointer (some ⟨cb, 3, none⟩)) rfl (by kernel_rfl) (by kernel_rfl) (by kernel_rfl) (fun _ _ _ h => h) (Or.inl ⟨by rfl, ?_⟩) (by assumption) ?_
    · intro w hSw
      go_simp
    show wpAnyH _ _ _ _ _ _ _ (Act.put _ (some 44) _) _
    simp only [Act.put, List.setIfInBounds_toArray, List.set_cons_zero, List.set_cons_succ]
    refine wpAnyH_ready (rs := [20]) (by kernel_rfl) (by simp) ?_
    refine AllReadyH.cons rfl (fun K hK => ?_) AllReadyH.nil
    go_simp
    refine hK.out _ _ ⟨(World.cell?_setCell_other _ _ _ _ (by intro e; injection e with e _; have := HOW.out.2.1; have := HOW.out.2.2.2; omega)).trans hHeld.1, (World.cell?_setCell_other _ _ _ _ (by intro e; injection e with e _; have := HOW.out.2.1; have := HOW.out.2.2.2; omega)).trans hHeld.2.1, (World.cell?_setCell_other _ _ _ _ (by intro e; injection e with e _; exact HCB.out e.symm)).trans hHeld.2.2⟩ (fun _ => ?_)
    clear hK K
    refine wpAnyH_done (by kernel_rfl) ?_ _
    have HE := Lib.hid (And.intro r3 (hB0.trans r4))
    clear hown' hg' h0 hB0 r3 r4 k1 k2
    go_wp2_with fail
    go_ret
    exact ⟨rfl, _, ⟨_, _, rfl⟩, HE.out.1, HE.out.2⟩
  · go_simp
    refine (HKN.out U0 HR2.out).mono ?_
    rintro e w' ⟨rfl, hw⟩
    rw [← hw]
    clear hw w'
    go_simp
    refine hK.out _ _ hHeld (fun hHeld => ?_)
    clear hK K
    refine wpAnyH_take (i := 15) (v := .agg #[.int .i64 ta, .int .i64 tb', .int .i64 tc]) rfl (by kernel_rfl) (by kernel_rfl) (by kernel_rfl) (fun _ _ _ h => h) (Or.inl ⟨by rfl, ?_⟩) (by assumption) ?_
    · intro w hSw
      go_simp
    show wpAnyH _ _ _ _ _ _ _ (Act.put _ (some 40) _) _
    simp only [Act.put, List.setIfInBounds_toArray, List.set_cons_zero, List.set_cons_succ]
    refine wpAnyH_ready (rs := [4, 16]) (by kernel_rfl) (by simp) ?_
    refine AllReadyH.cons rfl (fun K hK => ?_) (AllReadyH.cons rfl (fun K hK => ?_) AllReadyH.nil)
    · have cr := (h0.cell (j := 3) (u := .slice c.uA c.us.length c.uc) rfl).1
      go_simp
      refine hK.out _ _ hHeld (fun hHeld => ?_)
      clear hK K cr
      refine wpAnyH_ready (rs := [16]) (by kernel_rfl) (by simp) ?_
      refine AllReadyH.cons rfl (fun K hK => ?_) AllReadyH.nil
      have hbz : Below U0.heap.size U0 (U0.alloc (.cells #[.int .i64 ta, .int .i64 tb', .int .i64 tc] 53)) := (Below.refl _ _).alloc (Nat.le_refl _) _
      go_simp
      refine hK.out _ _ ⟨(hbz.cell (p := ⟨nb, no, none⟩) gl0).trans hHeld.1, (hbz.cell (p := ⟨nb, no + 1, none⟩) gl0).trans hHeld.2.1, (hbz.cell (p := ⟨bk, o, none⟩) gk0).trans hHeld.2.2⟩ (fun hHeld => ?_)
      clear hK K
      refine wpAnyH_ready (rs := [17]) (by kernel_rfl) (by simp) ?_
      refine AllReadyH.cons rfl (fun K hK => ?_) AllReadyH.nil
      refine step_append_keep (cs := cells3) (s := 3) _ rfl (.tmp 29) (.tmp 41) 24 (by rfl) (cb + 1) 53 Tryz.underlying24 unit_info rfl (by decide) (by decide) cells3_len _ c.us U0 (⟨ta, tb', tc⟩ : T3) (cells3_one _) _ rfl rfl (by rfl) h0.us U0.heap.size (by rfl) rfl (by have := HL.out; omega) h0.lt ?_
      intro g cap w' hown' hg' _ _
      obtain ⟨k1, k2, r3, r4⟩ := h0.put_us hown' hg'
      have hon : Only (fun b => (Value.slice c.uA c.us.length c.uc).ownBlock = some b) U0 w' := Only.of_grown hg' (fun j e => e)
      have hnn : ¬ (Value.slice c.uA c.us.length c.uc).ownBlock = some nb := fun e => by have := HOW.out.1 nb e; have := HOW.out.2.1; omega
      have hS0 := HSS.out
      have hkk : ¬ (Value.slice c.uA c.us.length c.uc).ownBlock = some bk := fun e => absurd e (HBO.out)
      refine hK.out _ _ ⟨(hon.cell (a := ⟨nb, no, none⟩) gl0 hnn).trans hS0.1, (hon.cell (a := ⟨nb, no + 1, none⟩) gl0 hnn).trans hS0.2.1, (hon.cell (a := ⟨bk, o, none⟩) gk0 hkk).trans hS0.2.2⟩ (fun hHeld => ?_)
      clear hK K hnn hon hkk
      show wpAnyH _ _ _ _ _ _ _ (Act.put _ (some 42) _) _
      simp only [Act.put, List.setIfInBounds_toArray, List.set_cons_zero, List.set_cons_succ]
      refine wpAnyH_take (i := 18) (v := .pointer (some ⟨cb, 0, none⟩)) rfl (by kernel_rfl) (by kernel_rfl) (by kernel_rfl) (fun _ _ _ h => h) (Or.inl ⟨by rfl, ?_⟩) (by assumption) ?_
      · intro w hSw
        go_simp
      show wpAnyH _ _ _ _ _ _ _ (Act.put _ (some 43) _) _
      simp only [Act.put, List.setIfInBounds_toArray, List.set_cons_zero, List.set_cons_succ]
      refine wpAnyH_take (i := 19) (v := .pointer (some ⟨cb, 3, none⟩)) rfl (by kernel_rfl) (by kernel_rfl) (by kernel_rfl) (fun _ _ _ h => h) (Or.inl ⟨by rfl, ?_⟩) (by assumption) ?_
      · intro w hSw
        go_simp
      show wpAnyH _ _ _ _ _ _ _ (Act.put _ (some 44) _) _
      simp only [Act.put, List.setIfInBounds_toArray, List.set_cons_zero, List.set_cons_succ]
      refine wpAnyH_ready (rs := [20]) (by kernel_rfl) (by simp) ?_
      refine AllReadyH.cons rfl (fun K hK => ?_) AllReadyH.nil
      go_simp
      refine hK.out _ _ ⟨(World.cell?_setCell_other _ _ _ _ (by intro e; injection e with e _; have := HOW.out.2.1; have := HOW.out.2.2.2; omega)).trans hHeld.1, (World.cell?_setCell_other _ _ _ _ (by intro e; injection e with e _; have := HOW.out.2.1; have := HOW.out.2.2.2; omega)).trans hHeld.2.1, (World.cell?_setCell_other _ _ _ _ (by intro e; injection e with e _; exact HCB.out e.symm)).trans hHeld.2.2⟩ (fun _ => ?_)
      clear hK K
      refine wpAnyH_done (by kernel_rfl) ?_ _
      have HE := Lib.hid (And.intro r3 (hB0.trans r4))
      clear hown' hg' h0 hB0 r3 r4 k1 k2
      go_wp2_with fail
      go_ret
      exact ⟨rfl, _, ⟨_, _, rfl⟩, HE.out.1, HE.out.2⟩
    · have hbz : Below U0.heap.size U0 (U0.alloc (.cells #[.int .i64 ta, .int .i64 tb', .int .i64 tc] 53)) := (Below.refl _ _).alloc (Nat.le_refl _) _
      go_simp
      refine hK.out _ _ ⟨(hbz.cell (p := ⟨nb, no, none⟩) gl0).trans hHeld.1, (hbz.cell (p := ⟨nb, no + 1, none⟩) gl0).trans hHeld.2.1, (hbz.cell (p := ⟨bk, o, none⟩) gk0).trans hHeld.2.2⟩ (fun hHeld => ?_)
      clear hK K
      refine wpAnyH_ready (rs := [4]) (by kernel_rfl) (by simp) ?_
      refine AllReadyH.cons rfl (fun K hK => ?_) AllReadyH.nil
      have h0' := h0.next hbz
      have cr := (h0'.cell (j := 3) (u := .slice c.uA c.us.length c.uc) rfl).1
      go_simp
      refine hK.out _ _ hHeld (fun hHeld => ?_)
      clear hK K cr
      clear h0'
      refine wpAnyH_ready (rs := [17]) (by kernel_rfl) (by simp) ?_
      refine AllReadyH.cons rfl (fun K hK => ?_) AllReadyH.nil
      refine step_append_keep (cs := cells3) (s := 3) _ rfl (.tmp 29) (.tmp 41) 24 (by rfl) (cb + 1) 53 Tryz.underlying24 unit_info rfl (by decide) (by decide) cells3_len _ c.us U0 (⟨ta, tb', tc⟩ : T3) (cells3_one _) _ rfl rfl (by rfl) h0.us U0.heap.size (by rfl) rfl (by have := HL.out; omega) h0.lt ?_
      intro g cap w' hown' hg' _ _
      obtain ⟨k1, k2, r3, r4⟩ := h0.put_us hown' hg'
      have hon : Only (fun b => (Value.slice c.uA c.us.length c.uc).ownBlock = some b) U0 w' := Only.of_grown hg' (fun j e => e)
      have hnn : ¬ (Value.slice c.uA c.us.length c.uc).ownBlock = some nb := fun e => by have := HOW.out.1 nb e; have := HOW.out.2.1; omega
      have hS0 := HSS.out
      have hkk : ¬ (Value.slice c.uA c.us.length c.uc).ownBlock = some bk := fun e => absurd e (HBO.out)
      refine hK.out _ _ ⟨(hon.cell (a := ⟨nb, no, none⟩) gl0 hnn).trans hS0.1, (hon.cell (a := ⟨nb, no + 1, none⟩) gl0 hnn).trans hS0.2.1, (hon.cell (a := ⟨bk, o, none⟩) gk0 hkk).trans hS0.2.2⟩ (fun hHeld => ?_)
      clear hK K hnn hon hkk
      show wpAnyH _ _ _ _ _ _ _ (Act.put _ (some 42) _) _
      simp only [Act.put, List.setIfInBounds_toArray, List.set_cons_zero, List.set_cons_succ]
      refine wpAnyH_take (i := 18) (v := .pointer (some ⟨cb, 0, none⟩)) rfl (by kernel_rfl) (by kernel_rfl) (by kernel_rfl) (fun _ _ _ h => h) (Or.inl ⟨by rfl, ?_⟩) (by assumption) ?_
      · intro w hSw
        go_simp
      show wpAnyH _ _ _ _ _ _ _ (Act.put _ (some 43) _) _
      simp only [Act.put, List.setIfInBounds_toArray, List.set_cons_zero, List.set_cons_succ]
      refine wpAnyH_take (i := 19) (v := .pointer (some ⟨cb, 3, none⟩)) rfl (by kernel_rfl) (by kernel_rfl) (by kernel_rfl) (fun _ _ _ h => h) (Or.inl ⟨by rfl, ?_⟩) (by assumption) ?_
      · intro w hSw
        go_simp
      show wpAnyH _ _ _ _ _ _ _ (Act.put _ (some 44) _) _
      simp only [Act.put, List.setIfInBounds_toArray, List.set_cons_zero, List.set_cons_succ]
      refine wpAnyH_ready (rs := [20]) (by kernel_rfl) (by simp) ?_
      refine AllReadyH.cons rfl (fun K hK => ?_) AllReadyH.nil
      go_simp
      refine hK.out _ _ ⟨(World.cell?_setCell_other _ _ _ _ (by intro e; injection e with e _; have := HOW.out.2.1; have := HOW.out.2.2.2; omega)).trans hHeld.1, (World.cell?_setCell_other _ _ _ _ (by intro e; injection e with e _; have := HOW.out.2.1; have := HOW.out.2.2.2; omega)).trans hHeld.2.1, (World.cell?_setCell_other _ _ _ _ (by intro e; injection e with e _; exact HCB.out e.symm)).trans hHeld.2.2⟩ (fun _ => ?_)
      clear hK K
      refine wpAnyH_done (by kernel_rfl) ?_ _
      have HE := Lib.hid (And.intro r3 (hB0.trans r4))
      clear hown' hg' h0 hB0 r3 r4 k1 k2
      go_wp2_with fail
      go_ret
      exact ⟨rfl, _, ⟨_, _, rfl⟩, HE.out.1, HE.out.2⟩
end Go.Proofs.YtloacoalmfaceaaGreatDoor
