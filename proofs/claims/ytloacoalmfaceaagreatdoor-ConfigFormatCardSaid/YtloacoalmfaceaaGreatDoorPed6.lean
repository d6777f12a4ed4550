/-
  config.parseEdge at the words of an edge (printed by genped6.py).
-/
import Derived.Test.YtloacoalmfaceaaGreatDoorPln6
import Derived.Deep.RegionHeld3
namespace Go.Proofs.YtloacoalmfaceaaGreatDoor
open Go.RowKit Go.Maps Go.Shelf

theorem edge_info : (Tryz.prog.info? 50).map (fun i => (i.zero, i.size, i.bytes)) = some (some (.agg #[.int .i64 0, .int .i64 0, .int .i64 0]), 3, 24) := by kernel_rfl
theorem cells3_one (t : T3) : ∀ u ∈ cells3 t, u.oneCell' = true := by
  intro u hu
  simp only [cells3, List.mem_cons, List.mem_nil_iff, or_false] at hu
  rcases hu with rfl | rfl | rfl <;> rfl
def Num18 (z : Int) : Prop := 0 ≤ z ∧ z < 1000000000000000000
def RetBool (cb : Nat) (W : World) (st : Cfg → Prop) (e : Ending) (w' : World) : Prop := e = .returned (.bool true) ∧ ∃ c', st c' ∧ PAt cb c' w' ∧ Below cb W w'
theorem never_ne {z : Int} : dec z ≠ [110, 101, 118, 101, 114] := fun e => by
  have := dec_dig z.toNat 110 (by show (110 : UInt8) ∈ dec z; rw [e]; simp)
  unfold isDig at this
  have e : (110 : UInt8).toNat = 110 := rfl
  omega
set_option maxRecDepth 100000 in
set_option maxHeartbeats 8000000 in
theorem parseEdge_any (cb : Nat) (c : Cfg) (W : World) (h : PAt cb c W) (ta tb' tc : Int) (ha : Num18 ta) (hb : Num18 tb') (hc : tc = 4611686018427387904 ∨ Num18 tc) (hlen : c.es.length ≤ 100000000) (bk o : Nat) (hs : Sl W W.heap.size (some ⟨bk, o, none⟩) ([dec ta, dec tb', timeT tc].map strV)) :
    Calls Tryz.prog 71 #[.pointer (some ⟨cb, 0, none⟩), .slice (some ⟨bk, o, none⟩) 3 3] W (RetBool cb W fun c' => ∃ A cp, c' = { c with eA := A, ec := cp, es := c.es ++ [⟨ta, tb', tc⟩] }) := by
  have hs2 : Sl W W.heap.size (some ⟨bk, o, none⟩) (([ta, tb'].map dec).map strV) := fun j u hj => hs j u (by
    match j, hj with
    | 0, hj => exact hj
    | 1, hj => exact hj
    | n + 2, hj => simp at hj)
  obtain ⟨b2, o2, e2, hbk, q2⟩ := hs 2 (strV (timeT tc)) rfl
  injection e2 with e2
  injection e2 with e2 e3
  subst e2 e3
  have HN := Lib.hid (numbers_any [ta, tb'] (by intro z hz; simp only [List.mem_cons, List.mem_nil_iff, or_false] at hz; rcases hz with rfl | rfl; exact ha; exact hb) (by simp) (some ⟨bk, o, none⟩) 3 W W.heap.size hs2 (Nat.le_refl _))
  have HP := Lib.hid h
  have HL := Lib.hid hlen
  clear hs hs2 h ha hb hlen
  go_enter Tryz.func71, Tryz.ntmps71
  go_wp2_with fail
  refine HN.out.mono ?_
  rintro e W1 ⟨v, rfl, hown, hb1⟩
  obtain ⟨A, c2, rfl, hsl⟩ := OwnV.sl hown
  obtain ⟨nb, no, hA, hnl, y0⟩ := hsl 0 (.int .i64 ta) rfl
  obtain ⟨nb', no', hA', _, y1⟩ := hsl 1 (.int .i64 tb') rfl
  subst hA
  injection hA' with hA'
  injection hA' with e4 e5
  subst e4 e5
  have hge : W.heap.size ≤ nb := by
    have := hown.ge_base nb (by
      rcases hown.2 with ⟨e1, _⟩ | ⟨g, cap, cur, e1, _⟩
      · cases e1
      · injection e1 with e1 _ _
        injection e1 with e1
        injection e1 with e1 _
        rw [e1]
        cases e1
        rcases hown.2 with ⟨e6, _⟩ | ⟨g6, cap6, cur6, e6, _⟩
        · cases e6
        · rw [e6]
          injection e6 with e7 _ _
          injection e7 with e7
          injection e7 with e7 _
          rw [e7]
          rfl)
    exact this
  have HP1 := Lib.hid (HP.out.next hb1)
  have HB1 := Lib.hid (hb1.mono (Nat.le_of_lt HP.out.lt))
  have z2 := (hb1.cell (p := ⟨bk, o + 2, none⟩) hbk).trans q2
  have HOW := Lib.hid (And.intro (show ∀ k, (Value.slice c.eA c.es.length c.ec).ownBlock = some k → k < W.heap.size from fun k hk => HP.out.es.lt_size k hk) (And.intro hge (And.intro hnl (show cb < W.heap.size from HP.out.lt))))
  rw [Nat.add_zero] at y0
  have HY := Lib.hid (And.intro y0 y1)
  clear hown hsl hb1 q2 hbk hge y0 y1 hnl HN HP
  simp only [List.length_cons, List.length_nil]
  by_cases hinf : tc = 4611686018427387904
  · have e0 : ((bs (timeT tc)).toList == [110, 101, 118, 101, 114]) = true := eq_toL.trans (decide_eq_true (by rw [bs_data]; unfold timeT; rw [if_pos hinf]; rfl))
    have e0' : ((bs (timeT tc)).toList != [110, 101, 118, 101, 114]) = false := by rw [bne, e0]; rfl
    obtain ⟨TT, hTT⟩ : ∃ T, T = bs (timeT tc) := ⟨_, rfl⟩
    rw [← hTT] at e0 e0'
    have z2' : W1.cell? ⟨bk, o + 2, none⟩ = some (.string TT) := by rw [z2, hTT]
    have HI := Lib.hid hinf
    obtain ⟨W2, rfl⟩ : ∃ x, x = W1 := ⟨_, rfl⟩
    clear z2 hTT hinf hc
    go_wp2_with fail
    obtain ⟨g0, g1⟩ := HY.out
    have gl := HOW.out.2.2.1
    refine wp_region_held_drew (S := fun Y => Y.cell? ⟨nb, no, none⟩ = some (.int .i64 ta) ∧ Y.cell? ⟨nb, no + 1, none⟩ = some (.int .i64 tb')) (by kernel_rfl) ⟨g0, g1⟩ (fun hHeld => ?_)
    have h0 : PAt cb c W2.drew := HP1.out.next (Below.refl _ _).drew
    have hB0 : Below cb W W2.drew := HB1.out.drew
    have gl0 : nb < W2.drew.heap.size := gl
    obtain ⟨U0, hU0⟩ : ∃ U, U = W2.drew := ⟨_, rfl⟩
    rw [← hU0] at hHeld h0 hB0 gl0 ⊢
    clear hU0 g0 g1 gl
    refine wpAnyH_take (i := 0) (v := .pointer (some ⟨cb, 0, none⟩)) rfl (by kernel_rfl) (by kernel_rfl) (by kernel_rfl) (fun _ _ _ h => h) (Or.inl ⟨by rfl, ?_⟩) (by assumption) ?_
    · intro w hSw
      go_simp
    show wpAnyH _ _ _ _ _ _ _ (Act.put _ (some 32) _) _
    simp only [Act.put, List.setIfInBounds_toArray, List.set_cons_zero, List.set_cons_succ]
    refine wpAnyH_take (i := 1) (v := .pointer (some ⟨cb, 0, none⟩)) rfl (by kernel_rfl) (by kernel_rfl) (by kernel_rfl) (fun _ _ _ h => h) (Or.inl ⟨by rfl, ?_⟩) (by assumption) ?_
    · intro w hSw
      go_simp
    show wpAnyH _ _ _ _ _ _ _ (Act.put _ (some 33) _) _
    simp only [Act.put, List.setIfInBounds_toArray, List.set_cons_zero, List.set_cons_succ]
    refine wpAnyH_take (i := 2) (v := .pointer (some ⟨cb, 0, none⟩)) rfl (by kernel_rfl) (by kernel_rfl) (by kernel_rfl) (fun _ _ _ h => h) (Or.inl ⟨by rfl, ?_⟩) (by assumption) ?_
    · intro w hSw
      go_simp
    show wpAnyH _ _ _ _ _ _ _ (Act.put _ (some 34) _) _
    simp only [Act.put, List.setIfInBounds_toArray, List.set_cons_zero, List.set_cons_succ]
    refine wpAnyH_take (i := 3) (v := .pointer (some ⟨cb, 2, none⟩)) rfl (by kernel_rfl) (by kernel_rfl) (by kernel_rfl) (fun _ _ _ h => h) (Or.inl ⟨by rfl, ?_⟩) (by assumption) ?_
    · intro w hSw
      go_simp
    show wpAnyH _ _ _ _ _ _ _ (Act.put _ (some 35) _) _
    simp only [Act.put, List.setIfInBounds_toArray, List.set_cons_zero, List.set_cons_succ]
    refine wpAnyH_take (i := 5) (v := .slice (some ⟨nb, no, none⟩) 2 c2) rfl (by kernel_rfl) (by kernel_rfl) (by kernel_rfl) (fun _ _ _ h => h) (Or.inl ⟨by rfl, ?_⟩) (by assumption) ?_
    · intro w hSw
      go_simp
    show wpAnyH _ _ _ _ _ _ _ (Act.put _ (some 37) _) _
    simp only [Act.put, List.setIfInBounds_toArray, List.set_cons_zero, List.set_cons_succ]
    refine wpAnyH_take (i := 6) (v := .pointer (some ⟨nb, no, none⟩)) rfl (by kernel_rfl) (by kernel_rfl) (by kernel_rfl) (fun _ _ _ h => h) (Or.inl ⟨by rfl, ?_⟩) (by assumption) ?_
    · intro w hSw
      go_simp
    show wpAnyH _ _ _ _ _ _ _ (Act.put _ (some 38) _) _
    simp only [Act.put, List.setIfInBounds_toArray, List.set_cons_zero, List.set_cons_succ]
    refine wpAnyH_take (i := 7) (v := .int .i64 ta) rfl (by kernel_rfl) (by kernel_rfl) (by kernel_rfl) (fun _ _ _ h => h) (Or.inl ⟨by rfl, ?_⟩) (by assumption) ?_
    · intro w hSw
      obtain ⟨s0, s1⟩ := hSw
      go_simp
    show wpAnyH _ _ _ _ _ _ _ (Act.put _ (some 39) _) _
    simp only [Act.put, List.setIfInBounds_toArray, List.set_cons_zero, List.set_cons_succ]
    refine wpAnyH_take (i := 8) (v := .slice (some ⟨nb, no, none⟩) 2 c2) rfl (by kernel_rfl) (by kernel_rfl) (by kernel_rfl) (fun _ _ _ h => h) (Or.inl ⟨by rfl, ?_⟩) (by assumption) ?_
    · intro w hSw
      go_simp
    show wpAnyH _ _ _ _ _ _ _ (Act.put _ (some 40) _) _
    simp only [Act.put, List.setIfInBounds_toArray, List.set_cons_zero, List.set_cons_succ]
    refine wpAnyH_take (i := 9) (v := .pointer (some ⟨nb, no + 1, none⟩)) rfl (by kernel_rfl) (by kernel_rfl) (by kernel_rfl) (fun _ _ _ h => h) (Or.inl ⟨by rfl, ?_⟩) (by assumption) ?_
    · intro w hSw
      go_simp
    show wpAnyH _ _ _ _ _ _ _ (Act.put _ (some 41) _) _
    simp only [Act.put, List.setIfInBounds_toArray, List.set_cons_zero, List.set_cons_succ]
    refine wpAnyH_take (i := 10) (v := .int .i64 tb') rfl (by kernel_rfl) (by kernel_rfl) (by kernel_rfl) (fun _ _ _ h => h) (Or.inl ⟨by rfl, ?_⟩) (by assumption) ?_
    · intro w hSw
      obtain ⟨s0, s1⟩ := hSw
      go_simp
    show wpAnyH _ _ _ _ _ _ _ (Act.put _ (some 42) _) _
    simp only [Act.put, List.setIfInBounds_toArray, List.set_cons_zero, List.set_cons_succ]
    refine wpAnyH_take (i := 11) (v := .int .i64 4611686018427387904) rfl (by kernel_rfl) (by kernel_rfl) (by kernel_rfl) (fun _ _ _ h => h) (Or.inl ⟨by rfl, ?_⟩) (by assumption) ?_
    · intro w hSw
      go_simp
    show wpAnyH _ _ _ _ _ _ _ (Act.put _ (some 43) _) _
    simp only [Act.put, List.setIfInBounds_toArray, List.set_cons_zero, List.set_cons_succ]
    refine wpAnyH_take (i := 12) (v := .agg #[.int .i64 ta, .int .i64 tb', .int .i64 4611686018427387904]) rfl (by kernel_rfl) (by kernel_rfl) (by kernel_rfl) (fun _ _ _ h => h) (Or.inl ⟨by rfl, ?_⟩) (by assumption) ?_
    · intro w hSw
      go_simp
    show wpAnyH _ _ _ _ _ _ _ (Act.put _ (some 44) _) _
    simp only [Act.put, List.setIfInBounds_toArray, List.set_cons_zero, List.set_cons_succ]
    have HSS := Lib.hid hHeld
    refine wpAnyH_ready (rs := [4, 13]) (by kernel_rfl) (by simp) ?_
    refine AllReadyH.cons rfl (fun K hK => ?_) (AllReadyH.cons rfl (fun K hK => ?_) AllReadyH.nil)
    · have cr := (h0.cell (j := 2) (u := .slice c.eA c.es.length c.ec) rfl).1
      go_simp
      refine hK.out _ _ hHeld (fun hHeld => ?_)
      clear hK K cr
      refine wpAnyH_ready (rs := [13]) (by kernel_rfl) (by simp) ?_
      refine AllReadyH.cons rfl (fun K hK => ?_) AllReadyH.nil
      have hbz : Below U0.heap.size U0 (U0.alloc (.cells #[.int .i64 ta, .int .i64 tb', .int .i64 4611686018427387904] 50)) := (Below.refl _ _).alloc (Nat.le_refl _) _
      go_simp
      refine hK.out _ _ ⟨(hbz.cell (p := ⟨nb, no, none⟩) gl0).trans hHeld.1, (hbz.cell (p := ⟨nb, no + 1, none⟩) gl0).trans hHeld.2⟩ (fun hHeld => ?_)
      clear hK K
      refine wpAnyH_ready (rs := [14]) (by kernel_rfl) (by simp) ?_
      refine AllReadyH.cons rfl (fun K hK => ?_) AllReadyH.nil
      refine step_append_keep (cs := cells3) (s := 3) _ rfl (.tmp 36) (.tmp 45) 23 (by rfl) (cb + 1) 50 Tryz.underlying23 edge_info rfl (by decide) (by decide) cells3_len _ c.es U0 (⟨ta, tb', tc⟩ : T3) (cells3_one _) _ (by rw [HI.out]; rfl) rfl (by rfl) h0.es U0.heap.size (by rfl) rfl (by have := HL.out; omega) h0.lt ?_
      intro g cap w' hown' hg' _ _
      obtain ⟨k1, k2, r3, r4⟩ := h0.put_es hown' hg'
      have hon : Only (fun b => (Value.slice c.eA c.es.length c.ec).ownBlock = some b) U0 w' := Only.of_grown hg' (fun j e => e)
      have hnn : ¬ (Value.slice c.eA c.es.length c.ec).ownBlock = some nb := fun e => by have := HOW.out.1 nb e; have := HOW.out.2.1; omega
      have hS0 := HSS.out
      refine hK.out _ _ ⟨(hon.cell (a := ⟨nb, no, none⟩) gl0 hnn).trans hS0.1, (hon.cell (a := ⟨nb, no + 1, none⟩) gl0 hnn).trans hS0.2⟩ (fun hHeld => ?_)
      clear hK K hnn hon
      show wpAnyH _ _ _ _ _ _ _ (Act.put _ (some 46) _) _
      simp only [Act.put, List.setIfInBounds_toArray, List.set_cons_zero, List.set_cons_succ]
      refine wpAnyH_take (i := 15) (v := .pointer (some ⟨cb, 0, none⟩)) rfl (by kernel_rfl) (by kernel_rfl) (by kernel_rfl) (fun _ _ _ h => h) (Or.inl ⟨by rfl, ?_⟩) (by assumption) ?_
      · intro w hSw
        go_simp
      show wpAnyH _ _ _ _ _ _ _ (Act.put _ (some 47) _) _
      simp only [Act.put, List.setIfInBounds_toArray, List.set_cons_zero, List.set_cons_succ]
      refine wpAnyH_take (i := 16) (v := .pointer (some ⟨cb, 2, none⟩)) rfl (by kernel_rfl) (by kernel_rfl) (by kernel_rfl) (fun _ _ _ h => h) (Or.inl ⟨by rfl, ?_⟩) (by assumption) ?_
      · intro w hSw
        go_simp
      show wpAnyH _ _ _ _ _ _ _ (Act.put _ (some 48) _) _
      simp only [Act.put, List.setIfInBounds_toArray, List.set_cons_zero, List.set_cons_succ]
      refine wpAnyH_ready (rs := [17]) (by kernel_rfl) (by simp) ?_
      refine AllReadyH.cons rfl (fun K hK => ?_) AllReadyH.nil
      go_simp
      refine hK.out _ _ ⟨(World.cell?_setCell_other _ _ _ _ (by intro e; injection e with e _; have := HOW.out.2.1; have := HOW.out.2.2.2; omega)).trans hHeld.1, (World.cell?_setCell_other _ _ _ _ (by intro e; injection e with e _; have := HOW.out.2.1; have := HOW.out.2.2.2; omega)).trans hHeld.2⟩ (fun _ => ?_)
      clear hK K
      refine wpAnyH_done (by kernel_rfl) ?_ _
      have HE := Lib.hid (And.intro r3 (hB0.trans r4))
      clear hown' hg' h0 hB0 r3 r4 k1 k2
      go_wp2_with fail
      go_ret
      exact ⟨rfl, _, ⟨_, _, rfl⟩, HE.out.1, HE.out.2⟩
    · have hbz : Below U0.heap.size U0 (U0.alloc (.cells #[.int .i64 ta, .int .i64 tb', .int .i64 4611686018427387904] 50)) := (Below.refl _ _).alloc (Nat.le_refl _) _
      go_simp
      refine hK.out _ _ ⟨(hbz.cell (p := ⟨nb, no, none⟩) gl0).trans hHeld.1, (hbz.cell (p := ⟨nb, no + 1, none⟩) gl0).trans hHeld.2⟩ (fun hHeld => ?_)
      clear hK K
      refine wpAnyH_ready (rs := [4]) (by kernel_rfl) (by simp) ?_
      refine AllReadyH.cons rfl (fun K hK => ?_) AllReadyH.nil
      have h0' := h0.next hbz
      have cr := (h0'.cell (j := 2) (u := .slice c.eA c.es.length c.ec) rfl).1
      go_simp
      refine hK.out _ _ hHeld (fun hHeld => ?_)
      clear hK K cr
      clear h0'
      refine wpAnyH_ready (rs := [14]) (by kernel_rfl) (by simp) ?_
      refine AllReadyH.cons rfl (fun K hK => ?_) AllReadyH.nil
      refine step_append_keep (cs := cells3) (s := 3) _ rfl (.tmp 36) (.tmp 45) 23 (by rfl) (cb + 1) 50 Tryz.underlying23 edge_info rfl (by decide) (by decide) cells3_len _ c.es U0 (⟨ta, tb', tc⟩ : T3) (cells3_one _) _ (by rw [HI.out]; rfl) rfl (by rfl) h0.es U0.heap.size (by rfl) rfl (by have := HL.out; omega) h0.lt ?_
      intro g cap w' hown' hg' _ _
      obtain ⟨k1, k2, r3, r4⟩ := h0.put_es hown' hg'
      have hon : Only (fun b => (Value.slice c.eA c.es.length c.ec).ownBlock = some b) U0 w' := Only.of_grown hg' (fun j e => e)
      have hnn : ¬ (Value.slice c.eA c.es.length c.ec).ownBlock = some nb := fun e => by have := HOW.out.1 nb e; have := HOW.out.2.1; omega
      have hS0 := HSS.out
      refine hK.out _ _ ⟨(hon.cell (a := ⟨nb, no, none⟩) gl0 hnn).trans hS0.1, (hon.cell (a := ⟨nb, no + 1, none⟩) gl0 hnn).trans hS0.2⟩ (fun hHeld => ?_)
      clear hK K hnn hon
      show wpAnyH _ _ _ _ _ _ _ (Act.put _ (some 46) _) _
      simp only [Act.put, List.setIfInBounds_toArray, List.set_cons_zero, List.set_cons_succ]
      refine wpAnyH_take (i := 15) (v := .pointer (some ⟨cb, 0, none⟩)) rfl (by kernel_rfl) (by kernel_rfl) (by kernel_rfl) (fun _ _ _ h => h) (Or.inl ⟨by rfl, ?_⟩) (by assumption) ?_
      · intro w hSw
        go_simp
      show wpAnyH _ _ _ _ _ _ _ (Act.put _ (some 47) _) _
      simp only [Act.put, List.setIfInBounds_toArray, List.set_cons_zero, List.set_cons_succ]
      refine wpAnyH_take (i := 16) (v := .pointer (some ⟨cb, 2, none⟩)) rfl (by kernel_rfl) (by kernel_rfl) (by kernel_rfl) (fun _ _ _ h => h) (Or.inl ⟨by rfl, ?_⟩) (by assumption) ?_
      · intro w hSw
        go_simp
      show wpAnyH _ _ _ _ _ _ _ (Act.put _ (some 48) _) _
      simp only [Act.put, List.setIfInBounds_toArray, List.set_cons_zero, List.set_cons_succ]
      refine wpAnyH_ready (rs := [17]) (by kernel_rfl) (by simp) ?_
      refine AllReadyH.cons rfl (fun K hK => ?_) AllReadyH.nil
      go_simp
      refine hK.out _ _ ⟨(World.cell?_setCell_other _ _ _ _ (by intro e; injection e with e _; have := HOW.out.2.1; have := HOW.out.2.2.2; omega)).trans hHeld.1, (World.cell?_setCell_other _ _ _ _ (by intro e; injection e with e _; have := HOW.out.2.1; have := HOW.out.2.2.2; omega)).trans hHeld.2⟩ (fun _ => ?_)
      clear hK K
      refine wpAnyH_done (by kernel_rfl) ?_ _
      have HE := Lib.hid (And.intro r3 (hB0.trans r4))
      clear hown' hg' h0 hB0 r3 r4 k1 k2
      go_wp2_with fail
      go_ret
      exact ⟨rfl, _, ⟨_, _, rfl⟩, HE.out.1, HE.out.2⟩
  · have hn := hc.resolve_left hinf
    have e0 : ((bs (timeT tc)).toList == [110, 101, 118, 101, 114]) = false := eq_toL.trans (decide_eq_false (by rw [bs_data]; unfold timeT; rw [if_neg hinf]; exact never_ne))
    have e0' : ((bs (timeT tc)).toList != [110, 101, 118, 101, 114]) = true := by rw [bne, e0]; rfl
    obtain ⟨TT, hTT⟩ : ∃ T, T = bs (timeT tc) := ⟨_, rfl⟩
    rw [← hTT] at e0 e0'
    have z2' : W1.cell? ⟨bk, o + 2, none⟩ = some (.string TT) := by rw [z2, hTT]
    have HNB := Lib.hid (number_any TT tc (by rw [hTT]; unfold timeT; rw [if_neg hinf]; exact numb_dec hn.1 hn.2) W1)
    clear z2 hTT hinf hc hn
    go_wp2_with fail
    refine HNB.out.mono ?_
    rintro e W2 ⟨rfl, hb2⟩
    have HP2 := Lib.hid (HP1.out.next hb2)
    have HB2 := Lib.hid (HB1.out.trans (hb2.mono (Nat.le_of_lt HP1.out.lt)))
    have HY2 := Lib.hid (And.intro ((hb2.cell (p := ⟨nb, no, none⟩) HOW.out.2.2.1).trans HY.out.1) (And.intro ((hb2.cell (p := ⟨nb, no + 1, none⟩) HOW.out.2.2.1).trans HY.out.2) (Nat.lt_of_lt_of_le HOW.out.2.2.1 hb2.size)))
    clear hb2 HNB e0 e0' z2'
    go_wp2_with fail
    obtain ⟨g0, g1, gl⟩ := HY2.out
    refine wp_region_held_drew (S := fun Y => Y.cell? ⟨nb, no, none⟩ = some (.int .i64 ta) ∧ Y.cell? ⟨nb, no + 1, none⟩ = some (.int .i64 tb')) (by kernel_rfl) ⟨g0, g1⟩ (fun hHeld => ?_)
    have h0 : PAt cb c W2.drew := HP2.out.next (Below.refl _ _).drew
    have hB0 : Below cb W W2.drew := HB2.out.drew
    have gl0 : nb < W2.drew.heap.size := gl
    obtain ⟨U0, hU0⟩ : ∃ U, U = W2.drew := ⟨_, rfl⟩
    rw [← hU0] at hHeld h0 hB0 gl0 ⊢
    clear hU0 g0 g1 gl
    refine wpAnyH_take (i := 0) (v := .pointer (some ⟨cb, 0, none⟩)) rfl (by kernel_rfl) (by kernel_rfl) (by kernel_rfl) (fun _ _ _ h => h) (Or.inl ⟨by rfl, ?_⟩) (by assumption) ?_
    · intro w hSw
      go_simp
    show wpAnyH _ _ _ _ _ _ _ (Act.put _ (some 32) _) _
    simp only [Act.put, List.setIfInBounds_toArray, List.set_cons_zero, List.set_cons_succ]
    refine wpAnyH_take (i := 1) (v := .pointer (some ⟨cb, 0, none⟩)) rfl (by kernel_rfl) (by kernel_rfl) (by kernel_rfl) (fun _ _ _ h => h) (Or.inl ⟨by rfl, ?_⟩) (by assumption) ?_
    · intro w hSw
      go_simp
    show wpAnyH _ _ _ _ _ _ _ (Act.put _ (some 33) _) _
    simp only [Act.put, List.setIfInBounds_toArray, List.set_cons_zero, List.set_cons_succ]
    refine wpAnyH_take (i := 2) (v := .pointer (some ⟨cb, 0, none⟩)) rfl (by kernel_rfl) (by kernel_rfl) (by kernel_rfl) (fun _ _ _ h => h) (Or.inl ⟨by rfl, ?_⟩) (by assumption) ?_
    · intro w hSw
      go_simp
    show wpAnyH _ _ _ _ _ _ _ (Act.put _ (some 34) _) _
    simp only [Act.put, List.setIfInBounds_toArray, List.set_cons_zero, List.set_cons_succ]
    refine wpAnyH_take (i := 3) (v := .pointer (some ⟨cb, 2, none⟩)) rfl (by kernel_rfl) (by kernel_rfl) (by kernel_rfl) (fun _ _ _ h => h) (Or.inl ⟨by rfl, ?_⟩) (by assumption) ?_
    · intro w hSw
      go_simp
    show wpAnyH _ _ _ _ _ _ _ (Act.put _ (some 35) _) _
    simp only [Act.put, List.setIfInBounds_toArray, List.set_cons_zero, List.set_cons_succ]
    refine wpAnyH_take (i := 5) (v := .slice (some ⟨nb, no, none⟩) 2 c2) rfl (by kernel_rfl) (by kernel_rfl) (by kernel_rfl) (fun _ _ _ h => h) (Or.inl ⟨by rfl, ?_⟩) (by assumption) ?_
    · intro w hSw
      go_simp
    show wpAnyH _ _ _ _ _ _ _ (Act.put _ (some 37) _) _
    simp only [Act.put, List.setIfInBounds_toArray, List.set_cons_zero, List.set_cons_succ]
    refine wpAnyH_take (i := 6) (v := .pointer (some ⟨nb, no, none⟩)) rfl (by kernel_rfl) (by kernel_rfl) (by kernel_rfl) (fun _ _ _ h => h) (Or.inl ⟨by rfl, ?_⟩) (by assumption) ?_
    · intro w hSw
      go_simp
    show wpAnyH _ _ _ _ _ _ _ (Act.put _ (some 38) _) _
    simp only [Act.put, List.setIfInBounds_toArray, List.set_cons_zero, List.set_cons_succ]
    refine wpAnyH_take (i := 7) (v := .int .i64 ta) rfl (by kernel_rfl) (by kernel_rfl) (by kernel_rfl) (fun _ _ _ h => h) (Or.inl ⟨by rfl, ?_⟩) (by assumption) ?_
    · intro w hSw
      obtain ⟨s0, s1⟩ := hSw
      go_simp
    show wpAnyH _ _ _ _ _ _ _ (Act.put _ (some 39) _) _
    simp only [Act.put, List.setIfInBounds_toArray, List.set_cons_zero, List.set_cons_succ]
    refine wpAnyH_take (i := 8) (v := .slice (some ⟨nb, no, none⟩) 2 c2) rfl (by kernel_rfl) (by kernel_rfl) (by kernel_rfl) (fun _ _ _ h => h) (Or.inl ⟨by rfl, ?_⟩) (by assumption) ?_
    · intro w hSw
      go_simp
    show wpAnyH _ _ _ _ _ _ _ (Act.put _ (some 40) _) _
    simp only [Act.put, List.setIfInBounds_toArray, List.set_cons_zero, List.set_cons_succ]
    refine wpAnyH_take (i := 9) (v := .pointer (some ⟨nb, no + 1, none⟩)) rfl (by kernel_rfl) (by kernel_rfl) (by kernel_rfl) (fun _ _ _ h => h) (Or.inl ⟨by rfl, ?_⟩) (by assumption) ?_
    · intro w hSw
      go_simp
    show wpAnyH _ _ _ _ _ _ _ (Act.put _ (some 41) _) _
    simp only [Act.put, List.setIfInBounds_toArray, List.set_cons_zero, List.set_cons_succ]
    refine wpAnyH_take (i := 10) (v := .int .i64 tb') rfl (by kernel_rfl) (by kernel_rfl) (by kernel_rfl) (fun _ _ _ h => h) (Or.inl ⟨by rfl, ?_⟩) (by assumption) ?_
    · intro w hSw
      obtain ⟨s0, s1⟩ := hSw
      go_simp
    show wpAnyH _ _ _ _ _ _ _ (Act.put _ (some 42) _) _
    simp only [Act.put, List.setIfInBounds_toArray, List.set_cons_zero, List.set_cons_succ]
    refine wpAnyH_take (i := 11) (v := .int .i64 tc) rfl (by kernel_rfl) (by kernel_rfl) (by kernel_rfl) (fun _ _ _ h => h) (Or.inl ⟨by rfl, ?_⟩) (by assumption) ?_
    · intro w hSw
      go_simp
    show wpAnyH _ _ _ _ _ _ _ (Act.put _ (some 43) _) _
    simp only [Act.put, List.setIfInBounds_toArray, List.set_cons_zero, List.set_cons_succ]
    refine wpAnyH_take (i := 12) (v := .agg #[.int .i64 ta, .int .i64 tb', .int .i64 tc]) rfl (by kernel_rfl) (by kernel_rfl) (by kernel_rfl) (fun _ _ _ h => h) (Or.inl ⟨by rfl, ?_⟩) (by assumption) ?_
    · intro w hSw
      go_simp
    show wpAnyH _ _ _ _ _ _ _ (Act.put _ (some 44) _) _
    simp only [Act.put, List.setIfInBounds_toArray, List.set_cons_zero, List.set_cons_succ]
    have HSS := Lib.hid hHeld
    refine wpAnyH_ready (rs := [4, 13]) (by kernel_rfl) (by simp) ?_
    refine AllReadyH.cons rfl (fun K hK => ?_) (AllReadyH.cons rfl (fun K hK => ?_) AllReadyH.nil)
    · have cr := (h0.cell (j := 2) (u := .slice c.eA c.es.length c.ec) rfl).1
      go_simp
      refine hK.out _ _ hHeld (fun hHeld => ?_)
      clear hK K cr
      refine wpAnyH_ready (rs := [13]) (by kernel_rfl) (by simp) ?_
      refine AllReadyH.cons rfl (fun K hK => ?_) AllReadyH.nil
      have hbz : Below U0.heap.size U0 (U0.alloc (.cells #[.int .i64 ta, .int .i64 tb', .int .i64 tc] 50)) := (Below.refl _ _).alloc (Nat.le_refl _) _
      go_simp
      refine hK.out _ _ ⟨(hbz.cell (p := ⟨nb, no, none⟩) gl0).trans hHeld.1, (hbz.cell (p := ⟨nb, no + 1, none⟩) gl0).trans hHeld.2⟩ (fun hHeld => ?_)
      clear hK K
      refine wpAnyH_ready (rs := [14]) (by kernel_rfl) (by simp) ?_
      refine AllReadyH.cons rfl (fun K hK => ?_) AllReadyH.nil
      refine step_append_keep (cs := cells3) (s := 3) _ rfl (.tmp 36) (.tmp 45) 23 (by rfl) (cb + 1) 50 Tryz.underlying23 edge_info rfl (by decide) (by decide) cells3_len _ c.es U0 (⟨ta, tb', tc⟩ : T3) (cells3_one _) _ rfl rfl (by rfl) h0.es U0.heap.size (by rfl) rfl (by have := HL.out; omega) h0.lt ?_
      intro g cap w' hown' hg' _ _
      obtain ⟨k1, k2, r3, r4⟩ := h0.put_es hown' hg'
      have hon : Only (fun b => (Value.slice c.eA c.es.length c.ec).ownBlock = some b) U0 w' := Only.of_grown hg' (fun j e => e)
      have hnn : ¬ (Value.slice c.eA c.es.length c.ec).ownBlock = some nb := fun e => by have := HOW.out.1 nb e; have := HOW.out.2.1; omega
      have hS0 := HSS.out
      refine hK.out _ _ ⟨(hon.cell (a := ⟨nb, no, none⟩) gl0 hnn).trans hS0.1, (hon.cell (a := ⟨nb, no + 1, none⟩) gl0 hnn).trans hS0.2⟩ (fun hHeld => ?_)
      clear hK K hnn hon
      show wpAnyH _ _ _ _ _ _ _ (Act.put _ (some 46) _) _
      simp only [Act.put, List.setIfInBounds_toArray, List.set_cons_zero, List.set_cons_succ]
      refine wpAnyH_take (i := 15) (v := .pointer (some ⟨cb, 0, none⟩)) rfl (by kernel_rfl) (by kernel_rfl) (by kernel_rfl) (fun _ _ _ h => h) (Or.inl ⟨by rfl, ?_⟩) (by assumption) ?_
      · intro w hSw
        go_simp
      show wpAnyH _ _ _ _ _ _ _ (Act.put _ (some 47) _) _
      simp only [Act.put, List.setIfInBounds_toArray, List.set_cons_zero, List.set_cons_succ]
      refine wpAnyH_take (i := 16) (v := .pointer (some ⟨cb, 2, none⟩)) rfl (by kernel_rfl) (by kernel_rfl) (by kernel_rfl) (fun _ _ _ h => h) (Or.inl ⟨by rfl, ?_⟩) (by assumption) ?_
      · intro w hSw
        go_simp
      show wpAnyH _ _ _ _ _ _ _ (Act.put _ (some 48) _) _
      simp only [Act.put, List.setIfInBounds_toArray, List.set_cons_zero, List.set_cons_succ]
      refine wpAnyH_ready (rs := [17]) (by kernel_rfl) (by simp) ?_
      refine AllReadyH.cons rfl (fun K hK => ?_) AllReadyH.nil
      go_simp
      refine hK.out _ _ ⟨(World.cell?_setCell_other _ _ _ _ (by intro e; injection e with e _; have := HOW.out.2.1; have := HOW.out.2.2.2; omega)).trans hHeld.1, (World.cell?_setCell_other _ _ _ _ (by intro e; injection e with e _; have := HOW.out.2.1; have := HOW.out.2.2.2; omega)).trans hHeld.2⟩ (fun _ => ?_)
      clear hK K
      refine wpAnyH_done (by kernel_rfl) ?_ _
      have HE := Lib.hid (And.intro r3 (hB0.trans r4))
      clear hown' hg' h0 hB0 r3 r4 k1 k2
      go_wp2_with fail
      go_ret
      exact ⟨rfl, _, ⟨_, _, rfl⟩, HE.out.1, HE.out.2⟩
    · have hbz : Below U0.heap.size U0 (U0.alloc (.cells #[.int .i64 ta, .int .i64 tb', .int .i64 tc] 50)) := (Below.refl _ _).alloc (Nat.le_refl _) _
      go_simp
      refine hK.out _ _ ⟨(hbz.cell (p := ⟨nb, no, none⟩) gl0).trans hHeld.1, (hbz.cell (p := ⟨nb, no + 1, none⟩) gl0).trans hHeld.2⟩ (fun hHeld => ?_)
      clear hK K
      refine wpAnyH_ready (rs := [4]) (by kernel_rfl) (by simp) ?_
      refine AllReadyH.cons rfl (fun K hK => ?_) AllReadyH.nil
      have h0' := h0.next hbz
      have cr := (h0'.cell (j := 2) (u := .slice c.eA c.es.length c.ec) rfl).1
      go_simp
      refine hK.out _ _ hHeld (fun hHeld => ?_)
      clear hK K cr
      clear h0'
      refine wpAnyH_ready (rs := [14]) (by kernel_rfl) (by simp) ?_
      refine AllReadyH.cons rfl (fun K hK => ?_) AllReadyH.nil
      refine step_append_keep (cs := cells3) (s := 3) _ rfl (.tmp 36) (.tmp 45) 23 (by rfl) (cb + 1) 50 Tryz.underlying23 edge_info rfl (by decide) (by decide) cells3_len _ c.es U0 (⟨ta, tb', tc⟩ : T3) (cells3_one _) _ rfl rfl (by rfl) h0.es U0.heap.size (by rfl) rfl (by have := HL.out; omega) h0.lt ?_
      intro g cap w' hown' hg' _ _
      obtain ⟨k1, k2, r3, r4⟩ := h0.put_es hown' hg'
      have hon : Only (fun b => (Value.slice c.eA c.es.length c.ec).ownBlock = some b) U0 w' := Only.of_grown hg' (fun j e => e)
      have hnn : ¬ (Value.slice c.eA c.es.length c.ec).ownBlock = some nb := fun e => by have := HOW.out.1 nb e; have := HOW.out.2.1; omega
      have hS0 := HSS.out
      refine hK.out _ _ ⟨(hon.cell (a := ⟨nb, no, none⟩) gl0 hnn).trans hS0.1, (hon.cell (a := ⟨nb, no + 1, none⟩) gl0 hnn).trans hS0.2⟩ (fun hHeld => ?_)
      clear hK K hnn hon
      show wpAnyH _ _ _ _ _ _ _ (Act.put _ (some 46) _) _
      simp only [Act.put, List.setIfInBounds_toArray, List.set_cons_zero, List.set_cons_succ]
      refine wpAnyH_take (i := 15) (v := .pointer (some ⟨cb, 0, none⟩)) rfl (by kernel_rfl) (by kernel_rfl) (by kernel_rfl) (fun _ _ _ h => h) (Or.inl ⟨by rfl, ?_⟩) (by assumption) ?_
      · intro w hSw
        go_simp
      show wpAnyH _ _ _ _ _ _ _ (Act.put _ (some 47) _) _
      simp only [Act.put, List.setIfInBounds_toArray, List.set_cons_zero, List.set_cons_succ]
      refine wpAnyH_take (i := 16) (v := .pointer (some ⟨cb, 2, none⟩)) rfl (by kernel_rfl) (by kernel_rfl) (by kernel_rfl) (fun _ _ _ h => h) (Or.inl ⟨by rfl, ?_⟩) (by assumption) ?_
      · intro w hSw
        go_simp
      show wpAnyH _ _ _ _ _ _ _ (Act.put _ (some 48) _) _
      simp only [Act.put, List.setIfInBounds_toArray, List.set_cons_zero, List.set_cons_succ]
      refine wpAnyH_ready (rs := [17]) (by kernel_rfl) (by simp) ?_
      refine AllReadyH.cons rfl (fun K hK => ?_) AllReadyH.nil
      go_simp
      refine hK.out _ _ ⟨(World.cell?_setCell_other _ _ _ _ (by intro e; injection e with e _; have := HOW.out.2.1; have := HOW.out.2.2.2; omega)).trans hHeld.1, (World.cell?_setCell_other _ _ _ _ (by intro e; injection e with e _; have := HOW.out.2.1; have := HOW.out.2.2.2; omega)).trans hHeld.2⟩ (fun _ => ?_)
      clear hK K
      refine wpAnyH_done (by kernel_rfl) ?_ _
      have HE := Lib.hid (And.intro r3 (hB0.trans r4))
      clear hown' hg' h0 hB0 r3 r4 k1 k2
      go_wp2_with fail
      go_ret
      exact ⟨rfl, _, ⟨_, _, rfl⟩, HE.out.1, HE.out.2⟩
end Go.Proofs.YtloacoalmfaceaaGreatDoor
