/-
  protocol.parseLine at an answer's line, and at any line.
-/
import Derived.Test.YtbbklideciappaaGreatDoorPqU
namespace Go.Proofs.YtbbklideciappaaGreatDoor
open Go.RowKit Go.Maps

theorem CntLe.more {p : Prot} {k : Nat} (h : CntLe p k) : CntLe p (k + 1) := ⟨by have := h.1; omega, fun q hq => by have := h.2 q hq; omega⟩
theorem no_ques {s : List UInt8} (h : ∀ r, s ≠ 63 :: 32 :: r) (t : ByteArray) : s ≠ lQues t := h _
set_option maxRecDepth 100000 in
set_option maxHeartbeats 4000000 in
theorem line_none (pb : Nat) (p : Prot) (k : Nat) (W : World) (h : PSt pb p W) (hc : CntLe p k) (s : ByteArray) (hs : ∀ r, s.data.toList ≠ 63 :: 32 :: r) (hs2 : (∀ r, s.data.toList ≠ 45 :: 32 :: r) ∨ p.qs = []) :
    Calls Tryz.prog 30 #[.pointer (some ⟨pb, 0, none⟩), .string s] W (RetLine pb p k s.data.toList W) := by
  have HCP := Lib.hid (fun X => Tryz.strings_CutPrefix s ⟨#[63, 32]⟩ X)
  have h1 : Lib.hasPrefix s.data.toList (⟨#[63, 32]⟩ : ByteArray).data.toList = false := by
    show Lib.hasPrefix s.data.toList [63, 32] = false
    rcases cut_pre 63 s.data.toList with ⟨r', e, _, _⟩ | ⟨e1, _, _⟩
    · exact absurd e (hs r')
    · exact e1
  rw [h1] at HCP
  have HCM := Lib.hid (fun X => Tryz.strings_CutPrefix s ⟨#[45, 32]⟩ X)
  obtain ⟨T1, hT1⟩ : ∃ T : ByteArray, T = ⟨(Lib.trimPrefix s.data.toList (⟨#[63, 32]⟩ : ByteArray).data.toList).toArray⟩ := ⟨_, rfl⟩
  obtain ⟨T2, hT2⟩ : ∃ T : ByteArray, T = ⟨(Lib.trimPrefix s.data.toList (⟨#[45, 32]⟩ : ByteArray).data.toList).toArray⟩ := ⟨_, rfl⟩
  rw [← hT1] at HCP
  rw [← hT2] at HCM
  have h2 := (h.cell (j := 2) (u := .slice p.qA p.qs.length p.qc) rfl).1
  have HN : Hid (∀ d, ¬ StepL (conOf p) s.data.toList d) := Lib.hid (fun d hd => by
    cases hd with
    | ques t hl _ => exact hs _ hl
    | ans x a hl _ hn =>
      rcases hs2 with q | q
      · exact q _ hl
      · exact hn (by unfold conOf; rw [q]; rfl))
  have HE := Lib.hid (And.intro h hc.more)
  by_cases hd : Lib.hasPrefix s.data.toList [45, 32] = true
  · have hq : p.qs = [] := by
      rcases hs2 with q | q
      · rcases cut_pre 45 s.data.toList with ⟨r', e, _, _⟩ | ⟨e1, _, _⟩
        · exact absurd e (q r')
        · rw [e1] at hd; cases hd
      · exact q
    have hq0 : p.qs.length = 0 := by rw [hq]; rfl
    have hd' : Lib.hasPrefix s.data.toList (⟨#[45, 32]⟩ : ByteArray).data.toList = true := hd
    rw [hd'] at HCM
    rw [hq0] at h2
    clear hd hd' hq hq0 hT1 hT2 h1 hs hs2 h hc
    go_enter Tryz.func30, Tryz.ntmps30
    go_wp2_with fail
    refine (HCP.out _).mono ?_
    rintro e w' ⟨rfl, rfl⟩
    go_wp2_with fail
    refine (HCM.out _).mono ?_
    rintro e w' ⟨rfl, rfl⟩
    go_wp2_with fail
    go_ret
    exact ⟨false, p, rfl, HE.out.1, Below.refl _ _, HE.out.2, .inr ⟨rfl, HN.out⟩⟩
  · have hd' : Lib.hasPrefix s.data.toList (⟨#[45, 32]⟩ : ByteArray).data.toList = false := by simpa using hd
    rw [hd'] at HCM
    clear hd hd' hT1 hT2 h1 hs hs2 h hc
    go_enter Tryz.func30, Tryz.ntmps30
    go_wp2_with fail
    refine (HCP.out _).mono ?_
    rintro e w' ⟨rfl, rfl⟩
    go_wp2_with fail
    refine (HCM.out _).mono ?_
    rintro e w' ⟨rfl, rfl⟩
    go_wp2_with fail
    go_ret
    exact ⟨false, p, rfl, HE.out.1, Below.refl _ _, HE.out.2, .inr ⟨rfl, HN.out⟩⟩
theorem conOf_a {p : Prot} {init : List Ques} {q : Ques} (hq : p.qs = init ++ [q]) {A : Option Addr} {c : Nat} {a : Ans} : conOf { p with qs := init ++ [⟨q.text, A, q.ans ++ [a], c⟩] } = addA (conOf p) a := by
  unfold conOf addA
  simp [conQ, hq]
theorem cnt_a {p : Prot} {k : Nat} (h : CntLe p k) {init : List Ques} {q : Ques} (hq : p.qs = init ++ [q]) (A : Option Addr) (c : Nat) (a : Ans) : CntLe { p with qs := init ++ [⟨q.text, A, q.ans ++ [a], c⟩] } (k + 1) := by
  obtain ⟨h1, h2⟩ := h
  rw [hq] at h1 h2
  refine ⟨by simp at h1 ⊢; omega, fun r hr => ?_⟩
  rcases List.mem_append.1 hr with hr | hr
  · have := h2 r (by simp [hr])
    omega
  · rw [List.mem_singleton.1 hr]
    have := h2 q (by simp)
    simp
    omega
set_option maxRecDepth 100000 in
set_option maxHeartbeats 8000000 in
theorem line_ans (pb : Nat) (p : Prot) (k : Nat) (W : World) (h : PSt pb p W) (hr : Ready W) (hc : CntLe p k) (hk : k ≤ 1000000000) (s : ByteArray) (hsz : s.size ≤ 1000000000) (r : List UInt8) (hs : s.data.toList = 45 :: 32 :: r) (init : List Ques) (q : Ques) (hq : p.qs = init ++ [q]) :
    Calls Tryz.prog 30 #[.pointer (some ⟨pb, 0, none⟩), .string s] W (RetLine pb p k s.data.toList W) := by
  have HCP := Lib.hid (fun X => Tryz.strings_CutPrefix s ⟨#[63, 32]⟩ X)
  have h1 : Lib.hasPrefix s.data.toList (⟨#[63, 32]⟩ : ByteArray).data.toList = false := by
    show Lib.hasPrefix s.data.toList [63, 32] = false
    rw [hs]
    rfl
  rw [h1] at HCP
  have HCM := Lib.hid (fun X => Tryz.strings_CutPrefix s ⟨#[45, 32]⟩ X)
  have h3 : Lib.hasPrefix s.data.toList (⟨#[45, 32]⟩ : ByteArray).data.toList = true ∧ Lib.trimPrefix s.data.toList (⟨#[45, 32]⟩ : ByteArray).data.toList = r := by
    show Lib.hasPrefix s.data.toList [45, 32] = true ∧ Lib.trimPrefix s.data.toList [45, 32] = r
    rcases cut_pre 45 s.data.toList with ⟨r', e, e1, e2⟩ | ⟨_, _, e3⟩
    · rw [hs] at e
      injection e with _ e
      injection e with _ e
      exact ⟨e1, e2.trans e.symm⟩
    · exact absurd hs (e3 r)
  rw [h3.1, h3.2] at HCM
  obtain ⟨T1, hT1⟩ : ∃ T : ByteArray, T = ⟨(Lib.trimPrefix s.data.toList (⟨#[63, 32]⟩ : ByteArray).data.toList).toArray⟩ := ⟨_, rfl⟩
  obtain ⟨T, hT⟩ : ∃ T : ByteArray, T = ⟨r.toArray⟩ := ⟨_, rfl⟩
  rw [← hT1] at HCP
  rw [← hT] at HCM
  have hTr : T.data.toList = r := by rw [hT]
  have hTs : T.size ≤ 1000000000 := by
    have e1 : T.data.toList.length = T.size := by simp
    have e2 : s.data.toList.length = s.size := by simp
    rw [hTr] at e1
    rw [hs] at e2
    simp at e2
    omega
  obtain ⟨n, hn⟩ : ∃ n, n = p.qs.length := ⟨_, rfl⟩
  have hnl : n = init.length + 1 := by rw [hn, hq]; simp
  obtain ⟨m, hm⟩ : ∃ m, m = init.length := ⟨_, rfl⟩
  have h2 := (h.cell (j := 2) (u := .slice p.qA p.qs.length p.qc) rfl).1
  rw [← hn] at h2
  have hn0 : ((n : Int) == 0) = false := by simp; omega
  have hnw : IntKind.i64.wrap ((n : Int) - 1) = (m : Int) := by
    rw [IntWalk.i64_in _ (by have := hc.1; omega)]; omega
  have hmn : (m : Int) < (n : Int) := by omega
  have hmn' : m < n := by omega
  have HPA := Lib.hid (fun X hX => parseAnswer_any T hTs X hX)
  rw [hTr] at HPA
  have HH := Lib.hid (And.intro h (And.intro hc (And.intro hk (And.intro hq (And.intro hm hs)))))
  have HR := Lib.hid hr
  have HLT := Lib.hid h.lt
  obtain ⟨qb, hqA⟩ : ∃ qb, p.qA = some ⟨qb, 0, none⟩ := by
    rcases h.qs.2 with ⟨e1, e2⟩ | ⟨qb, cap', cur, e1, hb, hh, _⟩
    · rw [hq] at e2
      simp at e2
    · injection e1 with e1 _ _
      exact ⟨qb, e1⟩
  rw [hqA] at h2
  have HQA := Lib.hid hqA
  clear hqA h hr hc hk hs hsz hq hnl hm hn hT hT1 hTr hTs h1 h3
  go_enter Tryz.func30, Tryz.ntmps30
  go_wp2_with fail
  refine (HCP.out _).mono ?_
  rintro e w' ⟨rfl, rfl⟩
  go_wp2_with fail
  refine (HCM.out _).mono ?_
  rintro e w' ⟨rfl, rfl⟩
  go_wp2_with fail
  refine (HPA.out _ HR.out).mono ?_
  rintro e W4 ⟨⟨a, ha, rfl⟩ | ⟨hno, a, rfl⟩, hb4⟩
  · obtain ⟨at_, an, au, ac⟩ := a
    have h24 := (hb4.cell (p := ⟨pb, 2, none⟩) HLT.out).trans h2
    have hnn : ¬ pb = W4.heap.size := by have := HLT.out; have := hb4.size; omega
    have hll : pb < W4.heap.size := Nat.lt_of_lt_of_le HLT.out hb4.size
    have HB4 := Lib.hid hb4
    have HA := Lib.hid ha
    clear hb4 ha h2
    simp only [ansV]
    go_wp2_with fail
    go_quiet (fail)
    go_wp2_with fail
    -- REGION 11
    have hbA := below_new W4 (.cells #[.string at_, .int .i64 an, .int .i64 au, .string ac] 45)
    have hlA := lt_new W4 (.cells #[.string at_, .int .i64 an, .int .i64 au, .string ac] 45)
    obtain ⟨g0, g1, g2, g3⟩ := fresh4 W4 (.string at_) (.int .i64 an) (.int .i64 au) (.string ac) 45
    have hBX : Below w'.heap.size w' ((W4.alloc (.cells #[.string at_, .int .i64 an, .int .i64 au, .string ac] 45)).drewN nq).drew := (below_drewN' (HB4.out.trans (hbA.mono HB4.out.size)) nq).drew
    have hgl : W4.heap.size < ((W4.alloc (.cells #[.string at_, .int .i64 an, .int .i64 au, .string ac] 45)).drewN nq).drew.heap.size := hlA
    refine wp_region_held_drew (S := (fun Y => Y.cell? ⟨W4.heap.size, 0, none⟩ = some (.string at_) ∧ Y.cell? ⟨W4.heap.size, 1, none⟩ = some (.int .i64 an) ∧ Y.cell? ⟨W4.heap.size, 2, none⟩ = some (.int .i64 au) ∧ Y.cell? ⟨W4.heap.size, 3, none⟩ = some (.string ac))) (by kernel_rfl) ⟨g0, g1, g2, g3⟩ (fun hHeld => ?_)
    obtain ⟨U0, hU0⟩ : ∃ U, U = ((W4.alloc (.cells #[.string at_, .int .i64 an, .int .i64 au, .string ac] 45)).drewN nq).drew := ⟨_, rfl⟩
    rw [← hU0] at hHeld hBX hgl ⊢
    clear hU0 g0 g1 g2 g3 hbA hlA h24 hnn hll
    obtain ⟨hP0, hC0, hk0, hq0, hm0, hs0⟩ := HH.out
    have h0 : PSt pb p U0 := hP0.next hBX
    have hqa := HQA.out
    have hqm : q ∈ p.qs := by rw [hq0]; simp
    have hansq := h0.an q hqm
    have hqlt : qb < w'.heap.size := by have := hP0.qs.lt_size qb (by rw [hqa]; rfl); exact this
    have hnq : ¬ qb = W4.heap.size := by have := HB4.out.size; omega
    have hqn : ¬ W4.heap.size = qb := fun e => hnq e.symm
    have cr0 : U0.cell? ⟨qb, m * 2 + 1, none⟩ = some (.slice q.aA q.ans.length q.ac) := by
      have h1 : p.qs[m]? = some q := by rw [hq0, hm0]; simp
      obtain ⟨b, o, e, _, _, h2, _⟩ := ques_at h0.at_ h1
      rw [hqa] at e
      injection e with e
      injection e with e1 e2
      subst e1 e2
      rw [Nat.zero_add] at h2
      exact h2
    have hqlu : qb < U0.heap.size := Nat.lt_of_lt_of_le hqlt hBX.size
    have hal : q.ans.length + 1 ≤ 549755813888 := by have := hC0.2 q hqm; omega
    have HX := Lib.hid (And.intro hP0 (And.intro hC0 (And.intro hk0 (And.intro hq0 (And.intro hm0 (And.intro hs0 hqa))))))
    have HY := Lib.hid (And.intro h0 (And.intro hansq (And.intro hal hBX)))
    have HS := Lib.hid hHeld
    clear hP0 hC0 hk0 hq0 hm0 hs0 hqa h0 hansq hal hBX hqm
    refine wpAnyH_take (i := 0) (v := .pointer (some ⟨qb, m * 2, none⟩)) rfl (by kernel_rfl) (by kernel_rfl) (by kernel_rfl) (fun _ _ _ h => h) (Or.inl ⟨by rfl, ?_⟩) (by assumption) ?_
    · intro w hSw
      go_simp
    show wpAnyH _ _ _ _ _ _ _ (Act.put _ (some 62) _) _
    simp only [Act.put, List.setIfInBounds_toArray, List.set_cons_zero, List.set_cons_succ]
    refine wpAnyH_take (i := 1) (v := .pointer (some ⟨qb, m * 2, none⟩)) rfl (by kernel_rfl) (by kernel_rfl) (by kernel_rfl) (fun _ _ _ h => h) (Or.inl ⟨by rfl, ?_⟩) (by assumption) ?_
    · intro w hSw
      go_simp
    show wpAnyH _ _ _ _ _ _ _ (Act.put _ (some 63) _) _
    simp only [Act.put, List.setIfInBounds_toArray, List.set_cons_zero, List.set_cons_succ]
    refine wpAnyH_take (i := 2) (v := .pointer (some ⟨qb, m * 2, none⟩)) rfl (by kernel_rfl) (by kernel_rfl) (by kernel_rfl) (fun _ _ _ h => h) (Or.inl ⟨by rfl, ?_⟩) (by assumption) ?_
    · intro w hSw
      go_simp
    show wpAnyH _ _ _ _ _ _ _ (Act.put _ (some 64) _) _
    simp only [Act.put, List.setIfInBounds_toArray, List.set_cons_zero, List.set_cons_succ]
    refine wpAnyH_take (i := 3) (v := .pointer (some ⟨qb, m * 2 + 1, none⟩)) rfl (by kernel_rfl) (by kernel_rfl) (by kernel_rfl) (fun _ _ _ h => h) (Or.inl ⟨by rfl, ?_⟩) (by assumption) ?_
    · intro w hSw
      go_simp
    show wpAnyH _ _ _ _ _ _ _ (Act.put _ (some 65) _) _
    simp only [Act.put, List.setIfInBounds_toArray, List.set_cons_zero, List.set_cons_succ]
    refine wpAnyH_take (i := 5) (v := .agg #[.string at_, .int .i64 an, .int .i64 au, .string ac]) rfl (by kernel_rfl) (by kernel_rfl) (by kernel_rfl) (fun _ _ _ h => h) (Or.inl ⟨by rfl, ?_⟩) (by assumption) ?_
    · intro w hSw
      obtain ⟨s0, s1, s2, s3⟩ := hSw
      go_simp
    show wpAnyH _ _ _ _ _ _ _ (Act.put _ (some 67) _) _
    simp only [Act.put, List.setIfInBounds_toArray, List.set_cons_zero, List.set_cons_succ]
    refine wpAnyH_ready (rs := [4, 6]) (by kernel_rfl) (by simp) ?_
    refine AllReadyH.cons rfl (fun K hK => ?_) (AllReadyH.cons rfl (fun K hK => ?_) AllReadyH.nil)
    · go_simp
      refine hK.out _ _ hHeld (fun hHeld => ?_)
      clear hK K
      refine wpAnyH_ready (rs := [6]) (by kernel_rfl) (by simp) ?_
      refine AllReadyH.cons rfl (fun K hK => ?_) AllReadyH.nil
      have hbz := below_new U0 (.cells #[.string at_, .int .i64 an, .int .i64 au, .string ac] 45)
      go_simp
      refine hK.out _ _ ⟨(hbz.cell (p := ⟨W4.heap.size, 0, none⟩) hgl).trans hHeld.1, (hbz.cell (p := ⟨W4.heap.size, 1, none⟩) hgl).trans hHeld.2.1, (hbz.cell (p := ⟨W4.heap.size, 2, none⟩) hgl).trans hHeld.2.2.1, (hbz.cell (p := ⟨W4.heap.size, 3, none⟩) hgl).trans hHeld.2.2.2⟩ (fun hHeld => ?_)
      clear hK K hbz
      refine wpAnyH_ready (rs := [7]) (by kernel_rfl) (by simp) ?_
      refine AllReadyH.cons rfl (fun K hK => ?_) AllReadyH.nil
      refine step_append_keep (cs := cellsA) (s := 4) _ rfl (.tmp 66) (.tmp 68) 41 (by rfl) (pb + 1) 45 Tryz.underlying41 answ_info rfl (by decide) (by decide) cellsA_len _ q.ans U0 (⟨at_, an, au, ac⟩ : Ans) (cellsA_one _) _ rfl rfl (by rfl) HY.out.2.1 U0.heap.size (by rfl) rfl HY.out.2.2.1 HY.out.1.lt ?_
      intro g cap w2 hown' hg' hat' _
      obtain ⟨qb', eqb, k1, k2, r3, r4⟩ := HY.out.1.put_a HX.out.2.2.2.1 hown' hg' hat'
      rw [HX.out.2.2.2.2.2.2] at eqb
      injection eqb with eqb
      injection eqb with eqb _
      subst eqb
      rw [← HX.out.2.2.2.2.1] at k1 k2 r3 r4
      have ho : Only (fun b => (ansSl q).ownBlock = some b) U0 w2 := Only.of_grown hg' (fun j e => e)
      have hno : ¬ (ansSl q).ownBlock = some W4.heap.size := fun e => by
        have h1 := (HX.out.1.an q (by rw [HX.out.2.2.2.1]; simp)).lt_size _ e
        have := HB4.out.size
        omega
      have HS2 := Lib.hid (show _ ∧ _ ∧ _ ∧ _ from ⟨(ho.cell (a := ⟨W4.heap.size, 0, none⟩) hgl hno).trans HS.out.1, (ho.cell (a := ⟨W4.heap.size, 1, none⟩) hgl hno).trans HS.out.2.1, (ho.cell (a := ⟨W4.heap.size, 2, none⟩) hgl hno).trans HS.out.2.2.1, (ho.cell (a := ⟨W4.heap.size, 3, none⟩) hgl hno).trans HS.out.2.2.2⟩)
      have HE := Lib.hid (And.intro r3 (HY.out.2.2.2.mono (Nat.le_of_lt HX.out.1.lt) |>.trans r4))
      clear r3 r4 hown' hg' hat' ho hno
      refine hK.out _ _ HS2.out (fun hHeld => ?_)
      clear hK K
      show wpAnyH _ _ _ _ _ _ _ (Act.put _ (some 69) _) _
      simp only [Act.put, List.setIfInBounds_toArray, List.set_cons_zero, List.set_cons_succ]
      refine wpAnyH_take (i := 8) (v := .pointer (some ⟨qb, m * 2, none⟩)) rfl (by kernel_rfl) (by kernel_rfl) (by kernel_rfl) (fun _ _ _ h => h) (Or.inl ⟨by rfl, ?_⟩) (by assumption) ?_
      · intro w hSw
        go_simp
      show wpAnyH _ _ _ _ _ _ _ (Act.put _ (some 70) _) _
      simp only [Act.put, List.setIfInBounds_toArray, List.set_cons_zero, List.set_cons_succ]
      refine wpAnyH_take (i := 9) (v := .pointer (some ⟨qb, m * 2 + 1, none⟩)) rfl (by kernel_rfl) (by kernel_rfl) (by kernel_rfl) (fun _ _ _ h => h) (Or.inl ⟨by rfl, ?_⟩) (by assumption) ?_
      · intro w hSw
        go_simp
      show wpAnyH _ _ _ _ _ _ _ (Act.put _ (some 71) _) _
      simp only [Act.put, List.setIfInBounds_toArray, List.set_cons_zero, List.set_cons_succ]
      refine wpAnyH_ready (rs := [10]) (by kernel_rfl) (by simp) ?_
      refine AllReadyH.cons rfl (fun K hK => ?_) AllReadyH.nil
      unfold ansSl at k1
      go_simp
      refine hK.out _ _ ⟨(World.cell?_setCell_other _ _ _ _ (by intro e; injection e with e _; exact hnq e)).trans hHeld.1, (World.cell?_setCell_other _ _ _ _ (by intro e; injection e with e _; exact hnq e)).trans hHeld.2.1, (World.cell?_setCell_other _ _ _ _ (by intro e; injection e with e _; exact hnq e)).trans hHeld.2.2.1, (World.cell?_setCell_other _ _ _ _ (by intro e; injection e with e _; exact hnq e)).trans hHeld.2.2.2⟩ (fun _ => ?_)
      clear hK K
      refine wpAnyH_done (by kernel_rfl) ?_ _
      clear k1 k2 hHeld
      go_wp2_with fail
      go_ret
      exact ⟨true, _, rfl, HE.out.1, HE.out.2, cnt_a HX.out.2.1 HX.out.2.2.2.1 _ _ _, .inl ⟨rfl, by rw [conOf_a HX.out.2.2.2.1]; exact .ans r _ HX.out.2.2.2.2.2.1 HA.out (by unfold conOf; rw [HX.out.2.2.2.1]; simp)⟩⟩
    · have hbz := below_new U0 (.cells #[.string at_, .int .i64 an, .int .i64 au, .string ac] 45)
      go_simp
      refine hK.out _ _ ⟨(hbz.cell (p := ⟨W4.heap.size, 0, none⟩) hgl).trans hHeld.1, (hbz.cell (p := ⟨W4.heap.size, 1, none⟩) hgl).trans hHeld.2.1, (hbz.cell (p := ⟨W4.heap.size, 2, none⟩) hgl).trans hHeld.2.2.1, (hbz.cell (p := ⟨W4.heap.size, 3, none⟩) hgl).trans hHeld.2.2.2⟩ (fun hHeld => ?_)
      clear hK K
      refine wpAnyH_ready (rs := [4]) (by kernel_rfl) (by simp) ?_
      refine AllReadyH.cons rfl (fun K hK => ?_) AllReadyH.nil
      have cr1 := (hbz.cell (p := ⟨qb, m * 2 + 1, none⟩) hqlu).trans cr0
      go_simp
      refine hK.out _ _ hHeld (fun hHeld => ?_)
      clear hK K cr1 hbz
      refine wpAnyH_ready (rs := [7]) (by kernel_rfl) (by simp) ?_
      refine AllReadyH.cons rfl (fun K hK => ?_) AllReadyH.nil
      refine step_append_keep (cs := cellsA) (s := 4) _ rfl (.tmp 66) (.tmp 68) 41 (by rfl) (pb + 1) 45 Tryz.underlying41 answ_info rfl (by decide) (by decide) cellsA_len _ q.ans U0 (⟨at_, an, au, ac⟩ : Ans) (cellsA_one _) _ rfl rfl (by rfl) HY.out.2.1 U0.heap.size (by rfl) rfl HY.out.2.2.1 HY.out.1.lt ?_
      intro g cap w2 hown' hg' hat' _
      obtain ⟨qb', eqb, k1, k2, r3, r4⟩ := HY.out.1.put_a HX.out.2.2.2.1 hown' hg' hat'
      rw [HX.out.2.2.2.2.2.2] at eqb
      injection eqb with eqb
      injection eqb with eqb _
      subst eqb
      rw [← HX.out.2.2.2.2.1] at k1 k2 r3 r4
      have ho : Only (fun b => (ansSl q).ownBlock = some b) U0 w2 := Only.of_grown hg' (fun j e => e)
      have hno : ¬ (ansSl q).ownBlock = some W4.heap.size := fun e => by
        have h1 := (HX.out.1.an q (by rw [HX.out.2.2.2.1]; simp)).lt_size _ e
        have := HB4.out.size
        omega
      have HS2 := Lib.hid (show _ ∧ _ ∧ _ ∧ _ from ⟨(ho.cell (a := ⟨W4.heap.size, 0, none⟩) hgl hno).trans HS.out.1, (ho.cell (a := ⟨W4.heap.size, 1, none⟩) hgl hno).trans HS.out.2.1, (ho.cell (a := ⟨W4.heap.size, 2, none⟩) hgl hno).trans HS.out.2.2.1, (ho.cell (a := ⟨W4.heap.size, 3, none⟩) hgl hno).trans HS.out.2.2.2⟩)
      have HE := Lib.hid (And.intro r3 (HY.out.2.2.2.mono (Nat.le_of_lt HX.out.1.lt) |>.trans r4))
      clear r3 r4 hown' hg' hat' ho hno
      refine hK.out _ _ HS2.out (fun hHeld => ?_)
      clear hK K
      show wpAnyH _ _ _ _ _ _ _ (Act.put _ (some 69) _) _
      simp only [Act.put, List.setIfInBounds_toArray, List.set_cons_zero, List.set_cons_succ]
      refine wpAnyH_take (i := 8) (v := .pointer (some ⟨qb, m * 2, none⟩)) rfl (by kernel_rfl) (by kernel_rfl) (by kernel_rfl) (fun _ _ _ h => h) (Or.inl ⟨by rfl, ?_⟩) (by assumption) ?_
      · intro w hSw
        go_simp
      show wpAnyH _ _ _ _ _ _ _ (Act.put _ (some 70) _) _
      simp only [Act.put, List.setIfInBounds_toArray, List.set_cons_zero, List.set_cons_succ]
      refine wpAnyH_take (i := 9) (v := .pointer (some ⟨qb, m * 2 + 1, none⟩)) rfl (by kernel_rfl) (by kernel_rfl) (by kernel_rfl) (fun _ _ _ h => h) (Or.inl ⟨by rfl, ?_⟩) (by assumption) ?_
      · intro w hSw
        go_simp
      show wpAnyH _ _ _ _ _ _ _ (Act.put _ (some 71) _) _
      simp only [Act.put, List.setIfInBounds_toArray, List.set_cons_zero, List.set_cons_succ]
      refine wpAnyH_ready (rs := [10]) (by kernel_rfl) (by simp) ?_
      refine AllReadyH.cons rfl (fun K hK => ?_) AllReadyH.nil
      unfold ansSl at k1
      go_simp
      refine hK.out _ _ ⟨(World.cell?_setCell_other _ _ _ _ (by intro e; injection e with e _; exact hnq e)).trans hHeld.1, (World.cell?_setCell_other _ _ _ _ (by intro e; injection e with e _; exact hnq e)).trans hHeld.2.1, (World.cell?_setCell_other _ _ _ _ (by intro e; injection e with e _; exact hnq e)).trans hHeld.2.2.1, (World.cell?_setCell_other _ _ _ _ (by intro e; injection e with e _; exact hnq e)).trans hHeld.2.2.2⟩ (fun _ => ?_)
      clear hK K
      refine wpAnyH_done (by kernel_rfl) ?_ _
      clear k1 k2 hHeld
      go_wp2_with fail
      go_ret
      exact ⟨true, _, rfl, HE.out.1, HE.out.2, cnt_a HX.out.2.1 HX.out.2.2.2.1 _ _ _, .inl ⟨rfl, by rw [conOf_a HX.out.2.2.2.1]; exact .ans r _ HX.out.2.2.2.2.2.1 HA.out (by unfold conOf; rw [HX.out.2.2.2.1]; simp)⟩⟩
  -- END OF REGION 11
  · have h24 := (hb4.cell (p := ⟨pb, 2, none⟩) HLT.out).trans h2
    have HB4 := Lib.hid hb4
    have HN : Hid (∀ d, ¬ StepL (conOf p) s.data.toList d) := Lib.hid (fun d hd => by
      rw [HH.out.2.2.2.2.2] at hd
      cases hd with
      | ques t hl _ => unfold lQues at hl; injection hl with hl _; cases hl
      | ans x b hl hb _ =>
        injection hl with _ hl
        injection hl with _ hl
        subst hl
        exact hno b hb)
    obtain ⟨at_, an, au, ac⟩ := a
    have hbA := below_new W4 (.cells #[.string at_, .int .i64 an, .int .i64 au, .string ac] 45)
    have HBA := Lib.hid (HB4.out.trans (hbA.mono HB4.out.size))
    clear hb4 h2 hno hbA
    simp only [ansV]
    go_wp2_with fail
    go_ret
    exact ⟨false, p, rfl, HH.out.1.next HBA.out, HBA.out.mono (Nat.le_of_lt HLT.out), HH.out.2.1.more, .inr ⟨rfl, HN.out⟩⟩
theorem parseLine_any (pb : Nat) (p : Prot) (k : Nat) (W : World) (h : PSt pb p W) (hr : Ready W) (hc : CntLe p k) (hk : k ≤ 1000000000) (s : ByteArray) (hsz : s.size ≤ 1000000000) :
    Calls Tryz.prog 30 #[.pointer (some ⟨pb, 0, none⟩), .string s] W (RetLine pb p k s.data.toList W) := by
  rcases cut_pre 63 s.data.toList with ⟨r, e, _, _⟩ | ⟨_, _, h1⟩
  · exact line_ques pb p k W h hc hk s r e
  · rcases cut_pre 45 s.data.toList with ⟨r, e, _, _⟩ | ⟨_, _, h2⟩
    · rcases List.eq_nil_or_concat p.qs with hq | ⟨init, q, hq⟩
      · exact line_none pb p k W h hc s h1 (.inr hq)
      · exact line_ans pb p k W h hr hc hk s hsz r e init q (by rw [hq, List.concat_eq_append])
    · exact line_none pb p k W h hc s h1 (.inl h2)
end Go.Proofs.YtbbklideciappaaGreatDoor
