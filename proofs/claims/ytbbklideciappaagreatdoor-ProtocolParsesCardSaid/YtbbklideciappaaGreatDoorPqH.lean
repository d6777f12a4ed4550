/-
  protocol.Format (printed by genpqh.py).
-/
import Derived.Test.YtbbklideciappaaGreatDoorPqHB
import Derived.Test.YtbbklideciappaaGreatDoorPqD
import Derived.Deep.RegionHeld3
namespace Go.Proofs.YtbbklideciappaaGreatDoor
open Go.RowKit Go.Maps

/-- what Format returns. -/
def FmtOf (p : Prot) (s : ByteArray) (b : Int) : Prop := (ProtOk p ∧ s = bs (textP p) ∧ b = 0) ∨ (¬ ProtOk p ∧ s = ⟨#[]⟩ ∧ b = 1)
theorem head_bs {n D : ByteArray} {v : Int} (hD : D = bs (dec v)) : ((((⟨#[112, 114, 111, 116, 111, 99, 111, 108, 32]⟩ ++ n) ++ ⟨#[32]⟩) ++ D) ++ ⟨#[10]⟩ : ByteArray) = bs (lHead n v ++ [10]) := by
  subst hD
  rw [bs_of n, show (⟨#[112, 114, 111, 116, 111, 99, 111, 108, 32]⟩ : ByteArray) = bs (wProt ++ [32]) from rfl, show (⟨#[32]⟩ : ByteArray) = bs [32] from rfl, show (⟨#[10]⟩ : ByteArray) = bs [10] from rfl]
  simp only [bs_append, bs_data, lHead, List.append_assoc]
theorem ques_bs (t : ByteArray) : ((⟨#[63, 32]⟩ ++ t) ++ ⟨#[10]⟩ : ByteArray) = bs (lQues t ++ [10]) := by
  rw [bs_of t, show (⟨#[63, 32]⟩ : ByteArray) = bs [63, 32] from rfl, show (⟨#[10]⟩ : ByteArray) = bs [10] from rfl]
  simp only [bs_append, bs_data, lQues, List.append_assoc]
  rfl
theorem gt_bs {a : Ans} {t D : ByteArray} (ht : t = a.text) (hn : 0 ≤ a.next) (hD : D = bs (dec a.next)) : ((((⟨#[45, 32]⟩ ++ t) ++ ⟨#[32, 62, 32]⟩) ++ D) ++ ⟨#[10]⟩ : ByteArray) = bs (lAns a ++ [10]) := by
  subst hD ht
  unfold lAns bodyA tailA
  rw [if_pos hn, bs_of a.text, show (⟨#[45, 32]⟩ : ByteArray) = bs [45, 32] from rfl, show (⟨#[32, 62, 32]⟩ : ByteArray) = bs [32, 62, 32] from rfl, show (⟨#[10]⟩ : ByteArray) = bs [10] from rfl]
  simp only [bs_append, bs_data, List.append_assoc, List.cons_append, List.nil_append]
theorem eq_bs {a : Ans} {t D c : ByteArray} (ht : t = a.text) (hc : c = a.code) (hn : ¬ 0 ≤ a.next) (hD : D = bs (dec a.urg)) : ((((((⟨#[45, 32]⟩ ++ t) ++ ⟨#[32, 61, 32]⟩) ++ D) ++ ⟨#[32]⟩) ++ c) ++ ⟨#[10]⟩ : ByteArray) = bs (lAns a ++ [10]) := by
  subst hD ht hc
  unfold lAns bodyA tailA
  rw [if_neg hn, bs_of a.text, bs_of a.code, show (⟨#[45, 32]⟩ : ByteArray) = bs [45, 32] from rfl, show (⟨#[32, 61, 32]⟩ : ByteArray) = bs [32, 61, 32] from rfl, show (⟨#[32]⟩ : ByteArray) = bs [32] from rfl, show (⟨#[10]⟩ : ByteArray) = bs [10] from rfl]
  simp only [bs_append, bs_data, List.append_assoc, List.cons_append, List.nil_append]
set_option maxRecDepth 100000 in
set_option maxHeartbeats 4000000 in
theorem format_bad (w : World) (p : Prot) (h : ProtAt w w.heap.size p) (hwf : p.qs.length ≤ 9223372036854775807) (hn : ¬ ProtOk p) :
    Calls Tryz.prog 18 #[.agg #[.string p.name, .int .i64 p.ver, .slice p.qA p.qs.length p.qc]] w fun e w' => e = .returned (.tuple #[.string ⟨#[]⟩, .int .i64 1]) ∧ Below w.heap.size w w' := by
  have hb0 := below_new w (.cells #[.string p.name, .int .i64 p.ver, .slice p.qA p.qs.length p.qc] 24)
  obtain ⟨f0, f1, f2⟩ := fresh3 w (.string p.name) (.int .i64 p.ver) (.slice p.qA p.qs.length p.qc) 24
  obtain ⟨W0, hW0⟩ : ∃ W0, W0 = w.alloc (.cells #[.string p.name, .int .i64 p.ver, .slice p.qA p.qs.length p.qc] 24) := ⟨_, rfl⟩
  rw [← hW0] at hb0 f0 f1 f2
  have HV := Lib.hid (validate_any W0 p ((h.below hb0).more hb0.size) hwf)
  have HB := Lib.hid hb0
  have HN := Lib.hid hn
  clear h hwf hn hb0
  go_enter Tryz.func18, Tryz.ntmps18
  go_wp2_with fail
  rw [← hW0]
  clear hW0
  refine HV.out.mono ?_
  rintro e W1 ⟨a, b, hs, rfl, hb1⟩
  obtain rfl : b = 1 := by
    rcases hs.two with q | q
    · exact absurd (hs.ok.1 q) HN.out
    · exact q
  have HB1 := Lib.hid (HB.out.trans (hb1.mono HB.out.size))
  clear hs hb1 f0 f1 f2
  go_wp2_with fail
  go_ret2
  exact ⟨rfl, HB1.out⟩
set_option maxRecDepth 100000 in
set_option maxHeartbeats 16000000 in
theorem format_ok (w : World) (p : Prot) (h : ProtAt w w.heap.size p) (hwf : p.qs.length ≤ 9223372036854775807) (hok : ProtOk p) (hr : Ready w) :
    Calls Tryz.prog 18 #[.agg #[.string p.name, .int .i64 p.ver, .slice p.qA p.qs.length p.qc]] w fun e w' => e = .returned (.tuple #[.string (bs (textP p)), .int .i64 0]) ∧ Below w.heap.size w w' := by
  obtain ⟨m, hm⟩ : ∃ m, m = p.qs.length := ⟨_, rfl⟩
  have hml : m ≤ 64 := by have := hok.1.2.2.2; omega
  obtain ⟨nm, hnm⟩ : ∃ x, x = p.name := ⟨_, rfl⟩
  have hnml : nm.size ≤ 40 := by rw [hnm]; exact hok.1.1.1.2
  obtain ⟨D, hD⟩ : ∃ x, x = bs (dec p.ver) := ⟨_, rfl⟩
  have hDl : D.size ≤ 20 := by
    have h1 := dec_len (z := p.ver) (by have := hok.1.2.1.2; omega)
    rw [hD, bs_size]
    omega
  have hver : 1 ≤ p.ver ∧ p.ver ≤ 1048576 := hok.1.2.1
  obtain ⟨vr, hvr⟩ : ∃ x, x = p.ver := ⟨_, rfl⟩
  have HN := Lib.hid (And.intro hm (And.intro hnm (And.intro hD hvr)))
  have hb0 := below_new w (.cells #[.string nm, .int .i64 vr, .slice p.qA m p.qc] 24)
  obtain ⟨f0, f1, f2⟩ := fresh3 w (.string nm) (.int .i64 vr) (.slice p.qA m p.qc) 24
  have hz0 := lt_new w (.cells #[.string nm, .int .i64 vr, .slice p.qA m p.qc] 24)
  obtain ⟨W0, hW0⟩ : ∃ W0, W0 = w.alloc (.cells #[.string nm, .int .i64 vr, .slice p.qA m p.qc] 24) := ⟨_, rfl⟩
  have hrow0 := new_obj w (.cells #[.string nm, .int .i64 vr, .slice p.qA m p.qc] 24)
  rw [← hW0] at hb0 f0 f1 f2 hz0 hrow0
  have hv := validate_any W0 p ((h.below hb0).more hb0.size) hwf
  rw [← hm, ← hnm, ← hvr] at hv ⊢
  have HV := Lib.hid hv
  have HB := Lib.hid hb0
  have HOK := Lib.hid hok
  have HAT := Lib.hid ((h.below hb0).more hb0.size)
  have HR0 := Lib.hid hr
  have HIT : Hid (∀ Y, Ready Y → Calls Tryz.prog 36 #[.int .i64 vr] Y fun e w' => e = .returned (.string D) ∧ Below Y.heap.size Y w') := Lib.hid (fun Y hY => by
    have h1 := itoaZ_any vr (by omega) (by omega) Y hY
    rw [show dec vr = dec p.ver from by rw [hvr], ← hD] at h1
    exact h1)
  clear h hwf hok hb0 hv hr hm hnm hD hvr hver
  go_enter Tryz.func18, Tryz.ntmps18
  go_wp2_with fail
  rw [← hW0]
  clear hW0
  refine HV.out.mono ?_
  rintro e W1 ⟨a, b, hs, rfl, hb1⟩
  obtain rfl : b = 0 := hs.ok.2 HOK.out
  have HB1 := Lib.hid (HB.out.trans (hb1.mono HB.out.size))
  have HAT1 := Lib.hid ((HAT.out.below hb1).more hb1.size)
  have hz1 : w.heap.size < W1.heap.size := Nat.lt_of_lt_of_le hz0 hb1.size
  have HRW : Hid (∀ Y, Below W1.heap.size W1 Y → Ready Y) := Lib.hid (fun Y hY => HR0.out.below (HB1.out.trans (hY.mono HB1.out.size)))
  have hrow1 := (hb1.block w.heap.size hz0).trans hrow0
  have HF0 := Lib.hid (FB.start W1)
  have hbx := below_new W1 (.cells #[.pointer none, .slice none 0 0] 61)
  obtain ⟨X1, hX1⟩ : ∃ X1, X1 = W1.alloc (.cells #[.pointer none, .slice none 0 0] 61) := ⟨_, rfl⟩
  rw [← hX1] at HF0 hbx
  have HBX := Lib.hid hbx
  have HROW := Lib.hid ((hbx.block _ hz1).trans hrow1)
  have HNE := Lib.hid (show w.heap.size ≠ W1.heap.size by omega)
  have hzx : w.heap.size < X1.heap.size := Nat.lt_of_lt_of_le hz1 hbx.size
  clear hs hb1 f0 f1 f2 hbx HV hrow0 hrow1
  go_wp2_with fail
  rw [← hX1]
  clear hX1
  obtain ⟨V1, hV1⟩ : ∃ V, V = ⟨#[112, 114, 111, 116, 111, 99, 111, 108, 32]⟩ ++ nm := ⟨_, rfl⟩
  have zV1 : V1.size ≤ 49 := by rw [hV1, ByteArray.size_append]; first | omega | (show 9 + nm.size ≤ _; omega)
  have nV1 : ¬ 9223372036854775807 < 9 + nm.size := by omega
  obtain ⟨V2, hV2⟩ : ∃ V, V = V1 ++ ⟨#[32]⟩ := ⟨_, rfl⟩
  have zV2 : V2.size ≤ 50 := by rw [hV2, ByteArray.size_append]; first | omega | (show V1.size + 1 ≤ _; omega)
  have nV2 : ¬ 9223372036854775807 < V1.size + 1 := by omega
  obtain ⟨V3, hV3⟩ : ∃ V, V = V2 ++ D := ⟨_, rfl⟩
  have zV3 : V3.size ≤ 70 := by rw [hV3, ByteArray.size_append]; first | omega | (show V2.size + D.size ≤ _; omega)
  have nV3 : ¬ 9223372036854775807 < V2.size + D.size := by omega
  obtain ⟨V4, hV4⟩ : ∃ V, V = V3 ++ ⟨#[10]⟩ := ⟨_, rfl⟩
  have zV4 : V4.size ≤ 71 := by rw [hV4, ByteArray.size_append]; first | omega | (show V3.size + 1 ≤ _; omega)
  have nV4 : ¬ 9223372036854775807 < V3.size + 1 := by omega
  have HV := Lib.hid (show V4 = bs (lHead nm p.ver ++ [10]) from by rw [hV4, hV3, hV2, hV1]; exact head_bs HN.out.2.2.1)
  replace hV1 := hV1.symm
  replace hV2 := hV2.symm
  replace hV3 := hV3.symm
  replace hV4 := hV4.symm
  refine wp_region_held_drew (S := fun Y => Y.heap[w.heap.size]? = some (.cells #[.string nm, .int .i64 vr, .slice p.qA m p.qc] 24 (0, 0))) (by kernel_rfl) HROW.out (fun hHeld => ?_)
  have HF1 := Lib.hid (HF0.out.drew)
  have HB3 := Lib.hid (show Below W1.heap.size W1 X1.drew from HBX.out.drew)
  have gl : w.heap.size < X1.drew.heap.size := hzx
  obtain ⟨U0, hU0⟩ : ∃ U, U = X1.drew := ⟨_, rfl⟩
  rw [← hU0] at hHeld HF1 HB3 gl ⊢
  clear hU0
  refine wpAnyH_take (i := 0) (v := .pointer (some ⟨w.heap.size, 0, none⟩)) rfl (by kernel_rfl) (by kernel_rfl) (by kernel_rfl) (fun _ _ _ h => h) (Or.inl ⟨by rfl, ?_⟩) (by assumption) ?_
  · intro w hSw
    go_simp
  show wpAnyH _ _ _ _ _ _ _ (Act.put _ (some 19) _) _
  simp only [Act.put, List.setIfInBounds_toArray, List.set_cons_zero, List.set_cons_succ]
  refine wpAnyH_take (i := 1) (v := .string nm) rfl (by kernel_rfl) (by kernel_rfl) (by kernel_rfl) (fun _ _ _ h => h) (Or.inl ⟨by rfl, ?_⟩) (by assumption) ?_
  · intro w hSw
    have s0 := (cell_of_row _ _ 0 _ _ _ hSw).trans (rfl : _ = some (Value.string nm))
    go_simp
  show wpAnyH _ _ _ _ _ _ _ (Act.put _ (some 20) _) _
  simp only [Act.put, List.setIfInBounds_toArray, List.set_cons_zero, List.set_cons_succ]
  refine wpAnyH_take (i := 2) (v := .string V1) rfl (by kernel_rfl) (by kernel_rfl) (by kernel_rfl) (fun _ _ _ h => h) (Or.inl ⟨by rfl, ?_⟩) (by assumption) ?_
  · intro w hSw
    go_simp
  show wpAnyH _ _ _ _ _ _ _ (Act.put _ (some 21) _) _
  simp only [Act.put, List.setIfInBounds_toArray, List.set_cons_zero, List.set_cons_succ]
  refine wpAnyH_take (i := 3) (v := .string V2) rfl (by kernel_rfl) (by kernel_rfl) (by kernel_rfl) (fun _ _ _ h => h) (Or.inl ⟨by rfl, ?_⟩) (by assumption) ?_
  · intro w hSw
    go_simp
  show wpAnyH _ _ _ _ _ _ _ (Act.put _ (some 22) _) _
  simp only [Act.put, List.setIfInBounds_toArray, List.set_cons_zero, List.set_cons_succ]
  refine wpAnyH_take (i := 4) (v := .pointer (some ⟨w.heap.size, 1, none⟩)) rfl (by kernel_rfl) (by kernel_rfl) (by kernel_rfl) (fun _ _ _ h => h) (Or.inl ⟨by rfl, ?_⟩) (by assumption) ?_
  · intro w hSw
    go_simp
  show wpAnyH _ _ _ _ _ _ _ (Act.put _ (some 23) _) _
  simp only [Act.put, List.setIfInBounds_toArray, List.set_cons_zero, List.set_cons_succ]
  refine wpAnyH_take (i := 5) (v := .int .i64 vr) rfl (by kernel_rfl) (by kernel_rfl) (by kernel_rfl) (fun _ _ _ h => h) (Or.inl ⟨by rfl, ?_⟩) (by assumption) ?_
  · intro w hSw
    have s0 := (cell_of_row _ _ 1 _ _ _ hSw).trans (rfl : _ = some (Value.int .i64 vr))
    go_simp
  show wpAnyH _ _ _ _ _ _ _ (Act.put _ (some 24) _) _
  simp only [Act.put, List.setIfInBounds_toArray, List.set_cons_zero, List.set_cons_succ]
  refine wpAnyH_ready (rs := [6]) (by kernel_rfl) (by simp) ?_
  refine AllReadyH.cons rfl (fun K hK => ?_) AllReadyH.nil
  go_simp
  refine (HIT.out U0 (HRW.out _ HB3.out)).mono ?_
  rintro e U1 ⟨rfl, hbk⟩
  go_simp
  refine hK.out _ _ ((hbk.block _ gl).trans hHeld) (fun hHeld => ?_)
  clear hK K
  have HF2 := Lib.hid (HF1.out.next hbk)
  clear hbk
  refine wpAnyH_take (i := 7) (v := .string V3) rfl (by kernel_rfl) (by kernel_rfl) (by kernel_rfl) (fun _ _ _ h => h) (Or.inl ⟨by rfl, ?_⟩) (by assumption) ?_
  · intro w hSw
    go_simp
  show wpAnyH _ _ _ _ _ _ _ (Act.put _ (some 26) _) _
  simp only [Act.put, List.setIfInBounds_toArray, List.set_cons_zero, List.set_cons_succ]
  refine wpAnyH_take (i := 8) (v := .string V4) rfl (by kernel_rfl) (by kernel_rfl) (by kernel_rfl) (fun _ _ _ h => h) (Or.inl ⟨by rfl, ?_⟩) (by assumption) ?_
  · intro w hSw
    go_simp
  show wpAnyH _ _ _ _ _ _ _ (Act.put _ (some 27) _) _
  simp only [Act.put, List.setIfInBounds_toArray, List.set_cons_zero, List.set_cons_succ]
  refine wpAnyH_ready (rs := [9]) (by kernel_rfl) (by simp) ?_
  refine AllReadyH.cons rfl (fun K hK => ?_) AllReadyH.nil
  go_simp
  refine (write_fb HF2.out _ (lHead nm p.ver ++ [10]) HV.out (by have h1 := congrArg ByteArray.size HV.out; rw [bs_size] at h1; simp only [List.length_nil]; omega)).mono ?_
  rintro e U2 ⟨rfl, hfb, hkp, hbw⟩
  go_simp
  refine hK.out _ _ ((hkp _ _ _ _ hHeld HNE.out (by decide)).trans hHeld) (fun hHeld => ?_)
  clear hK K
  have HF3 := Lib.hid hfb
  clear hfb hkp hbw
  refine wpAnyH_done (by kernel_rfl) ?_ _
  clear hV1
  clear hV2
  clear hV3
  clear hV4
  have HB5 := Lib.hid (show Below W1.heap.size W1 U2 from HF3.out.below)
  have g2 : U2.cell? ⟨w.heap.size, 2, none⟩ = some (.slice p.qA m p.qc) := cell_of_row U2 w.heap.size 2 _ _ _ hHeld
  have HFS := Lib.hid (show FB (preP p 0) W1 U2 from by rw [preP_zero, ← HN.out.2.1]; have h1 := HF3.out; rwa [List.nil_append] at h1)
  clear hHeld HROW
  go_wp2_with fail
  clear g2
  go_loopw [32] (fun i X => ∃ k : Nat, k ≤ m ∧ i = .int .i64 k ∧ FB (preP p k) W1 X) (fun i _ => m - (intOf i).toNat)
  case atStart => exact ⟨0, Nat.zero_le _, rfl, HFS.out⟩
  case round =>
    obtain ⟨k, hk, rfl, hf⟩ := hrel
    have HFK := Lib.hid hf
    by_cases hlt : k < m
    · have hlt' : (k : Int) < (m : Int) := by omega
      obtain ⟨q, hq⟩ : ∃ q, p.qs[k]? = some q := ⟨p.qs[k]'(by have := HN.out.1; omega), by simp⟩
      obtain ⟨b, o, hA, hbb, q0, q1, hrec⟩ := ques_at (ProtAt.below HAT1.out hf.below) hq
      rw [hA]
      have HQ := Lib.hid hq
      have hqok := HOK.out.2 q (List.mem_of_getElem? hq)
      have HQOK := Lib.hid hqok
      obtain ⟨T, hT⟩ : ∃ x, x = q.text := ⟨_, rfl⟩
      have hTl : T.size ≤ 200 := by rw [hT]; exact hqok.1.1.1.2
      obtain ⟨l, hl⟩ : ∃ x, x = q.ans.length := ⟨_, rfl⟩
      have hll : l ≤ 16 := by rw [hl]; exact hqok.2.1.2
      have HT := Lib.hid (And.intro hT hl)
      rw [← hT] at q0
      rw [← hl] at q1
      have hbq := below_new wr (.cells #[.string T, .slice q.aA l q.ac] 43)
      obtain ⟨g0, g1⟩ := fresh2 wr (.string T) (.slice q.aA l q.ac) 43
      have ho := new_obj wr (.cells #[.string T, .slice q.aA l q.ac] 43)
      obtain ⟨W2, hW2⟩ : ∃ W2, W2 = wr.alloc (.cells #[.string T, .slice q.aA l q.ac] 43) := ⟨_, rfl⟩
      rw [← hW2] at hbq g0 g1 ho
      have HF2 := Lib.hid (hf.next hbq)
      have HO := Lib.hid ho
      have HREC := Lib.hid hrec
      have hne : ¬ wr.heap.size = W1.heap.size := by have := hf.lt; omega
      have HNE := Lib.hid hne
      have hzw : wr.heap.size < W2.heap.size := by rw [hW2]; exact lt_new _ _
      obtain ⟨V1, hV1⟩ : ∃ V, V = (⟨#[63, 32]⟩ ++ T : ByteArray) := ⟨_, rfl⟩
      have zV1 : V1.size ≤ 202 := by rw [hV1, ByteArray.size_append]; show 2 + _ ≤ _; omega
      have nV1 : ¬ 9223372036854775807 < 2 + T.size := by omega
      obtain ⟨V2, hV2⟩ : ∃ V, V = V1 ++ (⟨#[10]⟩ : ByteArray) := ⟨_, rfl⟩
      have nV2 : ¬ 9223372036854775807 < V1.size + 1 := by omega
      have HW := Lib.hid (write_fb HF2.out V2 (lQues q.text ++ [10]) (by rw [hV2, hV1, hT]; exact ques_bs _) (by
        have h1 := preP_len HOK.out k
        have h2 : (lQues q.text).length ≤ 300 := by unfold lQues; simp only [List.length_cons, size_len]; rw [← hT]; omega
        simp only [List.length_append, List.length_cons, List.length_nil]
        omega))
      replace hV1 := hV1.symm
      replace hV2 := hV2.symm
      clear hq hA hbb hrec hqok hT hl hf hbq ho hne
      go_wp2_with fail
      rw [← hW2]
      clear hW2
      refine HW.out.mono ?_
      rintro e w3 ⟨rfl, hf3, hkp, hbw⟩
      have ho3 := (hkp _ _ _ _ HO.out HNE.out (by decide)).trans HO.out
      have g1' : w3.cell? ⟨wr.heap.size, 1, none⟩ = some (.slice q.aA l q.ac) := cell_of_row w3 wr.heap.size 1 _ _ _ ho3
      have HF3' := Lib.hid hf3
      have HF4 := Lib.hid (show FB (preA p k q 0) W1 w3 from by rw [preA_zero]; exact hf3)
      clear hf3 hkp hbw ho3 g0 g1 hV1 hV2 HW
      go_wp2_with fail
      clear g1'
      go_loopw [44] (fun i X => ∃ j : Nat, j ≤ l ∧ i = .int .i64 j ∧ FB (preA p k q j) W1 X) (fun i _ => l - (intOf i).toNat)
      case atStart => exact ⟨0, Nat.zero_le _, rfl, HF4.out⟩
      case round =>
        obtain ⟨j, hj, rfl, hfj⟩ := hrel
        by_cases hjl : j < l
        · have hjl' : (j : Int) < (l : Int) := by omega
          obtain ⟨a, ha⟩ : ∃ a, q.ans[j]? = some a := ⟨q.ans[j]'(by have := HT.out.2; omega), by simp⟩
          obtain ⟨b2, o2, hA2, hbb2, q0, q1, q2, q3⟩ := ans_at (RecsAt.below ((ProtAt.below HAT1.out hfj.below).ans q (List.mem_of_getElem? HQ.out)) (Below.refl _ _)) ha
          rw [hA2]
          have hao := ok_ans HOK.out (List.mem_of_getElem? HQ.out) (List.mem_of_getElem? ha)
          have HA := Lib.hid ha
          have HAO := Lib.hid hao
          obtain ⟨T2, hT2⟩ : ∃ x, x = a.text := ⟨_, rfl⟩
          have hT2l : T2.size ≤ 100 := by rw [hT2]; exact hao.1.1.1.2
          have hbl := body_len hao
          have hlb : (preA p k q j).length + (lAns a ++ [10]).length ≤ 100000000 := by
            have h1 := preA_len HOK.out HQ.out j
            unfold lAns
            simp only [List.length_append, List.length_cons, List.length_nil]
            omega
          have HLB := Lib.hid hlb
          rw [← hT2] at q0
          have hbq := below_new wr (.cells #[.string T2, .int .i64 a.next, .int .i64 a.urg, .string a.code] 45)
          obtain ⟨g0, g1, g2, g3⟩ := fresh4 wr (.string T2) (.int .i64 a.next) (.int .i64 a.urg) (.string a.code) 45
          have ho := new_obj wr (.cells #[.string T2, .int .i64 a.next, .int .i64 a.urg, .string a.code] 45)
          have hgl := lt_new wr (.cells #[.string T2, .int .i64 a.next, .int .i64 a.urg, .string a.code] 45)
          obtain ⟨W4, hW4⟩ : ∃ W4, W4 = wr.alloc (.cells #[.string T2, .int .i64 a.next, .int .i64 a.urg, .string a.code] 45) := ⟨_, rfl⟩
          rw [← hW4] at hbq g0 g1 g2 g3 ho hgl
          have HF5 := Lib.hid (hfj.next hbq)
          have HB5 := Lib.hid (hfj.below.trans (hbq.mono hfj.below.size))
          have HROW := Lib.hid ho
          have HNE := Lib.hid (show wr.heap.size ≠ W1.heap.size by have := hfj.lt; omega)
          have HTX := Lib.hid hT2
          clear ha hA2 hbb2 hao hT2 hbl hlb hfj hbq ho hlt hjl'
          by_cases hn : 0 ≤ a.next
          · obtain ⟨D2, hD2⟩ : ∃ x, x = bs (dec a.next) := ⟨_, rfl⟩
            have hnx : 0 ≤ a.next ∧ a.next < 64 := by
              rcases HAO.out.2 with q | q
              · omega
              · exact q.1
            have hD2l : D2.size ≤ 20 := by
              have h1 := dec_len (z := a.next) (by omega)
              rw [hD2, bs_size]
              omega
            have HIT2 : Hid (∀ Y, Ready Y → Calls Tryz.prog 36 #[.int .i64 a.next] Y fun e w' => e = .returned (.string D2) ∧ Below Y.heap.size Y w') := Lib.hid (fun Y hY => by
              have h1 := itoaZ_any a.next (by omega) (by omega) Y hY
              rw [← hD2] at h1
              exact h1)
            have HD2 := Lib.hid hD2
            have HN2 := Lib.hid hn
            clear hD2 hnx
            have dn : decide (a.next ≥ 0) = true := decide_eq_true hn
            go_wp2_with fail
            rw [← hW4]
            clear hW4 q0 q1 q2 q3 g0 g1 g2 g3
            obtain ⟨V1, hV1⟩ : ∃ V, V = ⟨#[45, 32]⟩ ++ T2 := ⟨_, rfl⟩
            have zV1 : V1.size ≤ 102 := by rw [hV1, ByteArray.size_append]; first | omega | (show 2 + T2.size ≤ _; omega)
            have nV1 : ¬ 9223372036854775807 < 2 + T2.size := by omega
            obtain ⟨V2, hV2⟩ : ∃ V, V = V1 ++ ⟨#[32, 62, 32]⟩ := ⟨_, rfl⟩
            have zV2 : V2.size ≤ 105 := by rw [hV2, ByteArray.size_append]; first | omega | (show V1.size + 3 ≤ _; omega)
            have nV2 : ¬ 9223372036854775807 < V1.size + 3 := by omega
            obtain ⟨V3, hV3⟩ : ∃ V, V = V2 ++ D2 := ⟨_, rfl⟩
            have zV3 : V3.size ≤ 125 := by rw [hV3, ByteArray.size_append]; first | omega | (show V2.size + D2.size ≤ _; omega)
            have nV3 : ¬ 9223372036854775807 < V2.size + D2.size := by omega
            obtain ⟨V4, hV4⟩ : ∃ V, V = V3 ++ ⟨#[10]⟩ := ⟨_, rfl⟩
            have zV4 : V4.size ≤ 126 := by rw [hV4, ByteArray.size_append]; first | omega | (show V3.size + 1 ≤ _; omega)
            have nV4 : ¬ 9223372036854775807 < V3.size + 1 := by omega
            have HV := Lib.hid (show V4 = bs (lAns a ++ [10]) from by rw [hV4, hV3, hV2, hV1]; exact gt_bs HTX.out HN2.out HD2.out)
            replace hV1 := hV1.symm
            replace hV2 := hV2.symm
            replace hV3 := hV3.symm
            replace hV4 := hV4.symm
            refine wp_region_held_drew (S := fun Y => Y.heap[wr.heap.size]? = some (.cells #[.string T2, .int .i64 a.next, .int .i64 a.urg, .string a.code] 45 (0, 0))) (by kernel_rfl) HROW.out (fun hHeld => ?_)
            have HF1 := Lib.hid (HF5.out.drew)
            have HB3 := Lib.hid (show Below W1.heap.size W1 W4.drew from HB5.out.drew)
            have gl : wr.heap.size < W4.drew.heap.size := hgl
            obtain ⟨U0, hU0⟩ : ∃ U, U = W4.drew := ⟨_, rfl⟩
            rw [← hU0] at hHeld HF1 HB3 gl ⊢
            clear hU0
            refine wpAnyH_take (i := 0) (v := .pointer (some ⟨wr.heap.size, 0, none⟩)) rfl (by kernel_rfl) (by kernel_rfl) (by kernel_rfl) (fun _ _ _ h => h) (Or.inl ⟨by rfl, ?_⟩) (by assumption) ?_
            · intro w hSw
              go_simp
            show wpAnyH _ _ _ _ _ _ _ (Act.put _ (some 51) _) _
            simp only [Act.put, List.setIfInBounds_toArray, List.set_cons_zero, List.set_cons_succ]
            refine wpAnyH_take (i := 1) (v := .string T2) rfl (by kernel_rfl) (by kernel_rfl) (by kernel_rfl) (fun _ _ _ h => h) (Or.inl ⟨by rfl, ?_⟩) (by assumption) ?_
            · intro w hSw
              have s0 := (cell_of_row _ _ 0 _ _ _ hSw).trans (rfl : _ = some (Value.string T2))
              go_simp
            show wpAnyH _ _ _ _ _ _ _ (Act.put _ (some 52) _) _
            simp only [Act.put, List.setIfInBounds_toArray, List.set_cons_zero, List.set_cons_succ]
            refine wpAnyH_take (i := 2) (v := .string V1) rfl (by kernel_rfl) (by kernel_rfl) (by kernel_rfl) (fun _ _ _ h => h) (Or.inl ⟨by rfl, ?_⟩) (by assumption) ?_
            · intro w hSw
              go_simp
            show wpAnyH _ _ _ _ _ _ _ (Act.put _ (some 53) _) _
            simp only [Act.put, List.setIfInBounds_toArray, List.set_cons_zero, List.set_cons_succ]
            refine wpAnyH_take (i := 3) (v := .string V2) rfl (by kernel_rfl) (by kernel_rfl) (by kernel_rfl) (fun _ _ _ h => h) (Or.inl ⟨by rfl, ?_⟩) (by assumption) ?_
            · intro w hSw
              go_simp
            show wpAnyH _ _ _ _ _ _ _ (Act.put _ (some 54) _) _
            simp only [Act.put, List.setIfInBounds_toArray, List.set_cons_zero, List.set_cons_succ]
            refine wpAnyH_take (i := 4) (v := .pointer (some ⟨wr.heap.size, 1, none⟩)) rfl (by kernel_rfl) (by kernel_rfl) (by kernel_rfl) (fun _ _ _ h => h) (Or.inl ⟨by rfl, ?_⟩) (by assumption) ?_
            · intro w hSw
              go_simp
            show wpAnyH _ _ _ _ _ _ _ (Act.put _ (some 55) _) _
            simp only [Act.put, List.setIfInBounds_toArray, List.set_cons_zero, List.set_cons_succ]
            refine wpAnyH_take (i := 5) (v := .int .i64 a.next) rfl (by kernel_rfl) (by kernel_rfl) (by kernel_rfl) (fun _ _ _ h => h) (Or.inl ⟨by rfl, ?_⟩) (by assumption) ?_
            · intro w hSw
              have s0 := (cell_of_row _ _ 1 _ _ _ hSw).trans (rfl : _ = some (Value.int .i64 a.next))
              go_simp
            show wpAnyH _ _ _ _ _ _ _ (Act.put _ (some 56) _) _
            simp only [Act.put, List.setIfInBounds_toArray, List.set_cons_zero, List.set_cons_succ]
            refine wpAnyH_ready (rs := [6]) (by kernel_rfl) (by simp) ?_
            refine AllReadyH.cons rfl (fun K hK => ?_) AllReadyH.nil
            go_simp
            refine (HIT2.out U0 (HRW.out _ HB3.out)).mono ?_
            rintro e U1 ⟨rfl, hbk⟩
            go_simp
            refine hK.out _ _ ((hbk.block _ gl).trans hHeld) (fun hHeld => ?_)
            clear hK K
            have HF2 := Lib.hid (HF1.out.next hbk)
            clear hbk
            refine wpAnyH_take (i := 7) (v := .string V3) rfl (by kernel_rfl) (by kernel_rfl) (by kernel_rfl) (fun _ _ _ h => h) (Or.inl ⟨by rfl, ?_⟩) (by assumption) ?_
            · intro w hSw
              go_simp
            show wpAnyH _ _ _ _ _ _ _ (Act.put _ (some 58) _) _
            simp only [Act.put, List.setIfInBounds_toArray, List.set_cons_zero, List.set_cons_succ]
            refine wpAnyH_take (i := 8) (v := .string V4) rfl (by kernel_rfl) (by kernel_rfl) (by kernel_rfl) (fun _ _ _ h => h) (Or.inl ⟨by rfl, ?_⟩) (by assumption) ?_
            · intro w hSw
              go_simp
            show wpAnyH _ _ _ _ _ _ _ (Act.put _ (some 59) _) _
            simp only [Act.put, List.setIfInBounds_toArray, List.set_cons_zero, List.set_cons_succ]
            refine wpAnyH_ready (rs := [9]) (by kernel_rfl) (by simp) ?_
            refine AllReadyH.cons rfl (fun K hK => ?_) AllReadyH.nil
            go_simp
            refine (write_fb HF2.out _ (lAns a ++ [10]) HV.out (HLB.out)).mono ?_
            rintro e U2 ⟨rfl, hfb, hkp, hbw⟩
            go_simp
            refine hK.out _ _ ((hkp _ _ _ _ hHeld HNE.out (by decide)).trans hHeld) (fun hHeld => ?_)
            clear hK K
            have HF3 := Lib.hid hfb
            clear hfb hkp hbw
            refine wpAnyH_done (by kernel_rfl) ?_ _
            clear hV1
            clear hV2
            clear hV3
            clear hV4
            have HF6 := Lib.hid (show FB (preA p k q (j + 1)) W1 U2 from by rw [preA_succ HA.out]; exact HF3.out)
            clear hHeld HROW
            go_wp2_with fail
            go_roundw
            case rel => exact ⟨j + 1, by omega, by go_num, HF6.out⟩
            case measure => simp [intOf]; omega
          · obtain ⟨D2, hD2⟩ : ∃ x, x = bs (dec a.urg) := ⟨_, rfl⟩
            have hnx : (1 ≤ a.urg ∧ a.urg ≤ 5) ∧ CodeOk a.code := by
              rcases HAO.out.2 with q | q
              · exact q.2
              · exact absurd q.1.1 hn
            have hD2l : D2.size ≤ 20 := by
              have h1 := dec_len (z := a.urg) (by omega)
              rw [hD2, bs_size]
              omega
            have hcl : a.code.size ≤ 40 := hnx.2.1.2
            have HIT2 : Hid (∀ Y, Ready Y → Calls Tryz.prog 36 #[.int .i64 a.urg] Y fun e w' => e = .returned (.string D2) ∧ Below Y.heap.size Y w') := Lib.hid (fun Y hY => by
              have h1 := itoaZ_any a.urg (by omega) (by omega) Y hY
              rw [← hD2] at h1
              exact h1)
            have HD2 := Lib.hid hD2
            have HN2 := Lib.hid hn
            clear hD2 hnx
            have dn : decide (a.next ≥ 0) = false := decide_eq_false hn
            go_wp2_with fail
            rw [← hW4]
            clear hW4 q0 q1 q2 q3 g0 g1 g2 g3
            obtain ⟨V1, hV1⟩ : ∃ V, V = ⟨#[45, 32]⟩ ++ T2 := ⟨_, rfl⟩
            have zV1 : V1.size ≤ 102 := by rw [hV1, ByteArray.size_append]; first | omega | (show 2 + T2.size ≤ _; omega)
            have nV1 : ¬ 9223372036854775807 < 2 + T2.size := by omega
            obtain ⟨V2, hV2⟩ : ∃ V, V = V1 ++ ⟨#[32, 61, 32]⟩ := ⟨_, rfl⟩
            have zV2 : V2.size ≤ 105 := by rw [hV2, ByteArray.size_append]; first | omega | (show V1.size + 3 ≤ _; omega)
            have nV2 : ¬ 9223372036854775807 < V1.size + 3 := by omega
            obtain ⟨V3, hV3⟩ : ∃ V, V = V2 ++ D2 := ⟨_, rfl⟩
            have zV3 : V3.size ≤ 125 := by rw [hV3, ByteArray.size_append]; first | omega | (show V2.size + D2.size ≤ _; omega)
            have nV3 : ¬ 9223372036854775807 < V2.size + D2.size := by omega
            obtain ⟨V4, hV4⟩ : ∃ V, V = V3 ++ ⟨#[32]⟩ := ⟨_, rfl⟩
            have zV4 : V4.size ≤ 126 := by rw [hV4, ByteArray.size_append]; first | omega | (show V3.size + 1 ≤ _; omega)
            have nV4 : ¬ 9223372036854775807 < V3.size + 1 := by omega
            obtain ⟨V5, hV5⟩ : ∃ V, V = V4 ++ a.code := ⟨_, rfl⟩
            have zV5 : V5.size ≤ 166 := by rw [hV5, ByteArray.size_append]; first | omega | (show V4.size + a.code.size ≤ _; omega)
            have nV5 : ¬ 9223372036854775807 < V4.size + a.code.size := by omega
            obtain ⟨V6, hV6⟩ : ∃ V, V = V5 ++ ⟨#[10]⟩ := ⟨_, rfl⟩
            have zV6 : V6.size ≤ 167 := by rw [hV6, ByteArray.size_append]; first | omega | (show V5.size + 1 ≤ _; omega)
            have nV6 : ¬ 9223372036854775807 < V5.size + 1 := by omega
            have HV := Lib.hid (show V6 = bs (lAns a ++ [10]) from by rw [hV6, hV5, hV4, hV3, hV2, hV1]; exact eq_bs HTX.out rfl (by have := HN2.out; omega) HD2.out)
            replace hV1 := hV1.symm
            replace hV2 := hV2.symm
            replace hV3 := hV3.symm
            replace hV4 := hV4.symm
            replace hV5 := hV5.symm
            replace hV6 := hV6.symm
            refine wp_region_held_drew (S := fun Y => Y.heap[wr.heap.size]? = some (.cells #[.string T2, .int .i64 a.next, .int .i64 a.urg, .string a.code] 45 (0, 0))) (by kernel_rfl) HROW.out (fun hHeld => ?_)
            have HF1 := Lib.hid (HF5.out.drew)
            have HB3 := Lib.hid (show Below W1.heap.size W1 W4.drew from HB5.out.drew)
            have gl : wr.heap.size < W4.drew.heap.size := hgl
            obtain ⟨U0, hU0⟩ : ∃ U, U = W4.drew := ⟨_, rfl⟩
            rw [← hU0] at hHeld HF1 HB3 gl ⊢
            clear hU0
            refine wpAnyH_take (i := 0) (v := .pointer (some ⟨wr.heap.size, 0, none⟩)) rfl (by kernel_rfl) (by kernel_rfl) (by kernel_rfl) (fun _ _ _ h => h) (Or.inl ⟨by rfl, ?_⟩) (by assumption) ?_
            · intro w hSw
              go_simp
            show wpAnyH _ _ _ _ _ _ _ (Act.put _ (some 61) _) _
            simp only [Act.put, List.setIfInBounds_toArray, List.set_cons_zero, List.set_cons_succ]
            refine wpAnyH_take (i := 1) (v := .string T2) rfl (by kernel_rfl) (by kernel_rfl) (by kernel_rfl) (fun _ _ _ h => h) (Or.inl ⟨by rfl, ?_⟩) (by assumption) ?_
            · intro w hSw
              have s0 := (cell_of_row _ _ 0 _ _ _ hSw).trans (rfl : _ = some (Value.string T2))
              go_simp
            show wpAnyH _ _ _ _ _ _ _ (Act.put _ (some 62) _) _
            simp only [Act.put, List.setIfInBounds_toArray, List.set_cons_zero, List.set_cons_succ]
            refine wpAnyH_take (i := 2) (v := .string V1) rfl (by kernel_rfl) (by kernel_rfl) (by kernel_rfl) (fun _ _ _ h => h) (Or.inl ⟨by rfl, ?_⟩) (by assumption) ?_
            · intro w hSw
              go_simp
            show wpAnyH _ _ _ _ _ _ _ (Act.put _ (some 63) _) _
            simp only [Act.put, List.setIfInBounds_toArray, List.set_cons_zero, List.set_cons_succ]
            refine wpAnyH_take (i := 3) (v := .string V2) rfl (by kernel_rfl) (by kernel_rfl) (by kernel_rfl) (fun _ _ _ h => h) (Or.inl ⟨by rfl, ?_⟩) (by assumption) ?_
            · intro w hSw
              go_simp
            show wpAnyH _ _ _ _ _ _ _ (Act.put _ (some 64) _) _
            simp only [Act.put, List.setIfInBounds_toArray, List.set_cons_zero, List.set_cons_succ]
            refine wpAnyH_take (i := 4) (v := .pointer (some ⟨wr.heap.size, 2, none⟩)) rfl (by kernel_rfl) (by kernel_rfl) (by kernel_rfl) (fun _ _ _ h => h) (Or.inl ⟨by rfl, ?_⟩) (by assumption) ?_
            · intro w hSw
              go_simp
            show wpAnyH _ _ _ _ _ _ _ (Act.put _ (some 65) _) _
            simp only [Act.put, List.setIfInBounds_toArray, List.set_cons_zero, List.set_cons_succ]
            refine wpAnyH_take (i := 5) (v := .int .i64 a.urg) rfl (by kernel_rfl) (by kernel_rfl) (by kernel_rfl) (fun _ _ _ h => h) (Or.inl ⟨by rfl, ?_⟩) (by assumption) ?_
            · intro w hSw
              have s0 := (cell_of_row _ _ 2 _ _ _ hSw).trans (rfl : _ = some (Value.int .i64 a.urg))
              go_simp
            show wpAnyH _ _ _ _ _ _ _ (Act.put _ (some 66) _) _
            simp only [Act.put, List.setIfInBounds_toArray, List.set_cons_zero, List.set_cons_succ]
            refine wpAnyH_take (i := 9) (v := .pointer (some ⟨wr.heap.size, 3, none⟩)) rfl (by kernel_rfl) (by kernel_rfl) (by kernel_rfl) (fun _ _ _ h => h) (Or.inl ⟨by rfl, ?_⟩) (by assumption) ?_
            · intro w hSw
              go_simp
            show wpAnyH _ _ _ _ _ _ _ (Act.put _ (some 70) _) _
            simp only [Act.put, List.setIfInBounds_toArray, List.set_cons_zero, List.set_cons_succ]
            refine wpAnyH_take (i := 10) (v := .string a.code) rfl (by kernel_rfl) (by kernel_rfl) (by kernel_rfl) (fun _ _ _ h => h) (Or.inl ⟨by rfl, ?_⟩) (by assumption) ?_
            · intro w hSw
              have s0 := (cell_of_row _ _ 3 _ _ _ hSw).trans (rfl : _ = some (Value.string a.code))
              go_simp
            show wpAnyH _ _ _ _ _ _ _ (Act.put _ (some 71) _) _
            simp only [Act.put, List.setIfInBounds_toArray, List.set_cons_zero, List.set_cons_succ]
            refine wpAnyH_ready (rs := [6]) (by kernel_rfl) (by simp) ?_
            refine AllReadyH.cons rfl (fun K hK => ?_) AllReadyH.nil
            go_simp
            refine (HIT2.out U0 (HRW.out _ HB3.out)).mono ?_
            rintro e U1 ⟨rfl, hbk⟩
            go_simp
            refine hK.out _ _ ((hbk.block _ gl).trans hHeld) (fun hHeld => ?_)
            clear hK K
            have HF2 := Lib.hid (HF1.out.next hbk)
            clear hbk
            refine wpAnyH_take (i := 7) (v := .string V3) rfl (by kernel_rfl) (by kernel_rfl) (by kernel_rfl) (fun _ _ _ h => h) (Or.inl ⟨by rfl, ?_⟩) (by assumption) ?_
            · intro w hSw
              go_simp
            show wpAnyH _ _ _ _ _ _ _ (Act.put _ (some 68) _) _
            simp only [Act.put, List.setIfInBounds_toArray, List.set_cons_zero, List.set_cons_succ]
            refine wpAnyH_take (i := 8) (v := .string V4) rfl (by kernel_rfl) (by kernel_rfl) (by kernel_rfl) (fun _ _ _ h => h) (Or.inl ⟨by rfl, ?_⟩) (by assumption) ?_
            · intro w hSw
              go_simp
            show wpAnyH _ _ _ _ _ _ _ (Act.put _ (some 69) _) _
            simp only [Act.put, List.setIfInBounds_toArray, List.set_cons_zero, List.set_cons_succ]
            refine wpAnyH_take (i := 11) (v := .string V5) rfl (by kernel_rfl) (by kernel_rfl) (by kernel_rfl) (fun _ _ _ h => h) (Or.inl ⟨by rfl, ?_⟩) (by assumption) ?_
            · intro w hSw
              go_simp
            show wpAnyH _ _ _ _ _ _ _ (Act.put _ (some 72) _) _
            simp only [Act.put, List.setIfInBounds_toArray, List.set_cons_zero, List.set_cons_succ]
            refine wpAnyH_take (i := 12) (v := .string V6) rfl (by kernel_rfl) (by kernel_rfl) (by kernel_rfl) (fun _ _ _ h => h) (Or.inl ⟨by rfl, ?_⟩) (by assumption) ?_
            · intro w hSw
              go_simp
            show wpAnyH _ _ _ _ _ _ _ (Act.put _ (some 73) _) _
            simp only [Act.put, List.setIfInBounds_toArray, List.set_cons_zero, List.set_cons_succ]
            refine wpAnyH_ready (rs := [13]) (by kernel_rfl) (by simp) ?_
            refine AllReadyH.cons rfl (fun K hK => ?_) AllReadyH.nil
            go_simp
            refine (write_fb HF2.out _ (lAns a ++ [10]) HV.out (HLB.out)).mono ?_
            rintro e U2 ⟨rfl, hfb, hkp, hbw⟩
            go_simp
            refine hK.out _ _ ((hkp _ _ _ _ hHeld HNE.out (by decide)).trans hHeld) (fun hHeld => ?_)
            clear hK K
            have HF3 := Lib.hid hfb
            clear hfb hkp hbw
            refine wpAnyH_done (by kernel_rfl) ?_ _
            clear hV1
            clear hV2
            clear hV3
            clear hV4
            clear hV5
            clear hV6
            have HF6 := Lib.hid (show FB (preA p k q (j + 1)) W1 U2 from by rw [preA_succ HA.out]; exact HF3.out)
            clear hHeld HROW
            go_wp2_with fail
            go_roundw
            case rel => exact ⟨j + 1, by omega, by go_num, HF6.out⟩
            case measure => simp [intOf]; omega
        · have hjj : j = l := by omega
          subst hjj
          have HF7 := Lib.hid (show FB (preP p (k + 1)) W1 wr from by rw [← preA_all HQ.out, ← HT.out.2]; exact hfj)
          clear hfj
          go_wp2_with fail
          go_roundw
          case rel => exact ⟨k + 1, by omega, by go_num, HF7.out⟩
          case measure => simp [intOf]; omega
    · have hkk : k = m := by omega
      subst hkk
      have HS := Lib.hid (string_fb hf)
      have HBW := Lib.hid (HB1.out.trans (hf.below.mono HB1.out.size))
      clear hf
      go_wp2_with fail
      refine HS.out.mono ?_
      rintro e w3 ⟨rfl, hb3⟩
      have HB3 := Lib.hid (HBW.out.trans (hb3.mono (Nat.le_of_lt hz1)))
      clear hb3
      go_wp2_with fail
      go_ret2
      refine ⟨?_, HB3.out⟩
      rw [HN.out.1, preP_all]
      rfl
theorem format_any (w : World) (p : Prot) (h : ProtAt w w.heap.size p) (hwf : p.qs.length ≤ 9223372036854775807) (hr : Ready w) :
    Calls Tryz.prog 18 #[.agg #[.string p.name, .int .i64 p.ver, .slice p.qA p.qs.length p.qc]] w fun e w' => ∃ s b, e = .returned (.tuple #[.string s, .int .i64 b]) ∧ FmtOf p s b ∧ Below w.heap.size w w' := by
  by_cases hok : ProtOk p
  · refine (format_ok w p h hwf hok hr).mono ?_
    rintro e w' ⟨rfl, hb⟩
    exact ⟨_, _, rfl, .inl ⟨hok, rfl, rfl⟩, hb⟩
  · refine (format_bad w p h hwf hok).mono ?_
    rintro e w' ⟨rfl, hb⟩
    exact ⟨_, _, rfl, .inr ⟨hok, rfl, rfl⟩, hb⟩
end Go.Proofs.YtbbklideciappaaGreatDoor
