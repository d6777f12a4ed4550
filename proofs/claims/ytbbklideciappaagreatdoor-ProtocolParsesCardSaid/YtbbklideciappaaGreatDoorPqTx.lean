/-
  samaritanref12: Num, Text (printed by genpqtx.py).
-/
import Derived.Test.YtbbklideciappaaGreatDoorPqH
import Derived.Test.YtbbklideciappaaGreatDoorPqY
import Derived.IntWalk
import Derived.Lib.ItoaLen
import Derived.Deep.QuietTactic
import Derived.BigQuiet
namespace Go.Proofs.YtbbklideciappaaGreatDoor
open Go.RowKit Go.Maps

theorem ten_slice {n : Nat} (h : n < 10) : (⟨#[48, 49, 50, 51, 52, 53, 54, 55, 56, 57]⟩ : ByteArray).extract n (n + 1) = bs (Lib.decDigits n) := by
  rw [dec_small h]
  obtain rfl | rfl | rfl | rfl | rfl | rfl | rfl | rfl | rfl | rfl : n = 0 ∨ n = 1 ∨ n = 2 ∨ n = 3 ∨ n = 4 ∨ n = 5 ∨ n = 6 ∨ n = 7 ∨ n = 8 ∨ n = 9 := by omega
  all_goals decide
set_option maxRecDepth 100000 in
theorem num_go : ∀ (k : Nat) (n : Int) (_ : 0 ≤ n) (_ : n.toNat < k) (_ : n ≤ 9223372036854775806) (w : World), Calls Tryz.prog 38 #[.int .i64 n] w fun e w' => e = .returned (.string (bs (Lib.decDigits n.toNat))) ∧ ∃ m, w' = w.drewN m := by
  intro k
  induction k with
  | zero => intro n _ h; omega
  | succ k ih =>
    intro n h0 hk hn w
    by_cases h : n < 10
    · go_enter Tryz.func38, Tryz.ntmps38
      go_wp2_with fail
      go_ret
      refine ⟨ret_str ?_, 0, rfl⟩
      have e1 : (n + 1).toNat = n.toNat + 1 := by omega
      rw [e1]
      exact ten_slice (by omega)
    · have HIH := Lib.hid (fun W : World => ih (n / 10) (by omega) (by omega) (by omega) W)
      have l1 : (bs (Lib.decDigits (n / 10).toNat)).size ≤ 20 := by
        rw [bs_size, Lib.decDigits_length]
        exact Lib.nDigits_le20 _ (by omega)
      have m0 : 0 ≤ n % 10 := by omega
      have m1 : n % 10 < 10 := by omega
      have HM := Lib.hid (show (bs (Lib.decDigits (n / 10).toNat) ++ (⟨#[48, 49, 50, 51, 52, 53, 54, 55, 56, 57]⟩ : ByteArray).extract (n % 10).toNat (n % 10 + 1).toNat) = bs (Lib.decDigits n.toNat) by
        rw [show (n % 10 + 1).toNat = (n % 10).toNat + 1 by omega, ten_slice (by omega), bs_append, dec_big (n := n.toNat) (by omega), show (n / 10).toNat = n.toNat / 10 by omega, show (n % 10).toNat = n.toNat % 10 by omega, dec_small (n := n.toNat % 10) (by omega)])
      have t0 : n.tmod 10 = n % 10 := Int.tmod_eq_emod_of_nonneg h0
      have t6 : n.tdiv 10 = n / 10 := Int.tdiv_eq_ediv_of_nonneg h0
      have t7 : IntKind.i64.wrap (n / 10) = n / 10 := IntWalk.i64_in _ (by omega)
      have t1 : IntKind.i64.wrap (n % 10) = n % 10 := IntWalk.i64_in _ (by omega)
      have t2 : IntKind.i64.wrap (n % 10 + 1) = n % 10 + 1 := IntWalk.i64_in _ (by omega)
      have t3 : n % 10 ≤ n % 10 + 1 := by omega
      have t4 : n % 10 + 1 ≤ 10 := by omega
      have t5 : 0 ≤ n % 10 + 1 := by omega
      clear ih hn hk
      go_enter Tryz.func38, Tryz.ntmps38
      go_wp2_with fail
      go_quiet ((go_at_call 38; exact Calls.quiet_of (HIH.out _)))
      go_wp2_with fail
      go_ret
      exact ⟨ret_str HM.out, _, rfl⟩
theorem num_any (n : Int) (h0 : 0 ≤ n) (hn : n ≤ 9223372036854775806) (w : World) : Calls Tryz.prog 38 #[.int .i64 n] w fun e w' => e = .returned (.string (bs (dec n))) ∧ ∃ m, w' = w.drewN m := num_go (n.toNat + 1) n h0 (by omega) hn w
theorem ques_bs2 (X t : ByteArray) : ((X ++ ⟨#[63, 32]⟩) ++ t) ++ ⟨#[10]⟩ = X ++ bs (lQues t ++ [10]) := by
  rw [← ques_bs]
  simp only [ByteArray.append_assoc]
theorem gt_bs2 {a : Ans} {X t D : ByteArray} (ht : t = a.text) (hn : 0 ≤ a.next) (hD : D = bs (dec a.next)) : ((((X ++ ⟨#[45, 32]⟩) ++ t) ++ ⟨#[32, 62, 32]⟩) ++ D) ++ ⟨#[10]⟩ = X ++ bs (lAns a ++ [10]) := by
  rw [← gt_bs ht hn hD]
  simp only [ByteArray.append_assoc]
theorem eq_bs2 {a : Ans} {X t D c : ByteArray} (ht : t = a.text) (hc : c = a.code) (hn : ¬ 0 ≤ a.next) (hD : D = bs (dec a.urg)) : ((((((X ++ ⟨#[45, 32]⟩) ++ t) ++ ⟨#[32, 61, 32]⟩) ++ D) ++ ⟨#[32]⟩) ++ c) ++ ⟨#[10]⟩ = X ++ bs (lAns a ++ [10]) := by
  rw [← eq_bs ht hc hn hD]
  simp only [ByteArray.append_assoc]
set_option maxRecDepth 100000 in
set_option maxHeartbeats 4000000 in
theorem text_bad (w : World) (p : Prot) (h : ProtAt w w.heap.size p) (hwf : ProtWf p) (hn : ¬ ProtOk p) :
    Calls Tryz.prog 19 #[.agg #[.string p.name, .int .i64 p.ver, .slice p.qA p.qs.length p.qc]] w fun e w' => e = .returned (.tuple #[.string ⟨#[]⟩, .int .i64 1]) ∧ Below w.heap.size w w' := by
  have hb0 := below_new w (.cells #[.string p.name, .int .i64 p.ver, .slice p.qA p.qs.length p.qc] 24)
  obtain ⟨f0, f1, f2⟩ := fresh3 w (.string p.name) (.int .i64 p.ver) (.slice p.qA p.qs.length p.qc) 24
  obtain ⟨W0, hW0⟩ : ∃ W0, W0 = w.alloc (.cells #[.string p.name, .int .i64 p.ver, .slice p.qA p.qs.length p.qc] 24) := ⟨_, rfl⟩
  rw [← hW0] at hb0 f0 f1 f2
  have HV := Lib.hid (right_any W0 p ((h.below hb0).more hb0.size) hwf)
  have HB := Lib.hid hb0
  have HN := Lib.hid hn
  clear h hwf hn hb0
  go_enter Tryz.func19, Tryz.ntmps19
  go_wp2_with fail
  rw [← hW0]
  clear hW0
  refine HV.out.mono ?_
  rintro e W1 ⟨a, b, hs, rfl, hb1⟩
  obtain rfl : b = 1 := by
    rcases hs.two with q | q
    · exact absurd (hs.ok.1 q) HN.out
    · exact q
  have HB1 := Lib.hid (HB.out.trans (hb1.mono HB.out.size))
  clear hs hb1 f0 f1 f2
  go_wp2_with fail
  go_ret2
  exact ⟨rfl, HB1.out⟩
set_option maxRecDepth 100000 in
set_option maxHeartbeats 16000000 in
theorem text_ok (w : World) (p : Prot) (h : ProtAt w w.heap.size p) (hwf : ProtWf p) (hok : ProtOk p) :
    Calls Tryz.prog 19 #[.agg #[.string p.name, .int .i64 p.ver, .slice p.qA p.qs.length p.qc]] w fun e w' => e = .returned (.tuple #[.string (bs (textP p)), .int .i64 0]) ∧ Below w.heap.size w w' := by
  obtain ⟨m, hm⟩ : ∃ m, m = p.qs.length := ⟨_, rfl⟩
  have hml : m ≤ 64 := by have := hok.1.2.2.2; omega
  obtain ⟨nm, hnm⟩ : ∃ x, x = p.name := ⟨_, rfl⟩
  have hnml : nm.size ≤ 40 := by rw [hnm]; exact hok.1.1.1.2
  obtain ⟨D, hD⟩ : ∃ x, x = bs (dec p.ver) := ⟨_, rfl⟩
  have hDl : D.size ≤ 20 := by
    have h1 := dec_len (z := p.ver) (by have := hok.1.2.1.2; omega)
    rw [hD, bs_size]
    omega
  have hver : 1 ≤ p.ver ∧ p.ver ≤ 1048576 := hok.1.2.1
  obtain ⟨vr, hvr⟩ : ∃ x, x = p.ver := ⟨_, rfl⟩
  have HN := Lib.hid (And.intro hm (And.intro hnm (And.intro hD hvr)))
  have hb0 := below_new w (.cells #[.string nm, .int .i64 vr, .slice p.qA m p.qc] 24)
  obtain ⟨f0, f1, f2⟩ := fresh3 w (.string nm) (.int .i64 vr) (.slice p.qA m p.qc) 24
  have hz0 := lt_new w (.cells #[.string nm, .int .i64 vr, .slice p.qA m p.qc] 24)
  obtain ⟨W0, hW0⟩ : ∃ W0, W0 = w.alloc (.cells #[.string nm, .int .i64 vr, .slice p.qA m p.qc] 24) := ⟨_, rfl⟩
  have hrow0 := new_obj w (.cells #[.string nm, .int .i64 vr, .slice p.qA m p.qc] 24)
  rw [← hW0] at hb0 f0 f1 f2 hz0 hrow0
  have hv := right_any W0 p ((h.below hb0).more hb0.size) hwf
  rw [← hm, ← hnm, ← hvr] at hv ⊢
  have HV := Lib.hid hv
  have HB := Lib.hid hb0
  have HOK := Lib.hid hok
  have HAT := Lib.hid ((h.below hb0).more hb0.size)
  have HIT : Hid (∀ Y, Calls Tryz.prog 38 #[.int .i64 vr] Y fun e w' => e = .returned (.string D) ∧ ∃ m, w' = Y.drewN m) := Lib.hid (fun Y => by
    have h1 := num_any vr (by omega) (by omega) Y
    rw [show dec vr = dec p.ver from by rw [hvr], ← hD] at h1
    exact h1)
  clear h hwf hok hb0 hv hm hnm hD hvr hver
  go_enter Tryz.func19, Tryz.ntmps19
  go_wp2_with fail
  rw [← hW0]
  clear hW0
  refine HV.out.mono ?_
  rintro e W1 ⟨a, b, hs, rfl, hb1⟩
  obtain rfl : b = 0 := hs.ok.2 HOK.out
  have HB1 := Lib.hid (HB.out.trans (hb1.mono HB.out.size))
  have HAT1 := Lib.hid ((HAT.out.below hb1).more hb1.size)
  have hz1 : w.heap.size < W1.heap.size := Nat.lt_of_lt_of_le hz0 hb1.size
  have HROW := Lib.hid ((hb1.block w.heap.size hz0).trans hrow0)
  clear hs hb1 f0 f1 f2 HV hrow0
  go_wp2_with fail
  obtain ⟨V1, hV1⟩ : ∃ V, V = ⟨#[112, 114, 111, 116, 111, 99, 111, 108, 32]⟩ ++ nm := ⟨_, rfl⟩
  have zV1 : V1.size ≤ 49 := by rw [hV1, ByteArray.size_append]; first | omega | (show 9 + nm.size ≤ _; omega)
  have nV1 : ¬ 9223372036854775807 < 9 + nm.size := by omega
  obtain ⟨V2, hV2⟩ : ∃ V, V = V1 ++ ⟨#[32]⟩ := ⟨_, rfl⟩
  have zV2 : V2.size ≤ 50 := by rw [hV2, ByteArray.size_append]; first | omega | (show V1.size + 1 ≤ _; omega)
  have nV2 : ¬ 9223372036854775807 < V1.size + 1 := by omega
  obtain ⟨V3, hV3⟩ : ∃ V, V = V2 ++ D := ⟨_, rfl⟩
  have zV3 : V3.size ≤ 70 := by rw [hV3, ByteArray.size_append]; first | omega | (show V2.size + D.size ≤ _; omega)
  have nV3 : ¬ 9223372036854775807 < V2.size + D.size := by omega
  obtain ⟨V4, hV4⟩ : ∃ V, V = V3 ++ ⟨#[10]⟩ := ⟨_, rfl⟩
  have zV4 : V4.size ≤ 71 := by rw [hV4, ByteArray.size_append]; first | omega | (show V3.size + 1 ≤ _; omega)
  have nV4 : ¬ 9223372036854775807 < V3.size + 1 := by omega
  have HV := Lib.hid (show V4 = bs (lHead nm p.ver ++ [10]) from by rw [hV4, hV3, hV2, hV1]; exact head_bs HN.out.2.2.1)
  replace hV1 := hV1.symm
  replace hV2 := hV2.symm
  replace hV3 := hV3.symm
  replace hV4 := hV4.symm
  refine wp_region_held_drew (S := fun Y => Y.heap[w.heap.size]? = some (.cells #[.string nm, .int .i64 vr, .slice p.qA m p.qc] 24 (0, 0))) (by kernel_rfl) HROW.out (fun hHeld => ?_)
  have HB3 := Lib.hid (show Below W1.heap.size W1 W1.drew from (Below.refl _ _).drew)
  obtain ⟨U0, hU0⟩ : ∃ U, U = W1.drew := ⟨_, rfl⟩
  rw [← hU0] at hHeld HB3 ⊢
  clear hU0
  refine wpAnyH_take (i := 0) (v := .pointer (some ⟨w.heap.size, 0, none⟩)) rfl (by kernel_rfl) (by kernel_rfl) (by kernel_rfl) (fun _ _ _ h => h) (Or.inl ⟨by rfl, ?_⟩) (by assumption) ?_
  · intro w hSw
    go_simp
  show wpAnyH _ _ _ _ _ _ _ (Act.put _ (some 19) _) _
  simp only [Act.put, List.setIfInBounds_toArray, List.set_cons_zero, List.set_cons_succ]
  refine wpAnyH_take (i := 1) (v := .string nm) rfl (by kernel_rfl) (by kernel_rfl) (by kernel_rfl) (fun _ _ _ h => h) (Or.inl ⟨by rfl, ?_⟩) (by assumption) ?_
  · intro w hSw
    have s0 := (cell_of_row _ _ 0 _ _ _ hSw).trans (rfl : _ = some (Value.string nm))
    go_simp
  show wpAnyH _ _ _ _ _ _ _ (Act.put _ (some 20) _) _
  simp only [Act.put, List.setIfInBounds_toArray, List.set_cons_zero, List.set_cons_succ]
  refine wpAnyH_take (i := 2) (v := .string V1) rfl (by kernel_rfl) (by kernel_rfl) (by kernel_rfl) (fun _ _ _ h => h) (Or.inl ⟨by rfl, ?_⟩) (by assumption) ?_
  · intro w hSw
    go_simp
  show wpAnyH _ _ _ _ _ _ _ (Act.put _ (some 21) _) _
  simp only [Act.put, List.setIfInBounds_toArray, List.set_cons_zero, List.set_cons_succ]
  refine wpAnyH_take (i := 3) (v := .string V2) rfl (by kernel_rfl) (by kernel_rfl) (by kernel_rfl) (fun _ _ _ h => h) (Or.inl ⟨by rfl, ?_⟩) (by assumption) ?_
  · intro w hSw
    go_simp
  show wpAnyH _ _ _ _ _ _ _ (Act.put _ (some 22) _) _
  simp only [Act.put, List.setIfInBounds_toArray, List.set_cons_zero, List.set_cons_succ]
  refine wpAnyH_take (i := 4) (v := .pointer (some ⟨w.heap.size, 1, none⟩)) rfl (by kernel_rfl) (by kernel_rfl) (by kernel_rfl) (fun _ _ _ h => h) (Or.inl ⟨by rfl, ?_⟩) (by assumption) ?_
  · intro w hSw
    go_simp
  show wpAnyH _ _ _ _ _ _ _ (Act.put _ (some 23) _) _
  simp only [Act.put, List.setIfInBounds_toArray, List.set_cons_zero, List.set_cons_succ]
  refine wpAnyH_take (i := 5) (v := .int .i64 vr) rfl (by kernel_rfl) (by kernel_rfl) (by kernel_rfl) (fun _ _ _ h => h) (Or.inl ⟨by rfl, ?_⟩) (by assumption) ?_
  · intro w hSw
    have s0 := (cell_of_row _ _ 1 _ _ _ hSw).trans (rfl : _ = some (Value.int .i64 vr))
    go_simp
  show wpAnyH _ _ _ _ _ _ _ (Act.put _ (some 24) _) _
  simp only [Act.put, List.setIfInBounds_toArray, List.set_cons_zero, List.set_cons_succ]
  refine wpAnyH_ready (rs := [6]) (by kernel_rfl) (by simp) ?_
  refine AllReadyH.cons rfl (fun K hK => ?_) AllReadyH.nil
  go_simp
  refine (HIT.out _).mono ?_
  rintro e w' ⟨rfl, nd, rfl⟩
  go_simp
  refine hK.out _ _ hHeld (fun hHeld => ?_)
  clear hK K
  refine wpAnyH_take (i := 7) (v := .string V3) rfl (by kernel_rfl) (by kernel_rfl) (by kernel_rfl) (fun _ _ _ h => h) (Or.inl ⟨by rfl, ?_⟩) (by assumption) ?_
  · intro w hSw
    go_simp
  show wpAnyH _ _ _ _ _ _ _ (Act.put _ (some 26) _) _
  simp only [Act.put, List.setIfInBounds_toArray, List.set_cons_zero, List.set_cons_succ]
  refine wpAnyH_take (i := 8) (v := .string V4) rfl (by kernel_rfl) (by kernel_rfl) (by kernel_rfl) (fun _ _ _ h => h) (Or.inl ⟨by rfl, ?_⟩) (by assumption) ?_
  · intro w hSw
    go_simp
  show wpAnyH _ _ _ _ _ _ _ (Act.put _ (some 27) _) _
  simp only [Act.put, List.setIfInBounds_toArray, List.set_cons_zero, List.set_cons_succ]
  refine wpAnyH_take (i := 9) (v := .string V4) rfl (by kernel_rfl) (by kernel_rfl) (by kernel_rfl) (fun _ _ _ h => h) (Or.inl ⟨by rfl, ?_⟩) (by assumption) ?_
  · intro w hSw
    go_simp
  show wpAnyH _ _ _ _ _ _ _ (Act.put _ (some 6) _) _
  simp only [Act.put, List.setIfInBounds_toArray, List.set_cons_zero, List.set_cons_succ]
  refine wpAnyH_done (by kernel_rfl) ?_ _
  obtain ⟨U1, hU1⟩ : ∃ U, U = U0.drewN nd := ⟨_, rfl⟩
  have HB5 := Lib.hid (show Below W1.heap.size W1 U1 from by rw [hU1]; exact below_drewN' HB3.out nd)
  rw [← hU1] at hHeld ⊢
  clear hU1 hV1 hV2 hV3 hV4 HROW
  have g2 : U1.cell? ⟨w.heap.size, 2, none⟩ = some (.slice p.qA m p.qc) := cell_of_row U1 w.heap.size 2 _ _ _ hHeld
  have HFS := Lib.hid (show V4 = bs (preP p 0) from by rw [HV.out, preP_zero, ← HN.out.2.1])
  clear hHeld
  go_wp2_with fail
  clear g2
  go_loopw [31, 6] (fun i o X => ∃ k : Nat, k ≤ m ∧ i = .int .i64 k ∧ o = .string (bs (preP p k)) ∧ Below W1.heap.size W1 X) (fun i _ _ => m - (intOf i).toNat)
  case atStart => exact ⟨0, Nat.zero_le _, rfl, congrArg Value.string HFS.out, HB5.out⟩
  case round =>
    obtain ⟨k, hk, rfl, rfl, hf⟩ := hrel
    have HFK := Lib.hid hf
    have hSl : (bs (preP p k)).size ≤ 330000 := by rw [bs_size]; exact preP_len HOK.out k
    obtain ⟨S, hS⟩ : ∃ S, S = bs (preP p k) := ⟨_, rfl⟩
    rw [← hS] at hSl ⊢
    have HS := Lib.hid hS
    clear hS
    by_cases hlt : k < m
    · have hlt' : (k : Int) < (m : Int) := by omega
      obtain ⟨q, hq⟩ : ∃ q, p.qs[k]? = some q := ⟨p.qs[k]'(by have := HN.out.1; omega), by simp⟩
      obtain ⟨b, o, hA, hbb, q0, q1, hrec⟩ := ques_at (ProtAt.below HAT1.out hf) hq
      rw [hA]
      have HQ := Lib.hid hq
      have hqok := HOK.out.2 q (List.mem_of_getElem? hq)
      obtain ⟨T, hT⟩ : ∃ x, x = q.text := ⟨_, rfl⟩
      have hTl : T.size ≤ 200 := by rw [hT]; exact hqok.1.1.1.2
      obtain ⟨l, hl⟩ : ∃ x, x = q.ans.length := ⟨_, rfl⟩
      have hll : l ≤ 16 := by rw [hl]; exact hqok.2.1.2
      have HT := Lib.hid (And.intro hT hl)
      rw [← hT] at q0
      rw [← hl] at q1
      have hbq := below_new wr (.cells #[.string T, .slice q.aA l q.ac] 43)
      obtain ⟨g0, g1⟩ := fresh2 wr (.string T) (.slice q.aA l q.ac) 43
      obtain ⟨W2, hW2⟩ : ∃ W2, W2 = wr.alloc (.cells #[.string T, .slice q.aA l q.ac] 43) := ⟨_, rfl⟩
      rw [← hW2] at hbq g0 g1
      have HB2 := Lib.hid (hf.trans (hbq.mono hf.size))
      obtain ⟨V1, hV1⟩ : ∃ V, V = S ++ ⟨#[63, 32]⟩ := ⟨_, rfl⟩
      have zV1 : V1.size ≤ 330002 := by rw [hV1, ByteArray.size_append]; first | omega | (show S.size + 2 ≤ _; omega)
      have nV1 : ¬ 9223372036854775807 < S.size + 2 := by omega
      obtain ⟨V2, hV2⟩ : ∃ V, V = V1 ++ T := ⟨_, rfl⟩
      have zV2 : V2.size ≤ 330202 := by rw [hV2, ByteArray.size_append]; first | omega | (show V1.size + T.size ≤ _; omega)
      have nV2 : ¬ 9223372036854775807 < V1.size + T.size := by omega
      obtain ⟨V3, hV3⟩ : ∃ V, V = V2 ++ ⟨#[10]⟩ := ⟨_, rfl⟩
      have zV3 : V3.size ≤ 330203 := by rw [hV3, ByteArray.size_append]; first | omega | (show V2.size + 1 ≤ _; omega)
      have nV3 : ¬ 9223372036854775807 < V2.size + 1 := by omega
      have HV := Lib.hid (show V3 = S ++ bs (lQues T ++ [10]) from by rw [hV3, hV2, hV1]; exact ques_bs2 S T)
      replace hV1 := hV1.symm
      replace hV2 := hV2.symm
      replace hV3 := hV3.symm
      have HF4 := Lib.hid (show V3 = bs (preA p k q 0) from by rw [HV.out, preA_zero, HS.out, HT.out.1, bs_append])
      clear hq hA hbb hrec hqok hT hl hf hbq
      go_wp2_with fail
      rw [← hW2]
      clear hW2 hV1 hV2 hV3 g0 g1
      go_loopw [44, 6] (fun i o X => ∃ j : Nat, j ≤ l ∧ i = .int .i64 j ∧ o = .string (bs (preA p k q j)) ∧ Below W1.heap.size W1 X) (fun i _ _ => l - (intOf i).toNat)
      case atStart => exact ⟨0, Nat.zero_le _, rfl, congrArg Value.string HF4.out, HB2.out⟩
      case round =>
        obtain ⟨j, hj, rfl, rfl, hfj⟩ := hrel
        have hSl2 : (bs (preA p k q j)).size ≤ 330000 := by rw [bs_size]; exact preA_len HOK.out HQ.out j
        obtain ⟨S2, hS2⟩ : ∃ S, S = bs (preA p k q j) := ⟨_, rfl⟩
        rw [← hS2] at hSl2 ⊢
        have HS2 := Lib.hid hS2
        clear hS2
        by_cases hjl : j < l
        · have hjl' : (j : Int) < (l : Int) := by omega
          obtain ⟨a, ha⟩ : ∃ a, q.ans[j]? = some a := ⟨q.ans[j]'(by have := HT.out.2; omega), by simp⟩
          obtain ⟨b2, o2, hA2, hbb2, q0, q1, q2, q3⟩ := ans_at ((ProtAt.below HAT1.out hfj).ans q (List.mem_of_getElem? HQ.out)) ha
          rw [hA2]
          have hao := ok_ans HOK.out (List.mem_of_getElem? HQ.out) (List.mem_of_getElem? ha)
          have HA := Lib.hid ha
          have HAO := Lib.hid hao
          obtain ⟨T2, hT2⟩ : ∃ x, x = a.text := ⟨_, rfl⟩
          have hT2l : T2.size ≤ 100 := by rw [hT2]; exact hao.1.1.1.2
          rw [← hT2] at q0
          have hbq := below_new wr (.cells #[.string T2, .int .i64 a.next, .int .i64 a.urg, .string a.code] 45)
          obtain ⟨g0, g1, g2, g3⟩ := fresh4 wr (.string T2) (.int .i64 a.next) (.int .i64 a.urg) (.string a.code) 45
          have ho := new_obj wr (.cells #[.string T2, .int .i64 a.next, .int .i64 a.urg, .string a.code] 45)
          obtain ⟨W4, hW4⟩ : ∃ W4, W4 = wr.alloc (.cells #[.string T2, .int .i64 a.next, .int .i64 a.urg, .string a.code] 45) := ⟨_, rfl⟩
          rw [← hW4] at hbq g0 g1 g2 g3 ho
          have HB5 := Lib.hid (hfj.trans (hbq.mono hfj.size))
          have HROW2 := Lib.hid ho
          have HTX := Lib.hid hT2
          clear ha hA2 hbb2 hao hT2 hfj hbq ho hlt hjl' g2 g3
          by_cases hn : 0 ≤ a.next
          · obtain ⟨D2, hD2⟩ : ∃ x, x = bs (dec a.next) := ⟨_, rfl⟩
            have hnx : 0 ≤ a.next ∧ a.next < 64 := by
              rcases HAO.out.2 with q | q
              · omega
              · exact q.1
            have hD2l : D2.size ≤ 20 := by
              have h1 := dec_len (z := a.next) (by omega)
              rw [hD2, bs_size]
              omega
            have HIT2 : Hid (∀ Y, Calls Tryz.prog 38 #[.int .i64 a.next] Y fun e w' => e = .returned (.string D2) ∧ ∃ m, w' = Y.drewN m) := Lib.hid (fun Y => by
              have h1 := num_any a.next (by omega) (by omega) Y
              rw [← hD2] at h1
              exact h1)
            have HD2 := Lib.hid hD2
            have HN2 := Lib.hid hn
            clear hD2 hnx
            have dn : decide (a.next ≥ 0) = true := decide_eq_true hn
            obtain ⟨V1, hV1⟩ : ∃ V, V = S2 ++ ⟨#[45, 32]⟩ := ⟨_, rfl⟩
            have zV1 : V1.size ≤ 330002 := by rw [hV1, ByteArray.size_append]; first | omega | (show S2.size + 2 ≤ _; omega)
            have nV1 : ¬ 9223372036854775807 < S2.size + 2 := by omega
            obtain ⟨V2, hV2⟩ : ∃ V, V = V1 ++ T2 := ⟨_, rfl⟩
            have zV2 : V2.size ≤ 330102 := by rw [hV2, ByteArray.size_append]; first | omega | (show V1.size + T2.size ≤ _; omega)
            have nV2 : ¬ 9223372036854775807 < V1.size + T2.size := by omega
            obtain ⟨V3, hV3⟩ : ∃ V, V = V2 ++ ⟨#[32, 62, 32]⟩ := ⟨_, rfl⟩
            have zV3 : V3.size ≤ 330105 := by rw [hV3, ByteArray.size_append]; first | omega | (show V2.size + 3 ≤ _; omega)
            have nV3 : ¬ 9223372036854775807 < V2.size + 3 := by omega
            obtain ⟨V4, hV4⟩ : ∃ V, V = V3 ++ D2 := ⟨_, rfl⟩
            have zV4 : V4.size ≤ 330125 := by rw [hV4, ByteArray.size_append]; first | omega | (show V3.size + D2.size ≤ _; omega)
            have nV4 : ¬ 9223372036854775807 < V3.size + D2.size := by omega
            obtain ⟨V5, hV5⟩ : ∃ V, V = V4 ++ ⟨#[10]⟩ := ⟨_, rfl⟩
            have zV5 : V5.size ≤ 330126 := by rw [hV5, ByteArray.size_append]; first | omega | (show V4.size + 1 ≤ _; omega)
            have nV5 : ¬ 9223372036854775807 < V4.size + 1 := by omega
            have HV := Lib.hid (show V5 = S2 ++ bs (lAns a ++ [10]) from by rw [hV5, hV4, hV3, hV2, hV1]; exact gt_bs2 HTX.out HN2.out HD2.out)
            replace hV1 := hV1.symm
            replace hV2 := hV2.symm
            replace hV3 := hV3.symm
            replace hV4 := hV4.symm
            replace hV5 := hV5.symm
            have HF6 := Lib.hid (show V5 = bs (preA p k q (j + 1)) from by rw [preA_succ HA.out, HV.out, HS2.out, bs_append])
            go_wp2_with fail
            rw [← hW4]
            clear hW4 q0 q1 q2 q3 g0 g1
            refine (HIT2.out _).mono ?_
            rintro e w' ⟨rfl, nd, rfl⟩
            go_wp2_with fail
            clear hV1 hV2 hV3 hV4 hV5
            go_roundw
            case rel => exact ⟨j + 1, by omega, by go_num, congrArg Value.string HF6.out, below_drewN' HB5.out _⟩
            case measure => simp [intOf]; omega
          · obtain ⟨D2, hD2⟩ : ∃ x, x = bs (dec a.urg) := ⟨_, rfl⟩
            have hnx : (1 ≤ a.urg ∧ a.urg ≤ 5) ∧ CodeOk a.code := by
              rcases HAO.out.2 with q | q
              · exact q.2
              · exact absurd q.1.1 hn
            have hD2l : D2.size ≤ 20 := by
              have h1 := dec_len (z := a.urg) (by omega)
              rw [hD2, bs_size]
              omega
            have hcl : a.code.size ≤ 40 := hnx.2.1.2
            have HIT2 : Hid (∀ Y, Calls Tryz.prog 38 #[.int .i64 a.urg] Y fun e w' => e = .returned (.string D2) ∧ ∃ m, w' = Y.drewN m) := Lib.hid (fun Y => by
              have h1 := num_any a.urg (by omega) (by omega) Y
              rw [← hD2] at h1
              exact h1)
            have HD2 := Lib.hid hD2
            have HN2 := Lib.hid hn
            clear hD2 hnx
            have dn : decide (a.next ≥ 0) = false := decide_eq_false hn
            obtain ⟨V1, hV1⟩ : ∃ V, V = S2 ++ ⟨#[45, 32]⟩ := ⟨_, rfl⟩
            have zV1 : V1.size ≤ 330002 := by rw [hV1, ByteArray.size_append]; first | omega | (show S2.size + 2 ≤ _; omega)
            have nV1 : ¬ 9223372036854775807 < S2.size + 2 := by omega
            obtain ⟨V2, hV2⟩ : ∃ V, V = V1 ++ T2 := ⟨_, rfl⟩
            have zV2 : V2.size ≤ 330102 := by rw [hV2, ByteArray.size_append]; first | omega | (show V1.size + T2.size ≤ _; omega)
            have nV2 : ¬ 9223372036854775807 < V1.size + T2.size := by omega
            obtain ⟨V3, hV3⟩ : ∃ V, V = V2 ++ ⟨#[32, 61, 32]⟩ := ⟨_, rfl⟩
            have zV3 : V3.size ≤ 330105 := by rw [hV3, ByteArray.size_append]; first | omega | (show V2.size + 3 ≤ _; omega)
            have nV3 : ¬ 9223372036854775807 < V2.size + 3 := by omega
            obtain ⟨V4, hV4⟩ : ∃ V, V = V3 ++ D2 := ⟨_, rfl⟩
            have zV4 : V4.size ≤ 330125 := by rw [hV4, ByteArray.size_append]; first | omega | (show V3.size + D2.size ≤ _; omega)
            have nV4 : ¬ 9223372036854775807 < V3.size + D2.size := by omega
            obtain ⟨V5, hV5⟩ : ∃ V, V = V4 ++ ⟨#[32]⟩ := ⟨_, rfl⟩
            have zV5 : V5.size ≤ 330126 := by rw [hV5, ByteArray.size_append]; first | omega | (show V4.size + 1 ≤ _; omega)
            have nV5 : ¬ 9223372036854775807 < V4.size + 1 := by omega
            obtain ⟨V6, hV6⟩ : ∃ V, V = V5 ++ a.code := ⟨_, rfl⟩
            have zV6 : V6.size ≤ 330166 := by rw [hV6, ByteArray.size_append]; first | omega | (show V5.size + a.code.size ≤ _; omega)
            have nV6 : ¬ 9223372036854775807 < V5.size + a.code.size := by omega
            obtain ⟨V7, hV7⟩ : ∃ V, V = V6 ++ ⟨#[10]⟩ := ⟨_, rfl⟩
            have zV7 : V7.size ≤ 330167 := by rw [hV7, ByteArray.size_append]; first | omega | (show V6.size + 1 ≤ _; omega)
            have nV7 : ¬ 9223372036854775807 < V6.size + 1 := by omega
            have HV := Lib.hid (show V7 = S2 ++ bs (lAns a ++ [10]) from by rw [hV7, hV6, hV5, hV4, hV3, hV2, hV1]; exact eq_bs2 HTX.out rfl HN2.out HD2.out)
            replace hV1 := hV1.symm
            replace hV2 := hV2.symm
            replace hV3 := hV3.symm
            replace hV4 := hV4.symm
            replace hV5 := hV5.symm
            replace hV6 := hV6.symm
            replace hV7 := hV7.symm
            have HF6 := Lib.hid (show V7 = bs (preA p k q (j + 1)) from by rw [preA_succ HA.out, HV.out, HS2.out, bs_append])
            go_wp2_with fail
            rw [← hW4]
            clear hW4 q0 q1 q2 q3 g0 g1
            refine wp_region_held_drew (S := fun Y => Y.heap[wr.heap.size]? = some (.cells #[.string T2, .int .i64 a.next, .int .i64 a.urg, .string a.code] 45 (0, 0))) (by kernel_rfl) HROW2.out (fun hHeld => ?_)
            have HB3 := Lib.hid (show Below W1.heap.size W1 W4.drew from HB5.out.drew)
            obtain ⟨U0, hU0⟩ : ∃ U, U = W4.drew := ⟨_, rfl⟩
            rw [← hU0] at hHeld HB3 ⊢
            clear hU0
            refine wpAnyH_take (i := 0) (v := .string V2) rfl (by kernel_rfl) (by kernel_rfl) (by kernel_rfl) (fun _ _ _ h => h) (Or.inl ⟨by rfl, ?_⟩) (by assumption) ?_
            · intro w hSw
              go_simp
            show wpAnyH _ _ _ _ _ _ _ (Act.put _ (some 63) _) _
            simp only [Act.put, List.setIfInBounds_toArray, List.set_cons_zero, List.set_cons_succ]
            refine wpAnyH_take (i := 1) (v := .string V3) rfl (by kernel_rfl) (by kernel_rfl) (by kernel_rfl) (fun _ _ _ h => h) (Or.inl ⟨by rfl, ?_⟩) (by assumption) ?_
            · intro w hSw
              go_simp
            show wpAnyH _ _ _ _ _ _ _ (Act.put _ (some 64) _) _
            simp only [Act.put, List.setIfInBounds_toArray, List.set_cons_zero, List.set_cons_succ]
            refine wpAnyH_take (i := 2) (v := .pointer (some ⟨wr.heap.size, 2, none⟩)) rfl (by kernel_rfl) (by kernel_rfl) (by kernel_rfl) (fun _ _ _ h => h) (Or.inl ⟨by rfl, ?_⟩) (by assumption) ?_
            · intro w hSw
              go_simp
            show wpAnyH _ _ _ _ _ _ _ (Act.put _ (some 65) _) _
            simp only [Act.put, List.setIfInBounds_toArray, List.set_cons_zero, List.set_cons_succ]
            refine wpAnyH_take (i := 3) (v := .int .i64 a.urg) rfl (by kernel_rfl) (by kernel_rfl) (by kernel_rfl) (fun _ _ _ h => h) (Or.inl ⟨by rfl, ?_⟩) (by assumption) ?_
            · intro w hSw
              have s0 := (cell_of_row _ _ 2 _ _ _ hSw).trans (rfl : _ = some (Value.int .i64 a.urg))
              go_simp
            show wpAnyH _ _ _ _ _ _ _ (Act.put _ (some 66) _) _
            simp only [Act.put, List.setIfInBounds_toArray, List.set_cons_zero, List.set_cons_succ]
            refine wpAnyH_take (i := 7) (v := .pointer (some ⟨wr.heap.size, 3, none⟩)) rfl (by kernel_rfl) (by kernel_rfl) (by kernel_rfl) (fun _ _ _ h => h) (Or.inl ⟨by rfl, ?_⟩) (by assumption) ?_
            · intro w hSw
              go_simp
            show wpAnyH _ _ _ _ _ _ _ (Act.put _ (some 70) _) _
            simp only [Act.put, List.setIfInBounds_toArray, List.set_cons_zero, List.set_cons_succ]
            refine wpAnyH_take (i := 8) (v := .string a.code) rfl (by kernel_rfl) (by kernel_rfl) (by kernel_rfl) (fun _ _ _ h => h) (Or.inl ⟨by rfl, ?_⟩) (by assumption) ?_
            · intro w hSw
              have s0 := (cell_of_row _ _ 3 _ _ _ hSw).trans (rfl : _ = some (Value.string a.code))
              go_simp
            show wpAnyH _ _ _ _ _ _ _ (Act.put _ (some 71) _) _
            simp only [Act.put, List.setIfInBounds_toArray, List.set_cons_zero, List.set_cons_succ]
            refine wpAnyH_ready (rs := [4]) (by kernel_rfl) (by simp) ?_
            refine AllReadyH.cons rfl (fun K hK => ?_) AllReadyH.nil
            go_simp
            refine (HIT2.out _).mono ?_
            rintro e w' ⟨rfl, nd, rfl⟩
            go_simp
            refine hK.out _ _ hHeld (fun hHeld => ?_)
            clear hK K
            refine wpAnyH_take (i := 5) (v := .string V4) rfl (by kernel_rfl) (by kernel_rfl) (by kernel_rfl) (fun _ _ _ h => h) (Or.inl ⟨by rfl, ?_⟩) (by assumption) ?_
            · intro w hSw
              go_simp
            show wpAnyH _ _ _ _ _ _ _ (Act.put _ (some 68) _) _
            simp only [Act.put, List.setIfInBounds_toArray, List.set_cons_zero, List.set_cons_succ]
            refine wpAnyH_take (i := 6) (v := .string V5) rfl (by kernel_rfl) (by kernel_rfl) (by kernel_rfl) (fun _ _ _ h => h) (Or.inl ⟨by rfl, ?_⟩) (by assumption) ?_
            · intro w hSw
              go_simp
            show wpAnyH _ _ _ _ _ _ _ (Act.put _ (some 69) _) _
            simp only [Act.put, List.setIfInBounds_toArray, List.set_cons_zero, List.set_cons_succ]
            refine wpAnyH_take (i := 9) (v := .string V6) rfl (by kernel_rfl) (by kernel_rfl) (by kernel_rfl) (fun _ _ _ h => h) (Or.inl ⟨by rfl, ?_⟩) (by assumption) ?_
            · intro w hSw
              go_simp
            show wpAnyH _ _ _ _ _ _ _ (Act.put _ (some 72) _) _
            simp only [Act.put, List.setIfInBounds_toArray, List.set_cons_zero, List.set_cons_succ]
            refine wpAnyH_take (i := 10) (v := .string V7) rfl (by kernel_rfl) (by kernel_rfl) (by kernel_rfl) (fun _ _ _ h => h) (Or.inl ⟨by rfl, ?_⟩) (by assumption) ?_
            · intro w hSw
              go_simp
            show wpAnyH _ _ _ _ _ _ _ (Act.put _ (some 73) _) _
            simp only [Act.put, List.setIfInBounds_toArray, List.set_cons_zero, List.set_cons_succ]
            refine wpAnyH_take (i := 11) (v := .string V7) rfl (by kernel_rfl) (by kernel_rfl) (by kernel_rfl) (fun _ _ _ h => h) (Or.inl ⟨by rfl, ?_⟩) (by assumption) ?_
            · intro w hSw
              go_simp
            show wpAnyH _ _ _ _ _ _ _ (Act.put _ (some 6) _) _
            simp only [Act.put, List.setIfInBounds_toArray, List.set_cons_zero, List.set_cons_succ]
            refine wpAnyH_done (by kernel_rfl) ?_ _
            clear hHeld hV1 hV2 hV3 hV4 hV5 hV6 hV7
            go_wp2_with fail
            go_roundw
            case rel => exact ⟨j + 1, by omega, by go_num, congrArg Value.string HF6.out, below_drewN' HB3.out _⟩
            case measure => simp [intOf]; omega
        · obtain rfl : j = l := by omega
          have HF7 := Lib.hid (show S2 = bs (preP p (k + 1)) from by rw [HS2.out, ← preA_all HQ.out, ← HT.out.2])
          have HB6 := Lib.hid hfj
          clear hfj
          go_wp2_with fail
          go_roundw
          case rel => exact ⟨k + 1, by omega, by go_num, congrArg Value.string HF7.out, HB6.out⟩
          case measure => simp [intOf]; omega
    · obtain rfl : k = m := by omega
      have HBW := Lib.hid (HB1.out.trans (hf.mono HB1.out.size))
      clear hf
      go_wp2_with fail
      go_ret2
      refine ⟨?_, HBW.out⟩
      rw [HS.out, HN.out.1, preP_all]
      rfl
theorem refText_any (w : World) (p : Prot) (h : ProtAt w w.heap.size p) (hwf : ProtWf p) :
    Calls Tryz.prog 19 #[.agg #[.string p.name, .int .i64 p.ver, .slice p.qA p.qs.length p.qc]] w fun e w' => ∃ s b, e = .returned (.tuple #[.string s, .int .i64 b]) ∧ FmtOf p s b ∧ Below w.heap.size w w' := by
  by_cases hok : ProtOk p
  · refine (text_ok w p h hwf hok).mono ?_
    rintro e w' ⟨rfl, hb⟩
    exact ⟨_, _, rfl, .inl ⟨hok, rfl, rfl⟩, hb⟩
  · refine (text_bad w p h hwf hok).mono ?_
    rintro e w' ⟨rfl, hb⟩
    exact ⟨_, _, rfl, .inr ⟨hok, rfl, rfl⟩, hb⟩
end Go.Proofs.YtbbklideciappaaGreatDoor
