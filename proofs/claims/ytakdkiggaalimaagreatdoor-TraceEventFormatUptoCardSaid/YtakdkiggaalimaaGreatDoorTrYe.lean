/-
  samaritanref51: Right (printed by gentrxu.py).
  samaritanref51: Text (printed by gentrxv.py).
  trace.ParseEvent (printed by gentrpa.py).
  What ParseEvent and the reference say of a text; what formatting says (printed by gentrlp.py).
  What trace.Parse makes of a text, in plain Lean: the good lines ahead, and whether that was all; there is one answer at most. And strings.Cut at a line's end.
  trace.Parse (printed by gentrps.py).
  samaritanref51: FewAct.
  samaritanref51: Few; how a slice of events comes in, whole (printed by gentrjn.py).
  slices.EqualFunc at events; trace.Equal (printed by gentreq51.py).
  samaritanlaw51.wakes: the examples of the document.
  samaritanlaw51.TraceEventFormat: the walk (printed by gentrle.py).
-/
import Derived.Test.YtakdkiggaalimaaGreatDoorTrYc
import Derived.Test.YtakdkiggaalimaaGreatDoorTrYa
import Derived.Test.YtakdkiggaalimaaGreatDoorTrPc
import Derived.Test.YtakdkiggaalimaaGreatDoorTrSp
import Derived.Test.YtakdkiggaalimaaGreatDoorTrLn
import Derived.Deep.WholeRow
import Derived.Test.YtakdkiggaalimaaGreatDoorTrFs
import Derived.Great.BuildSlice
import Derived.OwnWalk
import Derived.Test.YtakdkiggaalimaaGreatDoorTrXa
import Derived.Deep.MidRow
import Derived.Test.YtakdkiggaalimaaGreatDoorTrFm
namespace Go.Proofs.YtakdkiggaalimaaGreatDoor
section
open Go.RowKit Go.Maps

theorem ev_ok (e : EvC) : EvOk e ↔ evN e.kind ≠ [] ∧ e = onlyE e ∧ (0 ≤ e.tick ∧ e.tick ≤ 1099511627776) ∧ (e.kind = 1 → ActOk e.act) := by
  unfold EvOk
  rw [onlyE_iff]
  have h4 : 4 ∈ evF e.kind ↔ e.kind = 1 := by
    by_cases h : 1 ≤ e.kind ∧ e.kind ≤ 13
    · exact int_13 (P := fun k => 4 ∈ evF k ↔ k = 1) (by decide) h.1 h.2
    · rw [show evF e.kind = [] from tabF_out (by show e.kind < 1 ∨ ((13 : Nat) : Int) < e.kind; omega)]
      constructor
      · intro q
        cases q
      · intro q
        omega
  rw [h4]
  exact ⟨fun ⟨a, b, c, d⟩ => ⟨a, d, b, c⟩, fun ⟨a, b, c, d⟩ => ⟨a, c, d, b⟩⟩
set_option maxRecDepth 100000 in
set_option maxHeartbeats 4000000 in
theorem right_any (a : EvM) (w : World) (hat : EvAt w w.heap.size a) (hl : ActL a.act) : Calls Tryz.prog 38 #[evV a] w fun e w' => e = .returned (.bool (tb (EvOk a.con))) ∧ Below w.heap.size w w' := by
  obtain ⟨L, hL⟩ : ∃ L, L = evCs a := ⟨_, rfl⟩
  have hv : evV a = .agg L.toArray := by rw [hL]; rfl
  have HSZ := Lib.hid (And.intro (show (Tryz.prog.info? 35).map (·.size) = some L.length by rw [hL]; exact ev_size) (show (Tryz.prog.info? 33).map (·.size) = some (actCs a.act).length from act_size))
  obtain ⟨W1, hW1⟩ : ∃ W1, W1 = (w.alloc (.cells L.toArray 35)) := ⟨_, rfl⟩
  have hb1 : Below w.heap.size w W1 := by rw [hW1]; exact below_new _ _
  have hlt1 : w.heap.size < W1.heap.size := by rw [hW1]; simp
  have hrow : W1.rangeAt w.heap.size 0 (evCs a) := fun j v hj => by
    have h := new_obj w (.cells L.toArray 35)
    rw [hW1, Lib.cell_of_heap h, hL]
    simpa using hj
  have HRG := Lib.hid (show ∀ w' : World, Below W1.heap.size W1 w' → w'.rangeAt w.heap.size 0 (evCs a) from fun w' hb j v hj => (hb.cell (p := ⟨w.heap.size, 0 + j, none⟩) hlt1).trans (hrow j v hj))
  have HRL := Lib.hid (show ∀ w' : World, Below W1.heap.size W1 w' → w'.rangeAt w.heap.size 0 L from fun w' hb => by rw [hL]; exact HRG.out w' hb)
  have HRA := Lib.hid (show ∀ w' : World, Below W1.heap.size W1 w' → w'.rangeAt w.heap.size 19 (actCs a.act) from fun w' hb => range_part (HRG.out w' hb) (fun j v hj => by
    match j, hj with
    | 0, hj => exact hj
    | 1, hj => exact hj
    | 2, hj => exact hj
    | 3, hj => exact hj
    | 4, hj => exact hj
    | 5, hj => exact hj
    | 6, hj => exact hj
    | 7, hj => exact hj
    | j + 8, hj => simp [actCs] at hj))
  have HB1 := Lib.hid (And.intro hb1 (And.intro hat hl))
  have HEW := Lib.hid (fun X : World => evWord_any a.kind X)
  have HOE := Lib.hid (fun (X : World) (hb : Below W1.heap.size W1 X) => onlyEv_any a X w.heap.size (hat.below ((hb1.trans (hb.mono hb1.size)))) (Nat.le_trans hb1.size hb.size) hl)
  have HON := Lib.hid (fun (X : World) (hb : Below W1.heap.size W1 X) (a' : EvM) (B : Nat) (h : EvAt X B a') (hB : B ≤ X.heap.size) => one_any a a' X w.heap.size B (hat.below ((hb1.trans (hb.mono hb1.size)))) h (Nat.le_trans hb1.size hb.size) hB hl)
  have HRI := Lib.hid (fun (X : World) (hb : Below W1.heap.size W1 X) => rightAct_any a.act X ((hat.act.below (hb1.trans (hb.mono hb1.size))).more (hb1.trans (hb.mono hb1.size)).size) hl)
  rw [show actV a.act = .agg (actCs a.act).toArray from rfl] at HRI
  rw [hv] at HOE HON ⊢
  obtain ⟨kk, hkk⟩ : ∃ kk, kk = a.kind := ⟨_, rfl⟩
  obtain ⟨tk, htk⟩ : ∃ tk, tk = a.tick := ⟨_, rfl⟩
  have HC0 := Lib.hid (show ∀ w' : World, Below W1.heap.size W1 w' → w'.cell? ⟨w.heap.size, 0, none⟩ = some (.int .i64 kk) ∧ w'.cell? ⟨w.heap.size, 1, none⟩ = some (.int .i64 tk) from fun w' hb => by rw [hkk, htk]; exact ⟨HRG.out w' hb 0 _ rfl, HRG.out w' hb 1 _ rfl⟩)
  rw [← hkk] at HEW
  have HOK := Lib.hid (show EvOk a.con ↔ evN kk ≠ [] ∧ a.con = onlyE a.con ∧ (0 ≤ tk ∧ tk ≤ 1099511627776) ∧ (kk = 1 → ActOk a.act.con) by rw [hkk, htk]; exact ev_ok a.con)
  have HHD := Lib.hid (show Below W1.heap.size W1 W1.drew from below_dr (Below.refl _ _) 1)
  obtain ⟨nm, hnm⟩ : ∃ nm, nm = evN kk := ⟨_, rfl⟩
  rw [← hnm] at HEW HOK
  clear hL hv hb1 hlt1 hrow hat hl hkk htk hnm
  go_enter Tryz.func38, Tryz.ntmps38
  go_wp2_with fail
  rw [← hW1]
  clear hW1
  by_cases hne : nm = []
  · have hnn : (bs nm).toList = [] := by rw [ByteArray.toList_eq, bs_data]; exact hne
    have HF : Hid (¬ EvOk a.con) := Lib.hid (fun h => (HOK.out.1 h).1 hne)
    clear hne
    refine wp_region_held_drew (S := fun W' => Below W1.heap.size W1 W') (by kernel_rfl) HHD.out (fun hHeld => ?_)
    refine wpAnyH_take (i := 0) (v := .pointer (some ⟨w.heap.size, 0, none⟩)) rfl (by kernel_rfl) (by kernel_rfl) (by kernel_rfl) (fun _ _ _ h => h) (Or.inl ⟨by rfl, ?_⟩) (by assumption) ?_
    · intro w' hSw
      go_simp
    show wpAnyH _ _ _ _ _ _ _ (Act.put _ (some 3) _) _
    simp only [Act.put, List.setIfInBounds_toArray, List.set_cons_zero, List.set_cons_succ]
    refine wpAnyH_take (i := 1) (v := .int .i64 kk) rfl (by kernel_rfl) (by kernel_rfl) (by kernel_rfl) (fun _ _ _ h => h) (Or.inl ⟨by rfl, ?_⟩) (by assumption) ?_
    · intro w' hSw
      have hc := (HC0.out w' hSw).1
      go_simp
    show wpAnyH _ _ _ _ _ _ _ (Act.put _ (some 4) _) _
    simp only [Act.put, List.setIfInBounds_toArray, List.set_cons_zero, List.set_cons_succ]
    refine wpAnyH_ready (rs := [2]) (by kernel_rfl) (by simp) ?_
    refine AllReadyH.cons rfl (fun K hK => ?_) AllReadyH.nil
    go_simp
    refine (HEW.out _).mono ?_
    rintro e X1 ⟨rfl, hx1⟩
    go_simp
    refine hK.out _ _ (hHeld.trans (hx1.mono hHeld.size)) (fun hHeld => ?_)
    clear hK K
    have hX1 := hHeld
    clear hx1
    refine wpAnyH_take (i := 3) (v := .bool false) rfl (by kernel_rfl) (by kernel_rfl) (by kernel_rfl) (fun _ _ _ h => h) (Or.inl ⟨by rfl, ?_⟩) (by assumption) ?_
    · intro w' hSw
      go_simp
    show wpAnyH _ _ _ _ _ _ _ (Act.put _ (some 6) _) _
    simp only [Act.put, List.setIfInBounds_toArray, List.set_cons_zero, List.set_cons_succ]
    refine wpAnyH_take (i := 4) (v := .bool false) rfl (by kernel_rfl) (by kernel_rfl) (by kernel_rfl) (fun _ _ _ h => h) (Or.inl ⟨by rfl, ?_⟩) (by assumption) ?_
    · intro w' hSw
      go_simp
    show wpAnyH _ _ _ _ _ _ _ (Act.put _ (some 7) _) _
    simp only [Act.put, List.setIfInBounds_toArray, List.set_cons_zero, List.set_cons_succ]
    refine wpAnyH_take (i := 5) (v := undef) rfl (by kernel_rfl) (by kernel_rfl) (by kernel_rfl) (fun _ _ _ h => h) (Or.inr ⟨by rfl, rfl⟩) (by assumption) ?_
    show wpAnyH _ _ _ _ _ _ _ (Act.put _ (some 8) _) _
    simp only [Act.put, List.setIfInBounds_toArray, List.set_cons_zero, List.set_cons_succ]
    refine wpAnyH_take (i := 6) (v := undef) rfl (by kernel_rfl) (by kernel_rfl) (by kernel_rfl) (fun _ _ _ h => h) (Or.inr ⟨by rfl, rfl⟩) (by assumption) ?_
    show wpAnyH _ _ _ _ _ _ _ (Act.put _ (some 9) _) _
    simp only [Act.put, List.setIfInBounds_toArray, List.set_cons_zero, List.set_cons_succ]
    refine wpAnyH_take (i := 7) (v := undef) rfl (by kernel_rfl) (by kernel_rfl) (by kernel_rfl) (fun _ _ _ h => h) (Or.inr ⟨by rfl, rfl⟩) (by assumption) ?_
    show wpAnyH _ _ _ _ _ _ _ (Act.put _ (some 10) _) _
    simp only [Act.put, List.setIfInBounds_toArray, List.set_cons_zero, List.set_cons_succ]
    refine wpAnyH_take (i := 8) (v := undef) rfl (by kernel_rfl) (by kernel_rfl) (by kernel_rfl) (fun _ _ _ h => h) (Or.inr ⟨by rfl, rfl⟩) (by assumption) ?_
    show wpAnyH _ _ _ _ _ _ _ (Act.put _ (some 11) _) _
    simp only [Act.put, List.setIfInBounds_toArray, List.set_cons_zero, List.set_cons_succ]
    refine wpAnyH_take (i := 9) (v := .bool false) rfl (by kernel_rfl) (by kernel_rfl) (by kernel_rfl) (fun _ _ _ h => h) (Or.inl ⟨by rfl, ?_⟩) (by assumption) ?_
    · intro w' hSw
      go_simp
    show wpAnyH _ _ _ _ _ _ _ (Act.put _ (some 12) _) _
    simp only [Act.put, List.setIfInBounds_toArray, List.set_cons_zero, List.set_cons_succ]
    refine wpAnyH_take (i := 10) (v := .bool false) rfl (by kernel_rfl) (by kernel_rfl) (by kernel_rfl) (fun _ _ _ h => h) (Or.inl ⟨by rfl, ?_⟩) (by assumption) ?_
    · intro w' hSw
      go_simp
    show wpAnyH _ _ _ _ _ _ _ (Act.put _ (some 13) _) _
    simp only [Act.put, List.setIfInBounds_toArray, List.set_cons_zero, List.set_cons_succ]
    refine wpAnyH_take (i := 11) (v := undef) rfl (by kernel_rfl) (by kernel_rfl) (by kernel_rfl) (fun _ _ _ h => h) (Or.inr ⟨by rfl, rfl⟩) (by assumption) ?_
    show wpAnyH _ _ _ _ _ _ _ (Act.put _ (some 14) _) _
    simp only [Act.put, List.setIfInBounds_toArray, List.set_cons_zero, List.set_cons_succ]
    refine wpAnyH_take (i := 12) (v := undef) rfl (by kernel_rfl) (by kernel_rfl) (by kernel_rfl) (fun _ _ _ h => h) (Or.inr ⟨by rfl, rfl⟩) (by assumption) ?_
    show wpAnyH _ _ _ _ _ _ _ (Act.put _ (some 15) _) _
    simp only [Act.put, List.setIfInBounds_toArray, List.set_cons_zero, List.set_cons_succ]
    refine wpAnyH_take (i := 13) (v := undef) rfl (by kernel_rfl) (by kernel_rfl) (by kernel_rfl) (fun _ _ _ h => h) (Or.inr ⟨by rfl, rfl⟩) (by assumption) ?_
    show wpAnyH _ _ _ _ _ _ _ (Act.put _ (some 16) _) _
    simp only [Act.put, List.setIfInBounds_toArray, List.set_cons_zero, List.set_cons_succ]
    refine wpAnyH_take (i := 14) (v := .bool false) rfl (by kernel_rfl) (by kernel_rfl) (by kernel_rfl) (fun _ _ _ h => h) (Or.inl ⟨by rfl, ?_⟩) (by assumption) ?_
    · intro w' hSw
      go_simp
    show wpAnyH _ _ _ _ _ _ _ (Act.put _ (some 17) _) _
    simp only [Act.put, List.setIfInBounds_toArray, List.set_cons_zero, List.set_cons_succ]
    refine wpAnyH_take (i := 15) (v := .bool false) rfl (by kernel_rfl) (by kernel_rfl) (by kernel_rfl) (fun _ _ _ h => h) (Or.inl ⟨by rfl, ?_⟩) (by assumption) ?_
    · intro w' hSw
      go_simp
    show wpAnyH _ _ _ _ _ _ _ (Act.put _ (some 18) _) _
    simp only [Act.put, List.setIfInBounds_toArray, List.set_cons_zero, List.set_cons_succ]
    refine wpAnyH_take (i := 16) (v := undef) rfl (by kernel_rfl) (by kernel_rfl) (by kernel_rfl) (fun _ _ _ h => h) (Or.inr ⟨by rfl, rfl⟩) (by assumption) ?_
    show wpAnyH _ _ _ _ _ _ _ (Act.put _ (some 19) _) _
    simp only [Act.put, List.setIfInBounds_toArray, List.set_cons_zero, List.set_cons_succ]
    refine wpAnyH_take (i := 17) (v := undef) rfl (by kernel_rfl) (by kernel_rfl) (by kernel_rfl) (fun _ _ _ h => h) (Or.inr ⟨by rfl, rfl⟩) (by assumption) ?_
    show wpAnyH _ _ _ _ _ _ _ (Act.put _ (some 20) _) _
    simp only [Act.put, List.setIfInBounds_toArray, List.set_cons_zero, List.set_cons_succ]
    refine wpAnyH_take (i := 18) (v := undef) rfl (by kernel_rfl) (by kernel_rfl) (by kernel_rfl) (fun _ _ _ h => h) (Or.inr ⟨by rfl, rfl⟩) (by assumption) ?_
    show wpAnyH _ _ _ _ _ _ _ (Act.put _ (some 21) _) _
    simp only [Act.put, List.setIfInBounds_toArray, List.set_cons_zero, List.set_cons_succ]
    refine wpAnyH_take (i := 19) (v := .bool false) rfl (by kernel_rfl) (by kernel_rfl) (by kernel_rfl) (fun _ _ _ h => h) (Or.inl ⟨by rfl, ?_⟩) (by assumption) ?_
    · intro w' hSw
      go_simp
    show wpAnyH _ _ _ _ _ _ _ (Act.put _ (some 22) _) _
    simp only [Act.put, List.setIfInBounds_toArray, List.set_cons_zero, List.set_cons_succ]
    refine wpAnyH_take (i := 20) (v := .bool false) rfl (by kernel_rfl) (by kernel_rfl) (by kernel_rfl) (fun _ _ _ h => h) (Or.inl ⟨by rfl, ?_⟩) (by assumption) ?_
    · intro w' hSw
      go_simp
    show wpAnyH _ _ _ _ _ _ _ (Act.put _ (some 23) _) _
    simp only [Act.put, List.setIfInBounds_toArray, List.set_cons_zero, List.set_cons_succ]
    refine wpAnyH_take (i := 21) (v := undef) rfl (by kernel_rfl) (by kernel_rfl) (by kernel_rfl) (fun _ _ _ h => h) (Or.inr ⟨by rfl, rfl⟩) (by assumption) ?_
    show wpAnyH _ _ _ _ _ _ _ (Act.put _ (some 24) _) _
    simp only [Act.put, List.setIfInBounds_toArray, List.set_cons_zero, List.set_cons_succ]
    refine wpAnyH_take (i := 22) (v := undef) rfl (by kernel_rfl) (by kernel_rfl) (by kernel_rfl) (fun _ _ _ h => h) (Or.inr ⟨by rfl, rfl⟩) (by assumption) ?_
    show wpAnyH _ _ _ _ _ _ _ (Act.put _ (some 25) _) _
    simp only [Act.put, List.setIfInBounds_toArray, List.set_cons_zero, List.set_cons_succ]
    refine wpAnyH_take (i := 23) (v := undef) rfl (by kernel_rfl) (by kernel_rfl) (by kernel_rfl) (fun _ _ _ h => h) (Or.inr ⟨by rfl, rfl⟩) (by assumption) ?_
    show wpAnyH _ _ _ _ _ _ _ (Act.put _ (some 26) _) _
    simp only [Act.put, List.setIfInBounds_toArray, List.set_cons_zero, List.set_cons_succ]
    refine wpAnyH_take (i := 24) (v := undef) rfl (by kernel_rfl) (by kernel_rfl) (by kernel_rfl) (fun _ _ _ h => h) (Or.inr ⟨by rfl, rfl⟩) (by assumption) ?_
    show wpAnyH _ _ _ _ _ _ _ (Act.put _ (some 27) _) _
    simp only [Act.put, List.setIfInBounds_toArray, List.set_cons_zero, List.set_cons_succ]
    refine wpAnyH_take (i := 25) (v := undef) rfl (by kernel_rfl) (by kernel_rfl) (by kernel_rfl) (fun _ _ _ h => h) (Or.inr ⟨by rfl, rfl⟩) (by assumption) ?_
    show wpAnyH _ _ _ _ _ _ _ (Act.put _ (some 28) _) _
    simp only [Act.put, List.setIfInBounds_toArray, List.set_cons_zero, List.set_cons_succ]
    refine wpAnyH_take (i := 26) (v := undef) rfl (by kernel_rfl) (by kernel_rfl) (by kernel_rfl) (fun _ _ _ h => h) (Or.inr ⟨by rfl, rfl⟩) (by assumption) ?_
    show wpAnyH _ _ _ _ _ _ _ (Act.put _ (some 29) _) _
    simp only [Act.put, List.setIfInBounds_toArray, List.set_cons_zero, List.set_cons_succ]
    refine wpAnyH_take (i := 27) (v := undef) rfl (by kernel_rfl) (by kernel_rfl) (by kernel_rfl) (fun _ _ _ h => h) (Or.inr ⟨by rfl, rfl⟩) (by assumption) ?_
    show wpAnyH _ _ _ _ _ _ _ (Act.put _ (some 30) _) _
    simp only [Act.put, List.setIfInBounds_toArray, List.set_cons_zero, List.set_cons_succ]
    refine wpAnyH_take (i := 28) (v := undef) rfl (by kernel_rfl) (by kernel_rfl) (by kernel_rfl) (fun _ _ _ h => h) (Or.inr ⟨by rfl, rfl⟩) (by assumption) ?_
    show wpAnyH _ _ _ _ _ _ _ (Act.put _ (some 31) _) _
    simp only [Act.put, List.setIfInBounds_toArray, List.set_cons_zero, List.set_cons_succ]
    refine wpAnyH_take (i := 29) (v := .bool false) rfl (by kernel_rfl) (by kernel_rfl) (by kernel_rfl) (fun _ _ _ h => h) (Or.inl ⟨by rfl, ?_⟩) (by assumption) ?_
    · intro w' hSw
      go_simp
    show wpAnyH _ _ _ _ _ _ _ (Act.put _ (some 32) _) _
    simp only [Act.put, List.setIfInBounds_toArray, List.set_cons_zero, List.set_cons_succ]
    refine wpAnyH_take (i := 30) (v := .bool false) rfl (by kernel_rfl) (by kernel_rfl) (by kernel_rfl) (fun _ _ _ h => h) (Or.inl ⟨by rfl, ?_⟩) (by assumption) ?_
    · intro w' hSw
      go_simp
    show wpAnyH _ _ _ _ _ _ _ (Act.put _ (some 2) _) _
    simp only [Act.put, List.setIfInBounds_toArray, List.set_cons_zero, List.set_cons_succ]
    refine wpAnyH_done (by kernel_rfl) ?_ _
    go_wp2_with fail
    go_ret
    exact ⟨ret_no HF.out, HB1.out.1.trans (hX1.mono HB1.out.1.size)⟩
  have hnn : ¬ (bs nm).toList = [] := by rw [ByteArray.toList_eq, bs_data]; exact hne
  have HNE := Lib.hid hne
  clear hne
  by_cases hsm : a.con = onlyE a.con
  rotate_left
  · have HSM := Lib.hid hsm
    have HF : Hid (¬ EvOk a.con) := Lib.hid (fun h => hsm (HOK.out.1 h).2.1)
    clear hsm
    refine wp_region_held_drew (S := fun W' => Below W1.heap.size W1 W') (by kernel_rfl) HHD.out (fun hHeld => ?_)
    refine wpAnyH_take (i := 0) (v := .pointer (some ⟨w.heap.size, 0, none⟩)) rfl (by kernel_rfl) (by kernel_rfl) (by kernel_rfl) (fun _ _ _ h => h) (Or.inl ⟨by rfl, ?_⟩) (by assumption) ?_
    · intro w' hSw
      go_simp
    show wpAnyH _ _ _ _ _ _ _ (Act.put _ (some 3) _) _
    simp only [Act.put, List.setIfInBounds_toArray, List.set_cons_zero, List.set_cons_succ]
    refine wpAnyH_take (i := 1) (v := .int .i64 kk) rfl (by kernel_rfl) (by kernel_rfl) (by kernel_rfl) (fun _ _ _ h => h) (Or.inl ⟨by rfl, ?_⟩) (by assumption) ?_
    · intro w' hSw
      have hc := (HC0.out w' hSw).1
      go_simp
    show wpAnyH _ _ _ _ _ _ _ (Act.put _ (some 4) _) _
    simp only [Act.put, List.setIfInBounds_toArray, List.set_cons_zero, List.set_cons_succ]
    refine wpAnyH_ready (rs := [2]) (by kernel_rfl) (by simp) ?_
    refine AllReadyH.cons rfl (fun K hK => ?_) AllReadyH.nil
    go_simp
    refine (HEW.out _).mono ?_
    rintro e X1 ⟨rfl, hx1⟩
    go_simp
    refine hK.out _ _ (hHeld.trans (hx1.mono hHeld.size)) (fun hHeld => ?_)
    clear hK K
    have hX1 := hHeld
    clear hx1
    refine wpAnyH_take (i := 3) (v := .bool true) rfl (by kernel_rfl) (by kernel_rfl) (by kernel_rfl) (fun _ _ _ h => h) (Or.inl ⟨by rfl, ?_⟩) (by assumption) ?_
    · intro w' hSw
      go_simp
    show wpAnyH _ _ _ _ _ _ _ (Act.put _ (some 6) _) _
    simp only [Act.put, List.setIfInBounds_toArray, List.set_cons_zero, List.set_cons_succ]
    refine wpAnyH_take (i := 4) (v := .bool true) rfl (by kernel_rfl) (by kernel_rfl) (by kernel_rfl) (fun _ _ _ h => h) (Or.inl ⟨by rfl, ?_⟩) (by assumption) ?_
    · intro w' hSw
      go_simp
    show wpAnyH _ _ _ _ _ _ _ (Act.put _ (some 7) _) _
    simp only [Act.put, List.setIfInBounds_toArray, List.set_cons_zero, List.set_cons_succ]
    refine wpAnyH_take (i := 5) (v := .agg L.toArray) rfl (by kernel_rfl) (by kernel_rfl) (by kernel_rfl) (fun _ _ _ h => h) (yieldsIf_load_mid (by rfl) 35 (.tmp 1) rfl w.heap.size 0 rfl L _ (fun w' hSw => HRL.out w' hSw) Tryz.underlying35 rfl HSZ.out.1) (by assumption) ?_
    show wpAnyH _ _ _ _ _ _ _ (Act.put _ (some 8) _) _
    simp only [Act.put, List.setIfInBounds_toArray, List.set_cons_zero, List.set_cons_succ]
    refine wpAnyH_take (i := 6) (v := .agg L.toArray) rfl (by kernel_rfl) (by kernel_rfl) (by kernel_rfl) (fun _ _ _ h => h) (yieldsIf_load_mid (by rfl) 35 (.tmp 1) rfl w.heap.size 0 rfl L _ (fun w' hSw => HRL.out w' hSw) Tryz.underlying35 rfl HSZ.out.1) (by assumption) ?_
    show wpAnyH _ _ _ _ _ _ _ (Act.put _ (some 9) _) _
    simp only [Act.put, List.setIfInBounds_toArray, List.set_cons_zero, List.set_cons_succ]
    refine wpAnyH_ready (rs := [7]) (by kernel_rfl) (by simp) ?_
    refine AllReadyH.cons rfl (fun K hK => ?_) AllReadyH.nil
    go_simp
    refine (HOE.out _ (by assumption)).mono ?_
    rintro e X2 ⟨a', rfl, hcon, hat', hl', hx2⟩
    have HA' := Lib.hid (And.intro hcon (And.intro hat' hl'))
    clear hcon hat' hl'
    go_simp
    refine hK.out _ _ (hX1.trans (hx2.mono hX1.size)) (fun hHeld => ?_)
    clear hK K
    have hX2 := hHeld
    clear hx2
    refine wpAnyH_ready (rs := [8]) (by kernel_rfl) (by simp) ?_
    refine AllReadyH.cons rfl (fun K hK => ?_) AllReadyH.nil
    go_simp
    refine (HON.out _ (by assumption) a' _ HA'.out.2.1 (Nat.le_trans HB1.out.1.size hX2.size)).mono ?_
    rintro e X3 ⟨rfl, hx3⟩
    rw [tb_false (by rw [HA'.out.1]; exact HSM.out)]
    go_simp
    refine hK.out _ _ (hX2.trans (hx3.mono hX2.size)) (fun hHeld => ?_)
    clear hK K
    have hX3 := hHeld
    clear hx3
    refine wpAnyH_take (i := 9) (v := .bool false) rfl (by kernel_rfl) (by kernel_rfl) (by kernel_rfl) (fun _ _ _ h => h) (Or.inl ⟨by rfl, ?_⟩) (by assumption) ?_
    · intro w' hSw
      go_simp
    show wpAnyH _ _ _ _ _ _ _ (Act.put _ (some 12) _) _
    simp only [Act.put, List.setIfInBounds_toArray, List.set_cons_zero, List.set_cons_succ]
    refine wpAnyH_take (i := 10) (v := .bool false) rfl (by kernel_rfl) (by kernel_rfl) (by kernel_rfl) (fun _ _ _ h => h) (Or.inl ⟨by rfl, ?_⟩) (by assumption) ?_
    · intro w' hSw
      go_simp
    show wpAnyH _ _ _ _ _ _ _ (Act.put _ (some 13) _) _
    simp only [Act.put, List.setIfInBounds_toArray, List.set_cons_zero, List.set_cons_succ]
    refine wpAnyH_take (i := 11) (v := undef) rfl (by kernel_rfl) (by kernel_rfl) (by kernel_rfl) (fun _ _ _ h => h) (Or.inr ⟨by rfl, rfl⟩) (by assumption) ?_
    show wpAnyH _ _ _ _ _ _ _ (Act.put _ (some 14) _) _
    simp only [Act.put, List.setIfInBounds_toArray, List.set_cons_zero, List.set_cons_succ]
    refine wpAnyH_take (i := 12) (v := undef) rfl (by kernel_rfl) (by kernel_rfl) (by kernel_rfl) (fun _ _ _ h => h) (Or.inr ⟨by rfl, rfl⟩) (by assumption) ?_
    show wpAnyH _ _ _ _ _ _ _ (Act.put _ (some 15) _) _
    simp only [Act.put, List.setIfInBounds_toArray, List.set_cons_zero, List.set_cons_succ]
    refine wpAnyH_take (i := 13) (v := undef) rfl (by kernel_rfl) (by kernel_rfl) (by kernel_rfl) (fun _ _ _ h => h) (Or.inr ⟨by rfl, rfl⟩) (by assumption) ?_
    show wpAnyH _ _ _ _ _ _ _ (Act.put _ (some 16) _) _
    simp only [Act.put, List.setIfInBounds_toArray, List.set_cons_zero, List.set_cons_succ]
    refine wpAnyH_take (i := 14) (v := .bool false) rfl (by kernel_rfl) (by kernel_rfl) (by kernel_rfl) (fun _ _ _ h => h) (Or.inl ⟨by rfl, ?_⟩) (by assumption) ?_
    · intro w' hSw
      go_simp
    show wpAnyH _ _ _ _ _ _ _ (Act.put _ (some 17) _) _
    simp only [Act.put, List.setIfInBounds_toArray, List.set_cons_zero, List.set_cons_succ]
    refine wpAnyH_take (i := 15) (v := .bool false) rfl (by kernel_rfl) (by kernel_rfl) (by kernel_rfl) (fun _ _ _ h => h) (Or.inl ⟨by rfl, ?_⟩) (by assumption) ?_
    · intro w' hSw
      go_simp
    show wpAnyH _ _ _ _ _ _ _ (Act.put _ (some 18) _) _
    simp only [Act.put, List.setIfInBounds_toArray, List.set_cons_zero, List.set_cons_succ]
    refine wpAnyH_take (i := 16) (v := undef) rfl (by kernel_rfl) (by kernel_rfl) (by kernel_rfl) (fun _ _ _ h => h) (Or.inr ⟨by rfl, rfl⟩) (by assumption) ?_
    show wpAnyH _ _ _ _ _ _ _ (Act.put _ (some 19) _) _
    simp only [Act.put, List.setIfInBounds_toArray, List.set_cons_zero, List.set_cons_succ]
    refine wpAnyH_take (i := 17) (v := undef) rfl (by kernel_rfl) (by kernel_rfl) (by kernel_rfl) (fun _ _ _ h => h) (Or.inr ⟨by rfl, rfl⟩) (by assumption) ?_
    show wpAnyH _ _ _ _ _ _ _ (Act.put _ (some 20) _) _
    simp only [Act.put, List.setIfInBounds_toArray, List.set_cons_zero, List.set_cons_succ]
    refine wpAnyH_take (i := 18) (v := undef) rfl (by kernel_rfl) (by kernel_rfl) (by kernel_rfl) (fun _ _ _ h => h) (Or.inr ⟨by rfl, rfl⟩) (by assumption) ?_
    show wpAnyH _ _ _ _ _ _ _ (Act.put _ (some 21) _) _
    simp only [Act.put, List.setIfInBounds_toArray, List.set_cons_zero, List.set_cons_succ]
    refine wpAnyH_take (i := 19) (v := .bool false) rfl (by kernel_rfl) (by kernel_rfl) (by kernel_rfl) (fun _ _ _ h => h) (Or.inl ⟨by rfl, ?_⟩) (by assumption) ?_
    · intro w' hSw
      go_simp
    show wpAnyH _ _ _ _ _ _ _ (Act.put _ (some 22) _) _
    simp only [Act.put, List.setIfInBounds_toArray, List.set_cons_zero, List.set_cons_succ]
    refine wpAnyH_take (i := 20) (v := .bool false) rfl (by kernel_rfl) (by kernel_rfl) (by kernel_rfl) (fun _ _ _ h => h) (Or.inl ⟨by rfl, ?_⟩) (by assumption) ?_
    · intro w' hSw
      go_simp
    show wpAnyH _ _ _ _ _ _ _ (Act.put _ (some 23) _) _
    simp only [Act.put, List.setIfInBounds_toArray, List.set_cons_zero, List.set_cons_succ]
    refine wpAnyH_take (i := 21) (v := undef) rfl (by kernel_rfl) (by kernel_rfl) (by kernel_rfl) (fun _ _ _ h => h) (Or.inr ⟨by rfl, rfl⟩) (by assumption) ?_
    show wpAnyH _ _ _ _ _ _ _ (Act.put _ (some 24) _) _
    simp only [Act.put, List.setIfInBounds_toArray, List.set_cons_zero, List.set_cons_succ]
    refine wpAnyH_take (i := 22) (v := undef) rfl (by kernel_rfl) (by kernel_rfl) (by kernel_rfl) (fun _ _ _ h => h) (Or.inr ⟨by rfl, rfl⟩) (by assumption) ?_
    show wpAnyH _ _ _ _ _ _ _ (Act.put _ (some 25) _) _
    simp only [Act.put, List.setIfInBounds_toArray, List.set_cons_zero, List.set_cons_succ]
    refine wpAnyH_take (i := 23) (v := undef) rfl (by kernel_rfl) (by kernel_rfl) (by kernel_rfl) (fun _ _ _ h => h) (Or.inr ⟨by rfl, rfl⟩) (by assumption) ?_
    show wpAnyH _ _ _ _ _ _ _ (Act.put _ (some 26) _) _
    simp only [Act.put, List.setIfInBounds_toArray, List.set_cons_zero, List.set_cons_succ]
    refine wpAnyH_take (i := 24) (v := undef) rfl (by kernel_rfl) (by kernel_rfl) (by kernel_rfl) (fun _ _ _ h => h) (Or.inr ⟨by rfl, rfl⟩) (by assumption) ?_
    show wpAnyH _ _ _ _ _ _ _ (Act.put _ (some 27) _) _
    simp only [Act.put, List.setIfInBounds_toArray, List.set_cons_zero, List.set_cons_succ]
    refine wpAnyH_take (i := 25) (v := undef) rfl (by kernel_rfl) (by kernel_rfl) (by kernel_rfl) (fun _ _ _ h => h) (Or.inr ⟨by rfl, rfl⟩) (by assumption) ?_
    show wpAnyH _ _ _ _ _ _ _ (Act.put _ (some 28) _) _
    simp only [Act.put, List.setIfInBounds_toArray, List.set_cons_zero, List.set_cons_succ]
    refine wpAnyH_take (i := 26) (v := undef) rfl (by kernel_rfl) (by kernel_rfl) (by kernel_rfl) (fun _ _ _ h => h) (Or.inr ⟨by rfl, rfl⟩) (by assumption) ?_
    show wpAnyH _ _ _ _ _ _ _ (Act.put _ (some 29) _) _
    simp only [Act.put, List.setIfInBounds_toArray, List.set_cons_zero, List.set_cons_succ]
    refine wpAnyH_take (i := 27) (v := undef) rfl (by kernel_rfl) (by kernel_rfl) (by kernel_rfl) (fun _ _ _ h => h) (Or.inr ⟨by rfl, rfl⟩) (by assumption) ?_
    show wpAnyH _ _ _ _ _ _ _ (Act.put _ (some 30) _) _
    simp only [Act.put, List.setIfInBounds_toArray, List.set_cons_zero, List.set_cons_succ]
    refine wpAnyH_take (i := 28) (v := undef) rfl (by kernel_rfl) (by kernel_rfl) (by kernel_rfl) (fun _ _ _ h => h) (Or.inr ⟨by rfl, rfl⟩) (by assumption) ?_
    show wpAnyH _ _ _ _ _ _ _ (Act.put _ (some 31) _) _
    simp only [Act.put, List.setIfInBounds_toArray, List.set_cons_zero, List.set_cons_succ]
    refine wpAnyH_take (i := 29) (v := .bool false) rfl (by kernel_rfl) (by kernel_rfl) (by kernel_rfl) (fun _ _ _ h => h) (Or.inl ⟨by rfl, ?_⟩) (by assumption) ?_
    · intro w' hSw
      go_simp
    show wpAnyH _ _ _ _ _ _ _ (Act.put _ (some 32) _) _
    simp only [Act.put, List.setIfInBounds_toArray, List.set_cons_zero, List.set_cons_succ]
    refine wpAnyH_take (i := 30) (v := .bool false) rfl (by kernel_rfl) (by kernel_rfl) (by kernel_rfl) (fun _ _ _ h => h) (Or.inl ⟨by rfl, ?_⟩) (by assumption) ?_
    · intro w' hSw
      go_simp
    show wpAnyH _ _ _ _ _ _ _ (Act.put _ (some 2) _) _
    simp only [Act.put, List.setIfInBounds_toArray, List.set_cons_zero, List.set_cons_succ]
    refine wpAnyH_done (by kernel_rfl) ?_ _
    go_wp2_with fail
    go_ret
    exact ⟨ret_no HF.out, HB1.out.1.trans (hX3.mono HB1.out.1.size)⟩
  have HSM := Lib.hid hsm
  clear hsm
  by_cases h0 : 0 ≤ tk
  rotate_left
  · have d0 : decide (0 ≤ tk) = false := decide_eq_false h0
    have HF : Hid (¬ EvOk a.con) := Lib.hid (fun h => h0 (HOK.out.1 h).2.2.1.1)
    clear h0
    refine wp_region_held_drew (S := fun W' => Below W1.heap.size W1 W') (by kernel_rfl) HHD.out (fun hHeld => ?_)
    refine wpAnyH_take (i := 0) (v := .pointer (some ⟨w.heap.size, 0, none⟩)) rfl (by kernel_rfl) (by kernel_rfl) (by kernel_rfl) (fun _ _ _ h => h) (Or.inl ⟨by rfl, ?_⟩) (by assumption) ?_
    · intro w' hSw
      go_simp
    show wpAnyH _ _ _ _ _ _ _ (Act.put _ (some 3) _) _
    simp only [Act.put, List.setIfInBounds_toArray, List.set_cons_zero, List.set_cons_succ]
    refine wpAnyH_take (i := 1) (v := .int .i64 kk) rfl (by kernel_rfl) (by kernel_rfl) (by kernel_rfl) (fun _ _ _ h => h) (Or.inl ⟨by rfl, ?_⟩) (by assumption) ?_
    · intro w' hSw
      have hc := (HC0.out w' hSw).1
      go_simp
    show wpAnyH _ _ _ _ _ _ _ (Act.put _ (some 4) _) _
    simp only [Act.put, List.setIfInBounds_toArray, List.set_cons_zero, List.set_cons_succ]
    refine wpAnyH_ready (rs := [2]) (by kernel_rfl) (by simp) ?_
    refine AllReadyH.cons rfl (fun K hK => ?_) AllReadyH.nil
    go_simp
    refine (HEW.out _).mono ?_
    rintro e X1 ⟨rfl, hx1⟩
    go_simp
    refine hK.out _ _ (hHeld.trans (hx1.mono hHeld.size)) (fun hHeld => ?_)
    clear hK K
    have hX1 := hHeld
    clear hx1
    refine wpAnyH_take (i := 3) (v := .bool true) rfl (by kernel_rfl) (by kernel_rfl) (by kernel_rfl) (fun _ _ _ h => h) (Or.inl ⟨by rfl, ?_⟩) (by assumption) ?_
    · intro w' hSw
      go_simp
    show wpAnyH _ _ _ _ _ _ _ (Act.put _ (some 6) _) _
    simp only [Act.put, List.setIfInBounds_toArray, List.set_cons_zero, List.set_cons_succ]
    refine wpAnyH_take (i := 4) (v := .bool true) rfl (by kernel_rfl) (by kernel_rfl) (by kernel_rfl) (fun _ _ _ h => h) (Or.inl ⟨by rfl, ?_⟩) (by assumption) ?_
    · intro w' hSw
      go_simp
    show wpAnyH _ _ _ _ _ _ _ (Act.put _ (some 7) _) _
    simp only [Act.put, List.setIfInBounds_toArray, List.set_cons_zero, List.set_cons_succ]
    refine wpAnyH_take (i := 5) (v := .agg L.toArray) rfl (by kernel_rfl) (by kernel_rfl) (by kernel_rfl) (fun _ _ _ h => h) (yieldsIf_load_mid (by rfl) 35 (.tmp 1) rfl w.heap.size 0 rfl L _ (fun w' hSw => HRL.out w' hSw) Tryz.underlying35 rfl HSZ.out.1) (by assumption) ?_
    show wpAnyH _ _ _ _ _ _ _ (Act.put _ (some 8) _) _
    simp only [Act.put, List.setIfInBounds_toArray, List.set_cons_zero, List.set_cons_succ]
    refine wpAnyH_take (i := 6) (v := .agg L.toArray) rfl (by kernel_rfl) (by kernel_rfl) (by kernel_rfl) (fun _ _ _ h => h) (yieldsIf_load_mid (by rfl) 35 (.tmp 1) rfl w.heap.size 0 rfl L _ (fun w' hSw => HRL.out w' hSw) Tryz.underlying35 rfl HSZ.out.1) (by assumption) ?_
    show wpAnyH _ _ _ _ _ _ _ (Act.put _ (some 9) _) _
    simp only [Act.put, List.setIfInBounds_toArray, List.set_cons_zero, List.set_cons_succ]
    refine wpAnyH_ready (rs := [7]) (by kernel_rfl) (by simp) ?_
    refine AllReadyH.cons rfl (fun K hK => ?_) AllReadyH.nil
    go_simp
    refine (HOE.out _ (by assumption)).mono ?_
    rintro e X2 ⟨a', rfl, hcon, hat', hl', hx2⟩
    have HA' := Lib.hid (And.intro hcon (And.intro hat' hl'))
    clear hcon hat' hl'
    go_simp
    refine hK.out _ _ (hX1.trans (hx2.mono hX1.size)) (fun hHeld => ?_)
    clear hK K
    have hX2 := hHeld
    clear hx2
    refine wpAnyH_ready (rs := [8]) (by kernel_rfl) (by simp) ?_
    refine AllReadyH.cons rfl (fun K hK => ?_) AllReadyH.nil
    go_simp
    refine (HON.out _ (by assumption) a' _ HA'.out.2.1 (Nat.le_trans HB1.out.1.size hX2.size)).mono ?_
    rintro e X3 ⟨rfl, hx3⟩
    rw [tb_true (by rw [HA'.out.1]; exact HSM.out)]
    go_simp
    refine hK.out _ _ (hX2.trans (hx3.mono hX2.size)) (fun hHeld => ?_)
    clear hK K
    have hX3 := hHeld
    clear hx3
    refine wpAnyH_take (i := 9) (v := .bool true) rfl (by kernel_rfl) (by kernel_rfl) (by kernel_rfl) (fun _ _ _ h => h) (Or.inl ⟨by rfl, ?_⟩) (by assumption) ?_
    · intro w' hSw
      go_simp
    show wpAnyH _ _ _ _ _ _ _ (Act.put _ (some 12) _) _
    simp only [Act.put, List.setIfInBounds_toArray, List.set_cons_zero, List.set_cons_succ]
    refine wpAnyH_take (i := 10) (v := .bool true) rfl (by kernel_rfl) (by kernel_rfl) (by kernel_rfl) (fun _ _ _ h => h) (Or.inl ⟨by rfl, ?_⟩) (by assumption) ?_
    · intro w' hSw
      go_simp
    show wpAnyH _ _ _ _ _ _ _ (Act.put _ (some 13) _) _
    simp only [Act.put, List.setIfInBounds_toArray, List.set_cons_zero, List.set_cons_succ]
    refine wpAnyH_take (i := 11) (v := .pointer (some ⟨w.heap.size, 1, none⟩)) rfl (by kernel_rfl) (by kernel_rfl) (by kernel_rfl) (fun _ _ _ h => h) (Or.inl ⟨by rfl, ?_⟩) (by assumption) ?_
    · intro w' hSw
      go_simp
    show wpAnyH _ _ _ _ _ _ _ (Act.put _ (some 14) _) _
    simp only [Act.put, List.setIfInBounds_toArray, List.set_cons_zero, List.set_cons_succ]
    refine wpAnyH_take (i := 12) (v := .int .i64 tk) rfl (by kernel_rfl) (by kernel_rfl) (by kernel_rfl) (fun _ _ _ h => h) (Or.inl ⟨by rfl, ?_⟩) (by assumption) ?_
    · intro w' hSw
      have hc := (HC0.out w' hSw).2
      go_simp
    show wpAnyH _ _ _ _ _ _ _ (Act.put _ (some 15) _) _
    simp only [Act.put, List.setIfInBounds_toArray, List.set_cons_zero, List.set_cons_succ]
    refine wpAnyH_take (i := 13) (v := .bool false) rfl (by kernel_rfl) (by kernel_rfl) (by kernel_rfl) (fun _ _ _ h => h) (Or.inl ⟨by rfl, ?_⟩) (by assumption) ?_
    · intro w' hSw
      go_simp
    show wpAnyH _ _ _ _ _ _ _ (Act.put _ (some 16) _) _
    simp only [Act.put, List.setIfInBounds_toArray, List.set_cons_zero, List.set_cons_succ]
    refine wpAnyH_take (i := 14) (v := .bool false) rfl (by kernel_rfl) (by kernel_rfl) (by kernel_rfl) (fun _ _ _ h => h) (Or.inl ⟨by rfl, ?_⟩) (by assumption) ?_
    · intro w' hSw
      go_simp
    show wpAnyH _ _ _ _ _ _ _ (Act.put _ (some 17) _) _
    simp only [Act.put, List.setIfInBounds_toArray, List.set_cons_zero, List.set_cons_succ]
    refine wpAnyH_take (i := 15) (v := .bool false) rfl (by kernel_rfl) (by kernel_rfl) (by kernel_rfl) (fun _ _ _ h => h) (Or.inl ⟨by rfl, ?_⟩) (by assumption) ?_
    · intro w' hSw
      go_simp
    show wpAnyH _ _ _ _ _ _ _ (Act.put _ (some 18) _) _
    simp only [Act.put, List.setIfInBounds_toArray, List.set_cons_zero, List.set_cons_succ]
    refine wpAnyH_take (i := 16) (v := undef) rfl (by kernel_rfl) (by kernel_rfl) (by kernel_rfl) (fun _ _ _ h => h) (Or.inr ⟨by rfl, rfl⟩) (by assumption) ?_
    show wpAnyH _ _ _ _ _ _ _ (Act.put _ (some 19) _) _
    simp only [Act.put, List.setIfInBounds_toArray, List.set_cons_zero, List.set_cons_succ]
    refine wpAnyH_take (i := 17) (v := undef) rfl (by kernel_rfl) (by kernel_rfl) (by kernel_rfl) (fun _ _ _ h => h) (Or.inr ⟨by rfl, rfl⟩) (by assumption) ?_
    show wpAnyH _ _ _ _ _ _ _ (Act.put _ (some 20) _) _
    simp only [Act.put, List.setIfInBounds_toArray, List.set_cons_zero, List.set_cons_succ]
    refine wpAnyH_take (i := 18) (v := undef) rfl (by kernel_rfl) (by kernel_rfl) (by kernel_rfl) (fun _ _ _ h => h) (Or.inr ⟨by rfl, rfl⟩) (by assumption) ?_
    show wpAnyH _ _ _ _ _ _ _ (Act.put _ (some 21) _) _
    simp only [Act.put, List.setIfInBounds_toArray, List.set_cons_zero, List.set_cons_succ]
    refine wpAnyH_take (i := 19) (v := .bool false) rfl (by kernel_rfl) (by kernel_rfl) (by kernel_rfl) (fun _ _ _ h => h) (Or.inl ⟨by rfl, ?_⟩) (by assumption) ?_
    · intro w' hSw
      go_simp
    show wpAnyH _ _ _ _ _ _ _ (Act.put _ (some 22) _) _
    simp only [Act.put, List.setIfInBounds_toArray, List.set_cons_zero, List.set_cons_succ]
    refine wpAnyH_take (i := 20) (v := .bool false) rfl (by kernel_rfl) (by kernel_rfl) (by kernel_rfl) (fun _ _ _ h => h) (Or.inl ⟨by rfl, ?_⟩) (by assumption) ?_
    · intro w' hSw
      go_simp
    show wpAnyH _ _ _ _ _ _ _ (Act.put _ (some 23) _) _
    simp only [Act.put, List.setIfInBounds_toArray, List.set_cons_zero, List.set_cons_succ]
    refine wpAnyH_take (i := 21) (v := undef) rfl (by kernel_rfl) (by kernel_rfl) (by kernel_rfl) (fun _ _ _ h => h) (Or.inr ⟨by rfl, rfl⟩) (by assumption) ?_
    show wpAnyH _ _ _ _ _ _ _ (Act.put _ (some 24) _) _
    simp only [Act.put, List.setIfInBounds_toArray, List.set_cons_zero, List.set_cons_succ]
    refine wpAnyH_take (i := 22) (v := undef) rfl (by kernel_rfl) (by kernel_rfl) (by kernel_rfl) (fun _ _ _ h => h) (Or.inr ⟨by rfl, rfl⟩) (by assumption) ?_
    show wpAnyH _ _ _ _ _ _ _ (Act.put _ (some 25) _) _
    simp only [Act.put, List.setIfInBounds_toArray, List.set_cons_zero, List.set_cons_succ]
    refine wpAnyH_take (i := 23) (v := undef) rfl (by kernel_rfl) (by kernel_rfl) (by kernel_rfl) (fun _ _ _ h => h) (Or.inr ⟨by rfl, rfl⟩) (by assumption) ?_
    show wpAnyH _ _ _ _ _ _ _ (Act.put _ (some 26) _) _
    simp only [Act.put, List.setIfInBounds_toArray, List.set_cons_zero, List.set_cons_succ]
    refine wpAnyH_take (i := 24) (v := undef) rfl (by kernel_rfl) (by kernel_rfl) (by kernel_rfl) (fun _ _ _ h => h) (Or.inr ⟨by rfl, rfl⟩) (by assumption) ?_
    show wpAnyH _ _ _ _ _ _ _ (Act.put _ (some 27) _) _
    simp only [Act.put, List.setIfInBounds_toArray, List.set_cons_zero, List.set_cons_succ]
    refine wpAnyH_take (i := 25) (v := undef) rfl (by kernel_rfl) (by kernel_rfl) (by kernel_rfl) (fun _ _ _ h => h) (Or.inr ⟨by rfl, rfl⟩) (by assumption) ?_
    show wpAnyH _ _ _ _ _ _ _ (Act.put _ (some 28) _) _
    simp only [Act.put, List.setIfInBounds_toArray, List.set_cons_zero, List.set_cons_succ]
    refine wpAnyH_take (i := 26) (v := undef) rfl (by kernel_rfl) (by kernel_rfl) (by kernel_rfl) (fun _ _ _ h => h) (Or.inr ⟨by rfl, rfl⟩) (by assumption) ?_
    show wpAnyH _ _ _ _ _ _ _ (Act.put _ (some 29) _) _
    simp only [Act.put, List.setIfInBounds_toArray, List.set_cons_zero, List.set_cons_succ]
    refine wpAnyH_take (i := 27) (v := undef) rfl (by kernel_rfl) (by kernel_rfl) (by kernel_rfl) (fun _ _ _ h => h) (Or.inr ⟨by rfl, rfl⟩) (by assumption) ?_
    show wpAnyH _ _ _ _ _ _ _ (Act.put _ (some 30) _) _
    simp only [Act.put, List.setIfInBounds_toArray, List.set_cons_zero, List.set_cons_succ]
    refine wpAnyH_take (i := 28) (v := undef) rfl (by kernel_rfl) (by kernel_rfl) (by kernel_rfl) (fun _ _ _ h => h) (Or.inr ⟨by rfl, rfl⟩) (by assumption) ?_
    show wpAnyH _ _ _ _ _ _ _ (Act.put _ (some 31) _) _
    simp only [Act.put, List.setIfInBounds_toArray, List.set_cons_zero, List.set_cons_succ]
    refine wpAnyH_take (i := 29) (v := .bool false) rfl (by kernel_rfl) (by kernel_rfl) (by kernel_rfl) (fun _ _ _ h => h) (Or.inl ⟨by rfl, ?_⟩) (by assumption) ?_
    · intro w' hSw
      go_simp
    show wpAnyH _ _ _ _ _ _ _ (Act.put _ (some 32) _) _
    simp only [Act.put, List.setIfInBounds_toArray, List.set_cons_zero, List.set_cons_succ]
    refine wpAnyH_take (i := 30) (v := .bool false) rfl (by kernel_rfl) (by kernel_rfl) (by kernel_rfl) (fun _ _ _ h => h) (Or.inl ⟨by rfl, ?_⟩) (by assumption) ?_
    · intro w' hSw
      go_simp
    show wpAnyH _ _ _ _ _ _ _ (Act.put _ (some 2) _) _
    simp only [Act.put, List.setIfInBounds_toArray, List.set_cons_zero, List.set_cons_succ]
    refine wpAnyH_done (by kernel_rfl) ?_ _
    go_wp2_with fail
    go_ret
    exact ⟨ret_no HF.out, HB1.out.1.trans (hX3.mono HB1.out.1.size)⟩
  by_cases h1 : tk ≤ 1099511627776
  rotate_left
  · have d0 : decide (0 ≤ tk) = true := decide_eq_true h0
    have d1 : decide (tk ≤ 1099511627776) = false := decide_eq_false h1
    have HF : Hid (¬ EvOk a.con) := Lib.hid (fun h => h1 (HOK.out.1 h).2.2.1.2)
    clear h1 h0
    refine wp_region_held_drew (S := fun W' => Below W1.heap.size W1 W') (by kernel_rfl) HHD.out (fun hHeld => ?_)
    refine wpAnyH_take (i := 0) (v := .pointer (some ⟨w.heap.size, 0, none⟩)) rfl (by kernel_rfl) (by kernel_rfl) (by kernel_rfl) (fun _ _ _ h => h) (Or.inl ⟨by rfl, ?_⟩) (by assumption) ?_
    · intro w' hSw
      go_simp
    show wpAnyH _ _ _ _ _ _ _ (Act.put _ (some 3) _) _
    simp only [Act.put, List.setIfInBounds_toArray, List.set_cons_zero, List.set_cons_succ]
    refine wpAnyH_take (i := 1) (v := .int .i64 kk) rfl (by kernel_rfl) (by kernel_rfl) (by kernel_rfl) (fun _ _ _ h => h) (Or.inl ⟨by rfl, ?_⟩) (by assumption) ?_
    · intro w' hSw
      have hc := (HC0.out w' hSw).1
      go_simp
    show wpAnyH _ _ _ _ _ _ _ (Act.put _ (some 4) _) _
    simp only [Act.put, List.setIfInBounds_toArray, List.set_cons_zero, List.set_cons_succ]
    refine wpAnyH_ready (rs := [2]) (by kernel_rfl) (by simp) ?_
    refine AllReadyH.cons rfl (fun K hK => ?_) AllReadyH.nil
    go_simp
    refine (HEW.out _).mono ?_
    rintro e X1 ⟨rfl, hx1⟩
    go_simp
    refine hK.out _ _ (hHeld.trans (hx1.mono hHeld.size)) (fun hHeld => ?_)
    clear hK K
    have hX1 := hHeld
    clear hx1
    refine wpAnyH_take (i := 3) (v := .bool true) rfl (by kernel_rfl) (by kernel_rfl) (by kernel_rfl) (fun _ _ _ h => h) (Or.inl ⟨by rfl, ?_⟩) (by assumption) ?_
    · intro w' hSw
      go_simp
    show wpAnyH _ _ _ _ _ _ _ (Act.put _ (some 6) _) _
    simp only [Act.put, List.setIfInBounds_toArray, List.set_cons_zero, List.set_cons_succ]
    refine wpAnyH_take (i := 4) (v := .bool true) rfl (by kernel_rfl) (by kernel_rfl) (by kernel_rfl) (fun _ _ _ h => h) (Or.inl ⟨by rfl, ?_⟩) (by assumption) ?_
    · intro w' hSw
      go_simp
    show wpAnyH _ _ _ _ _ _ _ (Act.put _ (some 7) _) _
    simp only [Act.put, List.setIfInBounds_toArray, List.set_cons_zero, List.set_cons_succ]
    refine wpAnyH_take (i := 5) (v := .agg L.toArray) rfl (by kernel_rfl) (by kernel_rfl) (by kernel_rfl) (fun _ _ _ h => h) (yieldsIf_load_mid (by rfl) 35 (.tmp 1) rfl w.heap.size 0 rfl L _ (fun w' hSw => HRL.out w' hSw) Tryz.underlying35 rfl HSZ.out.1) (by assumption) ?_
    show wpAnyH _ _ _ _ _ _ _ (Act.put _ (some 8) _) _
    simp only [Act.put, List.setIfInBounds_toArray, List.set_cons_zero, List.set_cons_succ]
    refine wpAnyH_take (i := 6) (v := .agg L.toArray) rfl (by kernel_rfl) (by kernel_rfl) (by kernel_rfl) (fun _ _ _ h => h) (yieldsIf_load_mid (by rfl) 35 (.tmp 1) rfl w.heap.size 0 rfl L _ (fun w' hSw => HRL.out w' hSw) Tryz.underlying35 rfl HSZ.out.1) (by assumption) ?_
    show wpAnyH _ _ _ _ _ _ _ (Act.put _ (some 9) _) _
    simp only [Act.put, List.setIfInBounds_toArray, List.set_cons_zero, List.set_cons_succ]
    refine wpAnyH_ready (rs := [7]) (by kernel_rfl) (by simp) ?_
    refine AllReadyH.cons rfl (fun K hK => ?_) AllReadyH.nil
    go_simp
    refine (HOE.out _ (by assumption)).mono ?_
    rintro e X2 ⟨a', rfl, hcon, hat', hl', hx2⟩
    have HA' := Lib.hid (And.intro hcon (And.intro hat' hl'))
    clear hcon hat' hl'
    go_simp
    refine hK.out _ _ (hX1.trans (hx2.mono hX1.size)) (fun hHeld => ?_)
    clear hK K
    have hX2 := hHeld
    clear hx2
    refine wpAnyH_ready (rs := [8]) (by kernel_rfl) (by simp) ?_
    refine AllReadyH.cons rfl (fun K hK => ?_) AllReadyH.nil
    go_simp
    refine (HON.out _ (by assumption) a' _ HA'.out.2.1 (Nat.le_trans HB1.out.1.size hX2.size)).mono ?_
    rintro e X3 ⟨rfl, hx3⟩
    rw [tb_true (by rw [HA'.out.1]; exact HSM.out)]
    go_simp
    refine hK.out _ _ (hX2.trans (hx3.mono hX2.size)) (fun hHeld => ?_)
    clear hK K
    have hX3 := hHeld
    clear hx3
    refine wpAnyH_take (i := 9) (v := .bool true) rfl (by kernel_rfl) (by kernel_rfl) (by kernel_rfl) (fun _ _ _ h => h) (Or.inl ⟨by rfl, ?_⟩) (by assumption) ?_
    · intro w' hSw
      go_simp
    show wpAnyH _ _ _ _ _ _ _ (Act.put _ (some 12) _) _
    simp only [Act.put, List.setIfInBounds_toArray, List.set_cons_zero, List.set_cons_succ]
    refine wpAnyH_take (i := 10) (v := .bool true) rfl (by kernel_rfl) (by kernel_rfl) (by kernel_rfl) (fun _ _ _ h => h) (Or.inl ⟨by rfl, ?_⟩) (by assumption) ?_
    · intro w' hSw
      go_simp
    show wpAnyH _ _ _ _ _ _ _ (Act.put _ (some 13) _) _
    simp only [Act.put, List.setIfInBounds_toArray, List.set_cons_zero, List.set_cons_succ]
    refine wpAnyH_take (i := 11) (v := .pointer (some ⟨w.heap.size, 1, none⟩)) rfl (by kernel_rfl) (by kernel_rfl) (by kernel_rfl) (fun _ _ _ h => h) (Or.inl ⟨by rfl, ?_⟩) (by assumption) ?_
    · intro w' hSw
      go_simp
    show wpAnyH _ _ _ _ _ _ _ (Act.put _ (some 14) _) _
    simp only [Act.put, List.setIfInBounds_toArray, List.set_cons_zero, List.set_cons_succ]
    refine wpAnyH_take (i := 12) (v := .int .i64 tk) rfl (by kernel_rfl) (by kernel_rfl) (by kernel_rfl) (fun _ _ _ h => h) (Or.inl ⟨by rfl, ?_⟩) (by assumption) ?_
    · intro w' hSw
      have hc := (HC0.out w' hSw).2
      go_simp
    show wpAnyH _ _ _ _ _ _ _ (Act.put _ (some 15) _) _
    simp only [Act.put, List.setIfInBounds_toArray, List.set_cons_zero, List.set_cons_succ]
    refine wpAnyH_take (i := 13) (v := .bool true) rfl (by kernel_rfl) (by kernel_rfl) (by kernel_rfl) (fun _ _ _ h => h) (Or.inl ⟨by rfl, ?_⟩) (by assumption) ?_
    · intro w' hSw
      go_simp
    show wpAnyH _ _ _ _ _ _ _ (Act.put _ (some 16) _) _
    simp only [Act.put, List.setIfInBounds_toArray, List.set_cons_zero, List.set_cons_succ]
    refine wpAnyH_take (i := 14) (v := .bool true) rfl (by kernel_rfl) (by kernel_rfl) (by kernel_rfl) (fun _ _ _ h => h) (Or.inl ⟨by rfl, ?_⟩) (by assumption) ?_
    · intro w' hSw
      go_simp
    show wpAnyH _ _ _ _ _ _ _ (Act.put _ (some 17) _) _
    simp only [Act.put, List.setIfInBounds_toArray, List.set_cons_zero, List.set_cons_succ]
    refine wpAnyH_take (i := 15) (v := .bool true) rfl (by kernel_rfl) (by kernel_rfl) (by kernel_rfl) (fun _ _ _ h => h) (Or.inl ⟨by rfl, ?_⟩) (by assumption) ?_
    · intro w' hSw
      go_simp
    show wpAnyH _ _ _ _ _ _ _ (Act.put _ (some 18) _) _
    simp only [Act.put, List.setIfInBounds_toArray, List.set_cons_zero, List.set_cons_succ]
    refine wpAnyH_take (i := 16) (v := .pointer (some ⟨w.heap.size, 1, none⟩)) rfl (by kernel_rfl) (by kernel_rfl) (by kernel_rfl) (fun _ _ _ h => h) (Or.inl ⟨by rfl, ?_⟩) (by assumption) ?_
    · intro w' hSw
      go_simp
    show wpAnyH _ _ _ _ _ _ _ (Act.put _ (some 19) _) _
    simp only [Act.put, List.setIfInBounds_toArray, List.set_cons_zero, List.set_cons_succ]
    refine wpAnyH_take (i := 17) (v := .int .i64 tk) rfl (by kernel_rfl) (by kernel_rfl) (by kernel_rfl) (fun _ _ _ h => h) (Or.inl ⟨by rfl, ?_⟩) (by assumption) ?_
    · intro w' hSw
      have hc := (HC0.out w' hSw).2
      go_simp
    show wpAnyH _ _ _ _ _ _ _ (Act.put _ (some 20) _) _
    simp only [Act.put, List.setIfInBounds_toArray, List.set_cons_zero, List.set_cons_succ]
    refine wpAnyH_take (i := 18) (v := .bool false) rfl (by kernel_rfl) (by kernel_rfl) (by kernel_rfl) (fun _ _ _ h => h) (Or.inl ⟨by rfl, ?_⟩) (by assumption) ?_
    · intro w' hSw
      go_simp
    show wpAnyH _ _ _ _ _ _ _ (Act.put _ (some 21) _) _
    simp only [Act.put, List.setIfInBounds_toArray, List.set_cons_zero, List.set_cons_succ]
    refine wpAnyH_take (i := 19) (v := .bool false) rfl (by kernel_rfl) (by kernel_rfl) (by kernel_rfl) (fun _ _ _ h => h) (Or.inl ⟨by rfl, ?_⟩) (by assumption) ?_
    · intro w' hSw
      go_simp
    show wpAnyH _ _ _ _ _ _ _ (Act.put _ (some 22) _) _
    simp only [Act.put, List.setIfInBounds_toArray, List.set_cons_zero, List.set_cons_succ]
    refine wpAnyH_take (i := 20) (v := .bool false) rfl (by kernel_rfl) (by kernel_rfl) (by kernel_rfl) (fun _ _ _ h => h) (Or.inl ⟨by rfl, ?_⟩) (by assumption) ?_
    · intro w' hSw
      go_simp
    show wpAnyH _ _ _ _ _ _ _ (Act.put _ (some 23) _) _
    simp only [Act.put, List.setIfInBounds_toArray, List.set_cons_zero, List.set_cons_succ]
    refine wpAnyH_take (i := 21) (v := undef) rfl (by kernel_rfl) (by kernel_rfl) (by kernel_rfl) (fun _ _ _ h => h) (Or.inr ⟨by rfl, rfl⟩) (by assumption) ?_
    show wpAnyH _ _ _ _ _ _ _ (Act.put _ (some 24) _) _
    simp only [Act.put, List.setIfInBounds_toArray, List.set_cons_zero, List.set_cons_succ]
    refine wpAnyH_take (i := 22) (v := undef) rfl (by kernel_rfl) (by kernel_rfl) (by kernel_rfl) (fun _ _ _ h => h) (Or.inr ⟨by rfl, rfl⟩) (by assumption) ?_
    show wpAnyH _ _ _ _ _ _ _ (Act.put _ (some 25) _) _
    simp only [Act.put, List.setIfInBounds_toArray, List.set_cons_zero, List.set_cons_succ]
    refine wpAnyH_take (i := 23) (v := undef) rfl (by kernel_rfl) (by kernel_rfl) (by kernel_rfl) (fun _ _ _ h => h) (Or.inr ⟨by rfl, rfl⟩) (by assumption) ?_
    show wpAnyH _ _ _ _ _ _ _ (Act.put _ (some 26) _) _
    simp only [Act.put, List.setIfInBounds_toArray, List.set_cons_zero, List.set_cons_succ]
    refine wpAnyH_take (i := 24) (v := undef) rfl (by kernel_rfl) (by kernel_rfl) (by kernel_rfl) (fun _ _ _ h => h) (Or.inr ⟨by rfl, rfl⟩) (by assumption) ?_
    show wpAnyH _ _ _ _ _ _ _ (Act.put _ (some 27) _) _
    simp only [Act.put, List.setIfInBounds_toArray, List.set_cons_zero, List.set_cons_succ]
    refine wpAnyH_take (i := 25) (v := undef) rfl (by kernel_rfl) (by kernel_rfl) (by kernel_rfl) (fun _ _ _ h => h) (Or.inr ⟨by rfl, rfl⟩) (by assumption) ?_
    show wpAnyH _ _ _ _ _ _ _ (Act.put _ (some 28) _) _
    simp only [Act.put, List.setIfInBounds_toArray, List.set_cons_zero, List.set_cons_succ]
    refine wpAnyH_take (i := 26) (v := undef) rfl (by kernel_rfl) (by kernel_rfl) (by kernel_rfl) (fun _ _ _ h => h) (Or.inr ⟨by rfl, rfl⟩) (by assumption) ?_
    show wpAnyH _ _ _ _ _ _ _ (Act.put _ (some 29) _) _
    simp only [Act.put, List.setIfInBounds_toArray, List.set_cons_zero, List.set_cons_succ]
    refine wpAnyH_take (i := 27) (v := undef) rfl (by kernel_rfl) (by kernel_rfl) (by kernel_rfl) (fun _ _ _ h => h) (Or.inr ⟨by rfl, rfl⟩) (by assumption) ?_
    show wpAnyH _ _ _ _ _ _ _ (Act.put _ (some 30) _) _
    simp only [Act.put, List.setIfInBounds_toArray, List.set_cons_zero, List.set_cons_succ]
    refine wpAnyH_take (i := 28) (v := undef) rfl (by kernel_rfl) (by kernel_rfl) (by kernel_rfl) (fun _ _ _ h => h) (Or.inr ⟨by rfl, rfl⟩) (by assumption) ?_
    show wpAnyH _ _ _ _ _ _ _ (Act.put _ (some 31) _) _
    simp only [Act.put, List.setIfInBounds_toArray, List.set_cons_zero, List.set_cons_succ]
    refine wpAnyH_take (i := 29) (v := .bool false) rfl (by kernel_rfl) (by kernel_rfl) (by kernel_rfl) (fun _ _ _ h => h) (Or.inl ⟨by rfl, ?_⟩) (by assumption) ?_
    · intro w' hSw
      go_simp
    show wpAnyH _ _ _ _ _ _ _ (Act.put _ (some 32) _) _
    simp only [Act.put, List.setIfInBounds_toArray, List.set_cons_zero, List.set_cons_succ]
    refine wpAnyH_take (i := 30) (v := .bool false) rfl (by kernel_rfl) (by kernel_rfl) (by kernel_rfl) (fun _ _ _ h => h) (Or.inl ⟨by rfl, ?_⟩) (by assumption) ?_
    · intro w' hSw
      go_simp
    show wpAnyH _ _ _ _ _ _ _ (Act.put _ (some 2) _) _
    simp only [Act.put, List.setIfInBounds_toArray, List.set_cons_zero, List.set_cons_succ]
    refine wpAnyH_done (by kernel_rfl) ?_ _
    go_wp2_with fail
    go_ret
    exact ⟨ret_no HF.out, HB1.out.1.trans (hX3.mono HB1.out.1.size)⟩
  have d0 : decide (0 ≤ tk) = true := decide_eq_true h0
  have d1 : decide (tk ≤ 1099511627776) = true := decide_eq_true h1
  have HTK := Lib.hid (And.intro h0 h1)
  clear h0 h1
  by_cases hk1 : kk = 1
  rotate_left
  · have e1 : (kk == 1) = false := by simpa using hk1
    have e2 : (kk != 1) = true := by simpa using hk1
    have HF : Hid (EvOk a.con) := Lib.hid (HOK.out.2 ⟨HNE.out, HSM.out, HTK.out, fun q => absurd q hk1⟩)
    clear hk1
    refine wp_region_held_drew (S := fun W' => Below W1.heap.size W1 W') (by kernel_rfl) HHD.out (fun hHeld => ?_)
    refine wpAnyH_take (i := 0) (v := .pointer (some ⟨w.heap.size, 0, none⟩)) rfl (by kernel_rfl) (by kernel_rfl) (by kernel_rfl) (fun _ _ _ h => h) (Or.inl ⟨by rfl, ?_⟩) (by assumption) ?_
    · intro w' hSw
      go_simp
    show wpAnyH _ _ _ _ _ _ _ (Act.put _ (some 3) _) _
    simp only [Act.put, List.setIfInBounds_toArray, List.set_cons_zero, List.set_cons_succ]
    refine wpAnyH_take (i := 1) (v := .int .i64 kk) rfl (by kernel_rfl) (by kernel_rfl) (by kernel_rfl) (fun _ _ _ h => h) (Or.inl ⟨by rfl, ?_⟩) (by assumption) ?_
    · intro w' hSw
      have hc := (HC0.out w' hSw).1
      go_simp
    show wpAnyH _ _ _ _ _ _ _ (Act.put _ (some 4) _) _
    simp only [Act.put, List.setIfInBounds_toArray, List.set_cons_zero, List.set_cons_succ]
    refine wpAnyH_ready (rs := [2]) (by kernel_rfl) (by simp) ?_
    refine AllReadyH.cons rfl (fun K hK => ?_) AllReadyH.nil
    go_simp
    refine (HEW.out _).mono ?_
    rintro e X1 ⟨rfl, hx1⟩
    go_simp
    refine hK.out _ _ (hHeld.trans (hx1.mono hHeld.size)) (fun hHeld => ?_)
    clear hK K
    have hX1 := hHeld
    clear hx1
    refine wpAnyH_take (i := 3) (v := .bool true) rfl (by kernel_rfl) (by kernel_rfl) (by kernel_rfl) (fun _ _ _ h => h) (Or.inl ⟨by rfl, ?_⟩) (by assumption) ?_
    · intro w' hSw
      go_simp
    show wpAnyH _ _ _ _ _ _ _ (Act.put _ (some 6) _) _
    simp only [Act.put, List.setIfInBounds_toArray, List.set_cons_zero, List.set_cons_succ]
    refine wpAnyH_take (i := 4) (v := .bool true) rfl (by kernel_rfl) (by kernel_rfl) (by kernel_rfl) (fun _ _ _ h => h) (Or.inl ⟨by rfl, ?_⟩) (by assumption) ?_
    · intro w' hSw
      go_simp
    show wpAnyH _ _ _ _ _ _ _ (Act.put _ (some 7) _) _
    simp only [Act.put, List.setIfInBounds_toArray, List.set_cons_zero, List.set_cons_succ]
    refine wpAnyH_take (i := 5) (v := .agg L.toArray) rfl (by kernel_rfl) (by kernel_rfl) (by kernel_rfl) (fun _ _ _ h => h) (yieldsIf_load_mid (by rfl) 35 (.tmp 1) rfl w.heap.size 0 rfl L _ (fun w' hSw => HRL.out w' hSw) Tryz.underlying35 rfl HSZ.out.1) (by assumption) ?_
    show wpAnyH _ _ _ _ _ _ _ (Act.put _ (some 8) _) _
    simp only [Act.put, List.setIfInBounds_toArray, List.set_cons_zero, List.set_cons_succ]
    refine wpAnyH_take (i := 6) (v := .agg L.toArray) rfl (by kernel_rfl) (by kernel_rfl) (by kernel_rfl) (fun _ _ _ h => h) (yieldsIf_load_mid (by rfl) 35 (.tmp 1) rfl w.heap.size 0 rfl L _ (fun w' hSw => HRL.out w' hSw) Tryz.underlying35 rfl HSZ.out.1) (by assumption) ?_
    show wpAnyH _ _ _ _ _ _ _ (Act.put _ (some 9) _) _
    simp only [Act.put, List.setIfInBounds_toArray, List.set_cons_zero, List.set_cons_succ]
    refine wpAnyH_ready (rs := [7]) (by kernel_rfl) (by simp) ?_
    refine AllReadyH.cons rfl (fun K hK => ?_) AllReadyH.nil
    go_simp
    refine (HOE.out _ (by assumption)).mono ?_
    rintro e X2 ⟨a', rfl, hcon, hat', hl', hx2⟩
    have HA' := Lib.hid (And.intro hcon (And.intro hat' hl'))
    clear hcon hat' hl'
    go_simp
    refine hK.out _ _ (hX1.trans (hx2.mono hX1.size)) (fun hHeld => ?_)
    clear hK K
    have hX2 := hHeld
    clear hx2
    refine wpAnyH_ready (rs := [8]) (by kernel_rfl) (by simp) ?_
    refine AllReadyH.cons rfl (fun K hK => ?_) AllReadyH.nil
    go_simp
    refine (HON.out _ (by assumption) a' _ HA'.out.2.1 (Nat.le_trans HB1.out.1.size hX2.size)).mono ?_
    rintro e X3 ⟨rfl, hx3⟩
    rw [tb_true (by rw [HA'.out.1]; exact HSM.out)]
    go_simp
    refine hK.out _ _ (hX2.trans (hx3.mono hX2.size)) (fun hHeld => ?_)
    clear hK K
    have hX3 := hHeld
    clear hx3
    refine wpAnyH_take (i := 9) (v := .bool true) rfl (by kernel_rfl) (by kernel_rfl) (by kernel_rfl) (fun _ _ _ h => h) (Or.inl ⟨by rfl, ?_⟩) (by assumption) ?_
    · intro w' hSw
      go_simp
    show wpAnyH _ _ _ _ _ _ _ (Act.put _ (some 12) _) _
    simp only [Act.put, List.setIfInBounds_toArray, List.set_cons_zero, List.set_cons_succ]
    refine wpAnyH_take (i := 10) (v := .bool true) rfl (by kernel_rfl) (by kernel_rfl) (by kernel_rfl) (fun _ _ _ h => h) (Or.inl ⟨by rfl, ?_⟩) (by assumption) ?_
    · intro w' hSw
      go_simp
    show wpAnyH _ _ _ _ _ _ _ (Act.put _ (some 13) _) _
    simp only [Act.put, List.setIfInBounds_toArray, List.set_cons_zero, List.set_cons_succ]
    refine wpAnyH_take (i := 11) (v := .pointer (some ⟨w.heap.size, 1, none⟩)) rfl (by kernel_rfl) (by kernel_rfl) (by kernel_rfl) (fun _ _ _ h => h) (Or.inl ⟨by rfl, ?_⟩) (by assumption) ?_
    · intro w' hSw
      go_simp
    show wpAnyH _ _ _ _ _ _ _ (Act.put _ (some 14) _) _
    simp only [Act.put, List.setIfInBounds_toArray, List.set_cons_zero, List.set_cons_succ]
    refine wpAnyH_take (i := 12) (v := .int .i64 tk) rfl (by kernel_rfl) (by kernel_rfl) (by kernel_rfl) (fun _ _ _ h => h) (Or.inl ⟨by rfl, ?_⟩) (by assumption) ?_
    · intro w' hSw
      have hc := (HC0.out w' hSw).2
      go_simp
    show wpAnyH _ _ _ _ _ _ _ (Act.put _ (some 15) _) _
    simp only [Act.put, List.setIfInBounds_toArray, List.set_cons_zero, List.set_cons_succ]
    refine wpAnyH_take (i := 13) (v := .bool true) rfl (by kernel_rfl) (by kernel_rfl) (by kernel_rfl) (fun _ _ _ h => h) (Or.inl ⟨by rfl, ?_⟩) (by assumption) ?_
    · intro w' hSw
      go_simp
    show wpAnyH _ _ _ _ _ _ _ (Act.put _ (some 16) _) _
    simp only [Act.put, List.setIfInBounds_toArray, List.set_cons_zero, List.set_cons_succ]
    refine wpAnyH_take (i := 14) (v := .bool true) rfl (by kernel_rfl) (by kernel_rfl) (by kernel_rfl) (fun _ _ _ h => h) (Or.inl ⟨by rfl, ?_⟩) (by assumption) ?_
    · intro w' hSw
      go_simp
    show wpAnyH _ _ _ _ _ _ _ (Act.put _ (some 17) _) _
    simp only [Act.put, List.setIfInBounds_toArray, List.set_cons_zero, List.set_cons_succ]
    refine wpAnyH_take (i := 15) (v := .bool true) rfl (by kernel_rfl) (by kernel_rfl) (by kernel_rfl) (fun _ _ _ h => h) (Or.inl ⟨by rfl, ?_⟩) (by assumption) ?_
    · intro w' hSw
      go_simp
    show wpAnyH _ _ _ _ _ _ _ (Act.put _ (some 18) _) _
    simp only [Act.put, List.setIfInBounds_toArray, List.set_cons_zero, List.set_cons_succ]
    refine wpAnyH_take (i := 16) (v := .pointer (some ⟨w.heap.size, 1, none⟩)) rfl (by kernel_rfl) (by kernel_rfl) (by kernel_rfl) (fun _ _ _ h => h) (Or.inl ⟨by rfl, ?_⟩) (by assumption) ?_
    · intro w' hSw
      go_simp
    show wpAnyH _ _ _ _ _ _ _ (Act.put _ (some 19) _) _
    simp only [Act.put, List.setIfInBounds_toArray, List.set_cons_zero, List.set_cons_succ]
    refine wpAnyH_take (i := 17) (v := .int .i64 tk) rfl (by kernel_rfl) (by kernel_rfl) (by kernel_rfl) (fun _ _ _ h => h) (Or.inl ⟨by rfl, ?_⟩) (by assumption) ?_
    · intro w' hSw
      have hc := (HC0.out w' hSw).2
      go_simp
    show wpAnyH _ _ _ _ _ _ _ (Act.put _ (some 20) _) _
    simp only [Act.put, List.setIfInBounds_toArray, List.set_cons_zero, List.set_cons_succ]
    refine wpAnyH_take (i := 18) (v := .bool true) rfl (by kernel_rfl) (by kernel_rfl) (by kernel_rfl) (fun _ _ _ h => h) (Or.inl ⟨by rfl, ?_⟩) (by assumption) ?_
    · intro w' hSw
      go_simp
    show wpAnyH _ _ _ _ _ _ _ (Act.put _ (some 21) _) _
    simp only [Act.put, List.setIfInBounds_toArray, List.set_cons_zero, List.set_cons_succ]
    refine wpAnyH_take (i := 19) (v := .bool true) rfl (by kernel_rfl) (by kernel_rfl) (by kernel_rfl) (fun _ _ _ h => h) (Or.inl ⟨by rfl, ?_⟩) (by assumption) ?_
    · intro w' hSw
      go_simp
    show wpAnyH _ _ _ _ _ _ _ (Act.put _ (some 22) _) _
    simp only [Act.put, List.setIfInBounds_toArray, List.set_cons_zero, List.set_cons_succ]
    refine wpAnyH_take (i := 20) (v := .bool true) rfl (by kernel_rfl) (by kernel_rfl) (by kernel_rfl) (fun _ _ _ h => h) (Or.inl ⟨by rfl, ?_⟩) (by assumption) ?_
    · intro w' hSw
      go_simp
    show wpAnyH _ _ _ _ _ _ _ (Act.put _ (some 23) _) _
    simp only [Act.put, List.setIfInBounds_toArray, List.set_cons_zero, List.set_cons_succ]
    refine wpAnyH_take (i := 21) (v := .pointer (some ⟨w.heap.size, 0, none⟩)) rfl (by kernel_rfl) (by kernel_rfl) (by kernel_rfl) (fun _ _ _ h => h) (Or.inl ⟨by rfl, ?_⟩) (by assumption) ?_
    · intro w' hSw
      go_simp
    show wpAnyH _ _ _ _ _ _ _ (Act.put _ (some 24) _) _
    simp only [Act.put, List.setIfInBounds_toArray, List.set_cons_zero, List.set_cons_succ]
    refine wpAnyH_take (i := 22) (v := .int .i64 kk) rfl (by kernel_rfl) (by kernel_rfl) (by kernel_rfl) (fun _ _ _ h => h) (Or.inl ⟨by rfl, ?_⟩) (by assumption) ?_
    · intro w' hSw
      have hc := (HC0.out w' hSw).1
      go_simp
    show wpAnyH _ _ _ _ _ _ _ (Act.put _ (some 25) _) _
    simp only [Act.put, List.setIfInBounds_toArray, List.set_cons_zero, List.set_cons_succ]
    refine wpAnyH_take (i := 23) (v := .bool true) rfl (by kernel_rfl) (by kernel_rfl) (by kernel_rfl) (fun _ _ _ h => h) (Or.inl ⟨by rfl, ?_⟩) (by assumption) ?_
    · intro w' hSw
      go_simp
    show wpAnyH _ _ _ _ _ _ _ (Act.put _ (some 26) _) _
    simp only [Act.put, List.setIfInBounds_toArray, List.set_cons_zero, List.set_cons_succ]
    refine wpAnyH_take (i := 24) (v := .bool true) rfl (by kernel_rfl) (by kernel_rfl) (by kernel_rfl) (fun _ _ _ h => h) (Or.inl ⟨by rfl, ?_⟩) (by assumption) ?_
    · intro w' hSw
      go_simp
    show wpAnyH _ _ _ _ _ _ _ (Act.put _ (some 27) _) _
    simp only [Act.put, List.setIfInBounds_toArray, List.set_cons_zero, List.set_cons_succ]
    refine wpAnyH_take (i := 25) (v := undef) rfl (by kernel_rfl) (by kernel_rfl) (by kernel_rfl) (fun _ _ _ h => h) (Or.inr ⟨by rfl, rfl⟩) (by assumption) ?_
    show wpAnyH _ _ _ _ _ _ _ (Act.put _ (some 28) _) _
    simp only [Act.put, List.setIfInBounds_toArray, List.set_cons_zero, List.set_cons_succ]
    refine wpAnyH_take (i := 26) (v := undef) rfl (by kernel_rfl) (by kernel_rfl) (by kernel_rfl) (fun _ _ _ h => h) (Or.inr ⟨by rfl, rfl⟩) (by assumption) ?_
    show wpAnyH _ _ _ _ _ _ _ (Act.put _ (some 29) _) _
    simp only [Act.put, List.setIfInBounds_toArray, List.set_cons_zero, List.set_cons_succ]
    refine wpAnyH_take (i := 27) (v := undef) rfl (by kernel_rfl) (by kernel_rfl) (by kernel_rfl) (fun _ _ _ h => h) (Or.inr ⟨by rfl, rfl⟩) (by assumption) ?_
    show wpAnyH _ _ _ _ _ _ _ (Act.put _ (some 30) _) _
    simp only [Act.put, List.setIfInBounds_toArray, List.set_cons_zero, List.set_cons_succ]
    refine wpAnyH_take (i := 28) (v := .bool true) rfl (by kernel_rfl) (by kernel_rfl) (by kernel_rfl) (fun _ _ _ h => h) (Or.inl ⟨by rfl, ?_⟩) (by assumption) ?_
    · intro w' hSw
      go_simp
    show wpAnyH _ _ _ _ _ _ _ (Act.put _ (some 31) _) _
    simp only [Act.put, List.setIfInBounds_toArray, List.set_cons_zero, List.set_cons_succ]
    refine wpAnyH_take (i := 29) (v := .bool true) rfl (by kernel_rfl) (by kernel_rfl) (by kernel_rfl) (fun _ _ _ h => h) (Or.inl ⟨by rfl, ?_⟩) (by assumption) ?_
    · intro w' hSw
      go_simp
    show wpAnyH _ _ _ _ _ _ _ (Act.put _ (some 32) _) _
    simp only [Act.put, List.setIfInBounds_toArray, List.set_cons_zero, List.set_cons_succ]
    refine wpAnyH_take (i := 30) (v := .bool true) rfl (by kernel_rfl) (by kernel_rfl) (by kernel_rfl) (fun _ _ _ h => h) (Or.inl ⟨by rfl, ?_⟩) (by assumption) ?_
    · intro w' hSw
      go_simp
    show wpAnyH _ _ _ _ _ _ _ (Act.put _ (some 2) _) _
    simp only [Act.put, List.setIfInBounds_toArray, List.set_cons_zero, List.set_cons_succ]
    refine wpAnyH_done (by kernel_rfl) ?_ _
    go_wp2_with fail
    go_ret
    exact ⟨ret_yes HF.out, HB1.out.1.trans (hX3.mono HB1.out.1.size)⟩
  have HF := Lib.hid (show EvOk a.con ↔ ActOk a.act.con from ⟨fun h => (HOK.out.1 h).2.2.2 hk1, fun h => HOK.out.2 ⟨HNE.out, HSM.out, HTK.out, fun _ => h⟩⟩)
  have e1 : (kk == 1) = true := by simpa using hk1
  have e2 : (kk != 1) = false := by simpa using hk1
  clear hk1
  refine wp_region_held_drew (S := fun W' => Below W1.heap.size W1 W') (by kernel_rfl) HHD.out (fun hHeld => ?_)
  refine wpAnyH_take (i := 0) (v := .pointer (some ⟨w.heap.size, 0, none⟩)) rfl (by kernel_rfl) (by kernel_rfl) (by kernel_rfl) (fun _ _ _ h => h) (Or.inl ⟨by rfl, ?_⟩) (by assumption) ?_
  · intro w' hSw
    go_simp
  show wpAnyH _ _ _ _ _ _ _ (Act.put _ (some 3) _) _
  simp only [Act.put, List.setIfInBounds_toArray, List.set_cons_zero, List.set_cons_succ]
  refine wpAnyH_take (i := 1) (v := .int .i64 kk) rfl (by kernel_rfl) (by kernel_rfl) (by kernel_rfl) (fun _ _ _ h => h) (Or.inl ⟨by rfl, ?_⟩) (by assumption) ?_
  · intro w' hSw
    have hc := (HC0.out w' hSw).1
    go_simp
  show wpAnyH _ _ _ _ _ _ _ (Act.put _ (some 4) _) _
  simp only [Act.put, List.setIfInBounds_toArray, List.set_cons_zero, List.set_cons_succ]
  refine wpAnyH_ready (rs := [2]) (by kernel_rfl) (by simp) ?_
  refine AllReadyH.cons rfl (fun K hK => ?_) AllReadyH.nil
  go_simp
  refine (HEW.out _).mono ?_
  rintro e X1 ⟨rfl, hx1⟩
  go_simp
  refine hK.out _ _ (hHeld.trans (hx1.mono hHeld.size)) (fun hHeld => ?_)
  clear hK K
  have hX1 := hHeld
  clear hx1
  refine wpAnyH_take (i := 3) (v := .bool true) rfl (by kernel_rfl) (by kernel_rfl) (by kernel_rfl) (fun _ _ _ h => h) (Or.inl ⟨by rfl, ?_⟩) (by assumption) ?_
  · intro w' hSw
    go_simp
  show wpAnyH _ _ _ _ _ _ _ (Act.put _ (some 6) _) _
  simp only [Act.put, List.setIfInBounds_toArray, List.set_cons_zero, List.set_cons_succ]
  refine wpAnyH_take (i := 4) (v := .bool true) rfl (by kernel_rfl) (by kernel_rfl) (by kernel_rfl) (fun _ _ _ h => h) (Or.inl ⟨by rfl, ?_⟩) (by assumption) ?_
  · intro w' hSw
    go_simp
  show wpAnyH _ _ _ _ _ _ _ (Act.put _ (some 7) _) _
  simp only [Act.put, List.setIfInBounds_toArray, List.set_cons_zero, List.set_cons_succ]
  refine wpAnyH_take (i := 5) (v := .agg L.toArray) rfl (by kernel_rfl) (by kernel_rfl) (by kernel_rfl) (fun _ _ _ h => h) (yieldsIf_load_mid (by rfl) 35 (.tmp 1) rfl w.heap.size 0 rfl L _ (fun w' hSw => HRL.out w' hSw) Tryz.underlying35 rfl HSZ.out.1) (by assumption) ?_
  show wpAnyH _ _ _ _ _ _ _ (Act.put _ (some 8) _) _
  simp only [Act.put, List.setIfInBounds_toArray, List.set_cons_zero, List.set_cons_succ]
  refine wpAnyH_take (i := 6) (v := .agg L.toArray) rfl (by kernel_rfl) (by kernel_rfl) (by kernel_rfl) (fun _ _ _ h => h) (yieldsIf_load_mid (by rfl) 35 (.tmp 1) rfl w.heap.size 0 rfl L _ (fun w' hSw => HRL.out w' hSw) Tryz.underlying35 rfl HSZ.out.1) (by assumption) ?_
  show wpAnyH _ _ _ _ _ _ _ (Act.put _ (some 9) _) _
  simp only [Act.put, List.setIfInBounds_toArray, List.set_cons_zero, List.set_cons_succ]
  refine wpAnyH_ready (rs := [7]) (by kernel_rfl) (by simp) ?_
  refine AllReadyH.cons rfl (fun K hK => ?_) AllReadyH.nil
  go_simp
  refine (HOE.out _ (by assumption)).mono ?_
  rintro e X2 ⟨a', rfl, hcon, hat', hl', hx2⟩
  have HA' := Lib.hid (And.intro hcon (And.intro hat' hl'))
  clear hcon hat' hl'
  go_simp
  refine hK.out _ _ (hX1.trans (hx2.mono hX1.size)) (fun hHeld => ?_)
  clear hK K
  have hX2 := hHeld
  clear hx2
  refine wpAnyH_ready (rs := [8]) (by kernel_rfl) (by simp) ?_
  refine AllReadyH.cons rfl (fun K hK => ?_) AllReadyH.nil
  go_simp
  refine (HON.out _ (by assumption) a' _ HA'.out.2.1 (Nat.le_trans HB1.out.1.size hX2.size)).mono ?_
  rintro e X3 ⟨rfl, hx3⟩
  rw [tb_true (by rw [HA'.out.1]; exact HSM.out)]
  go_simp
  refine hK.out _ _ (hX2.trans (hx3.mono hX2.size)) (fun hHeld => ?_)
  clear hK K
  have hX3 := hHeld
  clear hx3
  refine wpAnyH_take (i := 9) (v := .bool true) rfl (by kernel_rfl) (by kernel_rfl) (by kernel_rfl) (fun _ _ _ h => h) (Or.inl ⟨by rfl, ?_⟩) (by assumption) ?_
  · intro w' hSw
    go_simp
  show wpAnyH _ _ _ _ _ _ _ (Act.put _ (some 12) _) _
  simp only [Act.put, List.setIfInBounds_toArray, List.set_cons_zero, List.set_cons_succ]
  refine wpAnyH_take (i := 10) (v := .bool true) rfl (by kernel_rfl) (by kernel_rfl) (by kernel_rfl) (fun _ _ _ h => h) (Or.inl ⟨by rfl, ?_⟩) (by assumption) ?_
  · intro w' hSw
    go_simp
  show wpAnyH _ _ _ _ _ _ _ (Act.put _ (some 13) _) _
  simp only [Act.put, List.setIfInBounds_toArray, List.set_cons_zero, List.set_cons_succ]
  refine wpAnyH_take (i := 11) (v := .pointer (some ⟨w.heap.size, 1, none⟩)) rfl (by kernel_rfl) (by kernel_rfl) (by kernel_rfl) (fun _ _ _ h => h) (Or.inl ⟨by rfl, ?_⟩) (by assumption) ?_
  · intro w' hSw
    go_simp
  show wpAnyH _ _ _ _ _ _ _ (Act.put _ (some 14) _) _
  simp only [Act.put, List.setIfInBounds_toArray, List.set_cons_zero, List.set_cons_succ]
  refine wpAnyH_take (i := 12) (v := .int .i64 tk) rfl (by kernel_rfl) (by kernel_rfl) (by kernel_rfl) (fun _ _ _ h => h) (Or.inl ⟨by rfl, ?_⟩) (by assumption) ?_
  · intro w' hSw
    have hc := (HC0.out w' hSw).2
    go_simp
  show wpAnyH _ _ _ _ _ _ _ (Act.put _ (some 15) _) _
  simp only [Act.put, List.setIfInBounds_toArray, List.set_cons_zero, List.set_cons_succ]
  refine wpAnyH_take (i := 13) (v := .bool true) rfl (by kernel_rfl) (by kernel_rfl) (by kernel_rfl) (fun _ _ _ h => h) (Or.inl ⟨by rfl, ?_⟩) (by assumption) ?_
  · intro w' hSw
    go_simp
  show wpAnyH _ _ _ _ _ _ _ (Act.put _ (some 16) _) _
  simp only [Act.put, List.setIfInBounds_toArray, List.set_cons_zero, List.set_cons_succ]
  refine wpAnyH_take (i := 14) (v := .bool true) rfl (by kernel_rfl) (by kernel_rfl) (by kernel_rfl) (fun _ _ _ h => h) (Or.inl ⟨by rfl, ?_⟩) (by assumption) ?_
  · intro w' hSw
    go_simp
  show wpAnyH _ _ _ _ _ _ _ (Act.put _ (some 17) _) _
  simp only [Act.put, List.setIfInBounds_toArray, List.set_cons_zero, List.set_cons_succ]
  refine wpAnyH_take (i := 15) (v := .bool true) rfl (by kernel_rfl) (by kernel_rfl) (by kernel_rfl) (fun _ _ _ h => h) (Or.inl ⟨by rfl, ?_⟩) (by assumption) ?_
  · intro w' hSw
    go_simp
  show wpAnyH _ _ _ _ _ _ _ (Act.put _ (some 18) _) _
  simp only [Act.put, List.setIfInBounds_toArray, List.set_cons_zero, List.set_cons_succ]
  refine wpAnyH_take (i := 16) (v := .pointer (some ⟨w.heap.size, 1, none⟩)) rfl (by kernel_rfl) (by kernel_rfl) (by kernel_rfl) (fun _ _ _ h => h) (Or.inl ⟨by rfl, ?_⟩) (by assumption) ?_
  · intro w' hSw
    go_simp
  show wpAnyH _ _ _ _ _ _ _ (Act.put _ (some 19) _) _
  simp only [Act.put, List.setIfInBounds_toArray, List.set_cons_zero, List.set_cons_succ]
  refine wpAnyH_take (i := 17) (v := .int .i64 tk) rfl (by kernel_rfl) (by kernel_rfl) (by kernel_rfl) (fun _ _ _ h => h) (Or.inl ⟨by rfl, ?_⟩) (by assumption) ?_
  · intro w' hSw
    have hc := (HC0.out w' hSw).2
    go_simp
  show wpAnyH _ _ _ _ _ _ _ (Act.put _ (some 20) _) _
  simp only [Act.put, List.setIfInBounds_toArray, List.set_cons_zero, List.set_cons_succ]
  refine wpAnyH_take (i := 18) (v := .bool true) rfl (by kernel_rfl) (by kernel_rfl) (by kernel_rfl) (fun _ _ _ h => h) (Or.inl ⟨by rfl, ?_⟩) (by assumption) ?_
  · intro w' hSw
    go_simp
  show wpAnyH _ _ _ _ _ _ _ (Act.put _ (some 21) _) _
  simp only [Act.put, List.setIfInBounds_toArray, List.set_cons_zero, List.set_cons_succ]
  refine wpAnyH_take (i := 19) (v := .bool true) rfl (by kernel_rfl) (by kernel_rfl) (by kernel_rfl) (fun _ _ _ h => h) (Or.inl ⟨by rfl, ?_⟩) (by assumption) ?_
  · intro w' hSw
    go_simp
  show wpAnyH _ _ _ _ _ _ _ (Act.put _ (some 22) _) _
  simp only [Act.put, List.setIfInBounds_toArray, List.set_cons_zero, List.set_cons_succ]
  refine wpAnyH_take (i := 20) (v := .bool true) rfl (by kernel_rfl) (by kernel_rfl) (by kernel_rfl) (fun _ _ _ h => h) (Or.inl ⟨by rfl, ?_⟩) (by assumption) ?_
  · intro w' hSw
    go_simp
  show wpAnyH _ _ _ _ _ _ _ (Act.put _ (some 23) _) _
  simp only [Act.put, List.setIfInBounds_toArray, List.set_cons_zero, List.set_cons_succ]
  refine wpAnyH_take (i := 21) (v := .pointer (some ⟨w.heap.size, 0, none⟩)) rfl (by kernel_rfl) (by kernel_rfl) (by kernel_rfl) (fun _ _ _ h => h) (Or.inl ⟨by rfl, ?_⟩) (by assumption) ?_
  · intro w' hSw
    go_simp
  show wpAnyH _ _ _ _ _ _ _ (Act.put _ (some 24) _) _
  simp only [Act.put, List.setIfInBounds_toArray, List.set_cons_zero, List.set_cons_succ]
  refine wpAnyH_take (i := 22) (v := .int .i64 kk) rfl (by kernel_rfl) (by kernel_rfl) (by kernel_rfl) (fun _ _ _ h => h) (Or.inl ⟨by rfl, ?_⟩) (by assumption) ?_
  · intro w' hSw
    have hc := (HC0.out w' hSw).1
    go_simp
  show wpAnyH _ _ _ _ _ _ _ (Act.put _ (some 25) _) _
  simp only [Act.put, List.setIfInBounds_toArray, List.set_cons_zero, List.set_cons_succ]
  refine wpAnyH_take (i := 23) (v := .bool false) rfl (by kernel_rfl) (by kernel_rfl) (by kernel_rfl) (fun _ _ _ h => h) (Or.inl ⟨by rfl, ?_⟩) (by assumption) ?_
  · intro w' hSw
    go_simp
  show wpAnyH _ _ _ _ _ _ _ (Act.put _ (some 26) _) _
  simp only [Act.put, List.setIfInBounds_toArray, List.set_cons_zero, List.set_cons_succ]
  refine wpAnyH_take (i := 24) (v := .bool false) rfl (by kernel_rfl) (by kernel_rfl) (by kernel_rfl) (fun _ _ _ h => h) (Or.inl ⟨by rfl, ?_⟩) (by assumption) ?_
  · intro w' hSw
    go_simp
  show wpAnyH _ _ _ _ _ _ _ (Act.put _ (some 27) _) _
  simp only [Act.put, List.setIfInBounds_toArray, List.set_cons_zero, List.set_cons_succ]
  refine wpAnyH_take (i := 25) (v := .pointer (some ⟨w.heap.size, 19, none⟩)) rfl (by kernel_rfl) (by kernel_rfl) (by kernel_rfl) (fun _ _ _ h => h) (Or.inl ⟨by rfl, ?_⟩) (by assumption) ?_
  · intro w' hSw
    go_simp
  show wpAnyH _ _ _ _ _ _ _ (Act.put _ (some 28) _) _
  simp only [Act.put, List.setIfInBounds_toArray, List.set_cons_zero, List.set_cons_succ]
  refine wpAnyH_take (i := 26) (v := .agg (actCs a.act).toArray) rfl (by kernel_rfl) (by kernel_rfl) (by kernel_rfl) (fun _ _ _ h => h) (yieldsIf_load_mid (by rfl) 33 (.tmp 28) rfl w.heap.size 19 rfl (actCs a.act) _ (fun w' hSw => HRA.out w' hSw) Tryz.underlying33 rfl HSZ.out.2) (by assumption) ?_
  show wpAnyH _ _ _ _ _ _ _ (Act.put _ (some 29) _) _
  simp only [Act.put, List.setIfInBounds_toArray, List.set_cons_zero, List.set_cons_succ]
  refine wpAnyH_ready (rs := [27]) (by kernel_rfl) (by simp) ?_
  refine AllReadyH.cons rfl (fun K hK => ?_) AllReadyH.nil
  go_simp
  refine (HRI.out _ (by assumption)).mono ?_
  rintro e X4 ⟨rfl, hx4⟩
  go_simp
  refine hK.out _ _ (hX3.trans (hx4.mono hX3.size)) (fun hHeld => ?_)
  clear hK K
  have hX4 := hHeld
  clear hx4
  refine wpAnyH_take (i := 28) (v := .bool (tb (ActOk a.act.con))) rfl (by kernel_rfl) (by kernel_rfl) (by kernel_rfl) (fun _ _ _ h => h) (Or.inl ⟨by rfl, ?_⟩) (by assumption) ?_
  · intro w' hSw
    go_simp
  show wpAnyH _ _ _ _ _ _ _ (Act.put _ (some 31) _) _
  simp only [Act.put, List.setIfInBounds_toArray, List.set_cons_zero, List.set_cons_succ]
  refine wpAnyH_take (i := 29) (v := .bool (tb (ActOk a.act.con))) rfl (by kernel_rfl) (by kernel_rfl) (by kernel_rfl) (fun _ _ _ h => h) (Or.inl ⟨by rfl, ?_⟩) (by assumption) ?_
  · intro w' hSw
    go_simp
  show wpAnyH _ _ _ _ _ _ _ (Act.put _ (some 32) _) _
  simp only [Act.put, List.setIfInBounds_toArray, List.set_cons_zero, List.set_cons_succ]
  refine wpAnyH_take (i := 30) (v := .bool (tb (ActOk a.act.con))) rfl (by kernel_rfl) (by kernel_rfl) (by kernel_rfl) (fun _ _ _ h => h) (Or.inl ⟨by rfl, ?_⟩) (by assumption) ?_
  · intro w' hSw
    go_simp
  show wpAnyH _ _ _ _ _ _ _ (Act.put _ (some 2) _) _
  simp only [Act.put, List.setIfInBounds_toArray, List.set_cons_zero, List.set_cons_succ]
  refine wpAnyH_done (by kernel_rfl) ?_ _
  go_wp2_with fail
  go_ret
  refine ⟨?_, HB1.out.1.trans (hX4.mono HB1.out.1.size)⟩
  rw [tb_iff HF.out]
  rfl
end
section
open Go.RowKit Go.Maps
open Go.Lib (itoa)

theorem step_store_row {P : Program} {ops : Array Oper} {o : Oper} {a : Act} {w : World} {K : Act → World → Prop} {Q : Exit → Act → World → Prop} {E : Prop} (hw : Region.wanted o (yielded ops a.tmps) = true) (ty : TypeId) (x y : Operand) (ho : o.op = .store ty x y)
    (g : Nat) (cells : Array Value) (hx : a.eval x = .pointer (some ⟨g, 0, none⟩)) (hy : a.eval y = .agg cells) (t : TypeId) (old : Array Value) (hg : w.heap[g]? = some (.cells old t (0, 0))) (hi : (P.info? ty).map (·.size) = some cells.size) (hold : old.size = cells.size) (h1 : cells.all (·.oneCell') = true)
    (h : K (a.put o.dst undef) (w.setRow g cells)) : if Region.wanted o (yielded ops a.tmps) = true then Oper.wp P o a w K Q else E := by
  rw [if_pos hw]
  exact wp_store_row ty x y ho g cells hx hy t old hg hi hold h1 h
/-- the text of an event as far as its kind. -/
def preE (t k : Int) : Wd := itoa t ++ 32 :: evN k
theorem preE_len {t k : Int} (ht : Is64 t) (h1 : 1 ≤ k) (h2 : k ≤ 13) : (preE t k).length ≤ 60 := by
  unfold preE
  have := itoa_len ht
  have h3 := int_13 (P := fun k => (evN k).length ≤ 20) (by decide) h1 h2
  rw [List.length_append, List.length_cons]
  omega
theorem evT_pre {e : EvC} {k : Int} (hk : e.kind = k) : evT e = preE e.tick k ++ spW ((evF k).flatMap (eW e)) := by
  subst hk
  unfold evT evW preE
  rw [spW_line, List.append_assoc]
  rfl
set_option maxRecDepth 100000 in
theorem text51_no (a : EvM) (w : World) (hat : EvAt w w.heap.size a) (hl : ActL a.act) (hok : ¬ EvOk a.con) : Calls Tryz.prog 14 #[evV a] w fun e w' => FmtR (EvOk a.con) (evT a.con) e ∧ Below w.heap.size w w' := by
  obtain ⟨C, hC⟩ : ∃ C, C = (evCs a).toArray := ⟨_, rfl⟩
  have hv : evV a = .agg C := by rw [hC]; rfl
  have hsz : (Tryz.prog.info? 35).map (·.size) = some C.size := by rw [hC]; exact ev_size
  obtain ⟨W1, hW1⟩ : ∃ W1, W1 = w.alloc (.cells C 35) := ⟨_, rfl⟩
  have hrow := new_obj w (.cells C 35)
  have hb1 : Below w.heap.size w W1 := by rw [hW1]; exact below_new _ _
  have HRA := Lib.hid (right_any a W1 (hat.next hb1) hl)
  rw [tb_false hok] at HRA
  have HB1 := Lib.hid (And.intro hb1 hok)
  rw [hv] at HRA ⊢
  clear hC hv hb1 hok hat hl
  go_enter Tryz.func14, Tryz.ntmps14
  go_wp2_with ((with_reducible refine wpList_at 10 rfl ?_); refine wpList_load_row_g (by rfl) 35 (.tmp 1) rfl w.heap.size rfl 35 C (0, 0) _ hrow Tryz.underlying35 rfl hsz ?_)
  rw [← hW1]
  clear hrow hW1
  refine HRA.out.mono ?_
  rintro e X1 ⟨rfl, hb⟩
  have HX1 := Lib.hid hb
  clear hb HRA
  go_wp2_with fail
  go_ret2
  exact ⟨.inr (.inr ⟨HB1.out.2, rfl⟩), HB1.out.1.trans (HX1.out.mono HB1.out.1.size)⟩
set_option maxRecDepth 100000 in
set_option maxHeartbeats 40000000 in
theorem text51_yes (a : EvM) (w : World) (hat : EvAt w w.heap.size a) (hl : ActL a.act) (hR : EvR a.con) (hsz0 : actSize a.act.con ≤ 100000) (hbl : a.ebody.length ≤ 100000) (kk : Int) (hk : a.kind = kk) (hok : EvOk a.con) : Calls Tryz.prog 14 #[evV a] w fun e w' => FmtR (EvOk a.con) (evT a.con) e ∧ Below w.heap.size w w' := by
  have HKR : Hid (1 ≤ kk ∧ kk ≤ 13) := Lib.hid (by
    have h : 1 ≤ a.kind ∧ a.kind ≤ 13 := evN_in hok.1
    rw [hk] at h
    exact h)
  have HCS := Lib.hid (show kk = 1 ∨ kk = 2 ∨ kk = 3 ∨ kk = 4 ∨ kk = 5 ∨ kk = 6 ∨ kk = 7 ∨ kk = 8 ∨ kk = 9 ∨ kk = 10 ∨ kk = 11 ∨ kk = 12 ∨ kk = 13 by have := HKR.out; omega)
  obtain ⟨C, hC⟩ : ∃ C, C = (evCs a).toArray := ⟨_, rfl⟩
  have hv : evV a = .agg C := by rw [hC]; rfl
  have hsz : (Tryz.prog.info? 35).map (·.size) = some C.size := by rw [hC]; exact ev_size
  obtain ⟨W1, hW1⟩ : ∃ W1, W1 = w.alloc (.cells C 35) := ⟨_, rfl⟩
  have hrow := new_obj w (.cells C 35)
  have hb1 : Below w.heap.size w W1 := by rw [hW1]; exact below_new _ _
  have hlt1 : w.heap.size < W1.heap.size := by rw [hW1]; simp
  have hrow1 : W1.rangeAt w.heap.size 0 (evCs a) := fun j v hj => by
    rw [hW1, Lib.cell_of_heap hrow, hC]
    simpa using hj
  have HRG := Lib.hid (show ∀ w' : World, Below W1.heap.size W1 w' → w'.rangeAt w.heap.size 0 (evCs a) from fun w' hb j v hj => (hb.cell (p := ⟨w.heap.size, 0 + j, none⟩) hlt1).trans (hrow1 j v hj))
  have HRA := Lib.hid (right_any a W1 (hat.next hb1) hl)
  rw [tb_true hok] at HRA
  have HB1 := Lib.hid (And.intro hb1 (And.intro hat (And.intro hl (And.intro hR (And.intro hsz0 hbl)))))
  have HOK := Lib.hid hok
  have HK := Lib.hid hk
  have HCL := Lib.hid (show ∀ (j : Nat) (u : Value), (evCs a)[j]? = some u → ∀ X : World, Below W1.heap.size W1 X → X.cell? ⟨w.heap.size, j, none⟩ = some u from fun j u hj X hX => by have h := HRG.out X hX j u hj; simpa using h)
  have HC0 := Lib.hid (HCL.out 0 (.int .i64 kk) (by rw [← hk]; rfl))
  have HC1 := Lib.hid (HCL.out 1 (.int .i64 a.tick) rfl)
  have HC2 := Lib.hid (HCL.out 2 (.int .i64 a.who) rfl)
  have HRO := Lib.hid (show ∀ w' : World, Below W1.heap.size W1 w' → w'.rangeAt w.heap.size 9 [.int .i64 a.ord.unit, .int .i64 a.ord.epoch, .int .i64 a.ord.kind, .int .i64 a.ord.incident, .int .i64 a.ord.node] from fun w' hb => range_part (HRG.out w' hb) (fun j v hj => by
    match j, hj with
    | 0, hj => exact hj
    | 1, hj => exact hj
    | 2, hj => exact hj
    | 3, hj => exact hj
    | 4, hj => exact hj
    | j + 5, hj => simp at hj))
  have HRS := Lib.hid (show ∀ w' : World, Below W1.heap.size W1 w' → w'.rangeAt w.heap.size 14 [.int .i64 a.sta.unit, .int .i64 a.sta.seq, .int .i64 a.sta.state, .int .i64 a.sta.node, .int .i64 a.sta.epoch] from fun w' hb => range_part (HRG.out w' hb) (fun j v hj => by
    match j, hj with
    | 0, hj => exact hj
    | 1, hj => exact hj
    | 2, hj => exact hj
    | 3, hj => exact hj
    | 4, hj => exact hj
    | j + 5, hj => simp at hj))
  have HMI := Lib.hid (And.intro (show (Tryz.prog.info? 27).map (·.size) = some 5 by kernel_rfl) (And.intro (show (Tryz.prog.info? 29).map (·.size) = some 5 by kernel_rfl) (And.intro (show (#[.int .i64 a.ord.unit, .int .i64 a.ord.epoch, .int .i64 a.ord.kind, .int .i64 a.ord.incident, .int .i64 a.ord.node] : Array Value).all (·.oneCell') = true by simp [Value.oneCell']) (show (#[.int .i64 a.sta.unit, .int .i64 a.sta.seq, .int .i64 a.sta.state, .int .i64 a.sta.node, .int .i64 a.sta.epoch] : Array Value).all (·.oneCell') = true by simp [Value.oneCell']))))
  have HNM := Lib.hid (fun X : World => num51_any a.tick hR.tick X)
  have HEW := Lib.hid (fun X : World => evWord_any kk X)
  obtain ⟨s1, hs1⟩ : ∃ s, s = bs (itoa a.tick) := ⟨_, rfl⟩
  obtain ⟨s2, hs2⟩ : ∃ s, s = bs (evN kk) := ⟨_, rfl⟩
  have hl1 : s1.size ≤ 21 := by rw [hs1, bs_size]; exact itoa_len hR.tick
  have hl2 : s2.size ≤ 20 := by rw [hs2, bs_size]; exact int_13 (P := fun k => (evN k).length ≤ 20) (by decide) HKR.out.1 HKR.out.2
  rw [← hs1] at HNM
  rw [← hs2] at HEW
  have HS12 := Lib.hid (show s1 ++ ⟨#[32]⟩ ++ s2 = bs (preE a.tick kk) by rw [hs1, hs2, lit32, bs_append, bs_append, List.append_assoc]; rfl)
  rw [hv] at HRA ⊢
  clear hC hv hb1 hlt1 hrow1 hok hat hl hR hsz0 hbl hk hs1 hs2
  go_enter Tryz.func14, Tryz.ntmps14
  go_wp2_with ((with_reducible refine wpList_at 10 rfl ?_); refine wpList_load_row_g (by rfl) 35 (.tmp 1) rfl w.heap.size rfl 35 C (0, 0) _ hrow Tryz.underlying35 rfl hsz ?_)
  rw [← hW1]
  clear hrow hW1 hsz
  refine HRA.out.mono ?_
  rintro e X1 ⟨rfl, hb⟩
  have HX1 := Lib.hid hb
  clear hb HRA
  go_wp2_with fail
  have HHD := Lib.hid (show Below W1.heap.size W1 X1.drew from below_dr HX1.out 1)
  refine wp_region_held_drew (S := fun W' => Below W1.heap.size W1 W') (by kernel_rfl) HHD.out (fun hHeld => ?_)
  refine wpAnyH_take (i := 0) (v := .pointer (some ⟨w.heap.size, 1, none⟩)) rfl (by kernel_rfl) (by kernel_rfl) (by kernel_rfl) (fun _ _ _ h => h) (Or.inl ⟨by rfl, ?_⟩) (by assumption) ?_
  · intro w' hSw
    go_simp
  show wpAnyH _ _ _ _ _ _ _ (Act.put _ (some 13) _) _
  simp only [Act.put, List.setIfInBounds_toArray, List.set_cons_zero, List.set_cons_succ]
  refine wpAnyH_take (i := 1) (v := .int .i64 a.tick) rfl (by kernel_rfl) (by kernel_rfl) (by kernel_rfl) (fun _ _ _ h => h) (Or.inl ⟨by rfl, ?_⟩) (by assumption) ?_
  · intro w' hSw
    have hc := HC1.out w' hSw
    go_simp
  show wpAnyH _ _ _ _ _ _ _ (Act.put _ (some 14) _) _
  simp only [Act.put, List.setIfInBounds_toArray, List.set_cons_zero, List.set_cons_succ]
  refine wpAnyH_take (i := 4) (v := .pointer (some ⟨w.heap.size, 0, none⟩)) rfl (by kernel_rfl) (by kernel_rfl) (by kernel_rfl) (fun _ _ _ h => h) (Or.inl ⟨by rfl, ?_⟩) (by assumption) ?_
  · intro w' hSw
    go_simp
  show wpAnyH _ _ _ _ _ _ _ (Act.put _ (some 17) _) _
  simp only [Act.put, List.setIfInBounds_toArray, List.set_cons_zero, List.set_cons_succ]
  refine wpAnyH_take (i := 5) (v := .int .i64 kk) rfl (by kernel_rfl) (by kernel_rfl) (by kernel_rfl) (fun _ _ _ h => h) (Or.inl ⟨by rfl, ?_⟩) (by assumption) ?_
  · intro w' hSw
    have hc := HC0.out w' hSw
    go_simp
  show wpAnyH _ _ _ _ _ _ _ (Act.put _ (some 18) _) _
  simp only [Act.put, List.setIfInBounds_toArray, List.set_cons_zero, List.set_cons_succ]
  refine wpAnyH_ready (rs := [2]) (by kernel_rfl) (by simp) ?_
  refine AllReadyH.cons rfl (fun K hK => ?_) AllReadyH.nil
  go_simp
  refine (HNM.out _).mono ?_
  rintro e Y1 ⟨rfl, hy1⟩
  go_simp
  have hY1 := hHeld.trans (hy1.mono hHeld.size)
  clear hy1
  refine hK.out _ _ hY1 (fun hHeld => ?_)
  clear hK K
  refine wpAnyH_take (i := 3) (v := .string (s1 ++ ⟨#[32]⟩)) rfl (by kernel_rfl) (by kernel_rfl) (by kernel_rfl) (fun _ _ _ h => h) (Or.inl ⟨by rfl, ?_⟩) (by assumption) ?_
  · intro w' hSw
    go_simp
    omega
  show wpAnyH _ _ _ _ _ _ _ (Act.put _ (some 16) _) _
  simp only [Act.put, List.setIfInBounds_toArray, List.set_cons_zero, List.set_cons_succ]
  refine wpAnyH_ready (rs := [6]) (by kernel_rfl) (by simp) ?_
  refine AllReadyH.cons rfl (fun K hK => ?_) AllReadyH.nil
  go_simp
  refine (HEW.out _).mono ?_
  rintro e Y2 ⟨rfl, hy2⟩
  go_simp
  have hY2 := hY1.trans (hy2.mono hY1.size)
  clear hy2
  refine hK.out _ _ hY2 (fun hHeld => ?_)
  clear hK K
  refine wpAnyH_take (i := 7) (v := .string (s1 ++ ⟨#[32]⟩ ++ s2)) rfl (by kernel_rfl) (by kernel_rfl) (by kernel_rfl) (fun _ _ _ h => h) (Or.inl ⟨by rfl, ?_⟩) (by assumption) ?_
  · intro w' hSw
    go_simp
    omega
  show wpAnyH _ _ _ _ _ _ _ (Act.put _ (some 20) _) _
  simp only [Act.put, List.setIfInBounds_toArray, List.set_cons_zero, List.set_cons_succ]
  refine wpAnyH_take (i := 8) (v := .string (s1 ++ ⟨#[32]⟩ ++ s2)) rfl (by kernel_rfl) (by kernel_rfl) (by kernel_rfl) (fun _ _ _ h => h) (Or.inl ⟨by rfl, ?_⟩) (by assumption) ?_
  · intro w' hSw
    go_simp
  show wpAnyH _ _ _ _ _ _ _ (Act.put _ (some 4) _) _
  simp only [Act.put, List.setIfInBounds_toArray, List.set_cons_zero, List.set_cons_succ]
  refine wpAnyH_done (by kernel_rfl) ?_ _
  have HY2 := Lib.hid hY2
  obtain ⟨S, hS⟩ : ∃ S, S = s1 ++ ⟨#[32]⟩ ++ s2 := ⟨_, rfl⟩
  have HS := Lib.hid (hS.trans HS12.out)
  have hSl : S.size ≤ 60 := by rw [HS.out, bs_size]; exact preE_len HB1.out.2.2.2.1.tick HKR.out.1 HKR.out.2
  rw [← hS]
  clear hS hHeld hY1 hY2 hl1 hl2 HS12 HNM HEW HHD HX1
  go_wp2_with fail
  have HHD := Lib.hid (show Below W1.heap.size W1 Y2.drew from below_dr HY2.out 1)
  refine wp_region_held_drew (S := fun W' => Below W1.heap.size W1 W') (by kernel_rfl) HHD.out (fun hHeld => ?_)
  obtain ⟨V, hV⟩ : ∃ V, V = World.drew Y2 := ⟨_, rfl⟩
  rw [← hV] at hHeld ⊢
  clear hV HHD
  have HHD := Lib.hid hHeld
  refine wpAnyH_take (i := 0) (v := .pointer (some ⟨w.heap.size, 2, none⟩)) rfl (by kernel_rfl) (by kernel_rfl) (by kernel_rfl) (fun _ _ _ h => h) (Or.inl ⟨by rfl, ?_⟩) (by assumption) ?_
  · intro w' hSw
    go_simp
  show wpAnyH _ _ _ _ _ _ _ (Act.put _ (some 21) _) _
  simp only [Act.put, List.setIfInBounds_toArray, List.set_cons_zero, List.set_cons_succ]
  refine wpAnyH_take (i := 1) (v := .int .i64 a.who) rfl (by kernel_rfl) (by kernel_rfl) (by kernel_rfl) (fun _ _ _ h => h) (Or.inl ⟨by rfl, ?_⟩) (by assumption) ?_
  · intro w' hSw
    have hc := HC2.out w' hSw
    go_simp
  show wpAnyH _ _ _ _ _ _ _ (Act.put _ (some 22) _) _
  simp only [Act.put, List.setIfInBounds_toArray, List.set_cons_zero, List.set_cons_succ]
  refine wpAnyH_take (i := 2) (v := .pointer (some ⟨w.heap.size, 9, none⟩)) rfl (by kernel_rfl) (by kernel_rfl) (by kernel_rfl) (fun _ _ _ h => h) (Or.inl ⟨by rfl, ?_⟩) (by assumption) ?_
  · intro w' hSw
    go_simp
  show wpAnyH _ _ _ _ _ _ _ (Act.put _ (some 23) _) _
  simp only [Act.put, List.setIfInBounds_toArray, List.set_cons_zero, List.set_cons_succ]
  refine wpAnyH_take (i := 3) (v := .agg #[.int .i64 a.ord.unit, .int .i64 a.ord.epoch, .int .i64 a.ord.kind, .int .i64 a.ord.incident, .int .i64 a.ord.node]) rfl (by kernel_rfl) (by kernel_rfl) (by kernel_rfl) (fun _ _ _ h => h) (yieldsIf_load_mid (by rfl) 27 (.tmp 23) rfl w.heap.size 9 rfl [.int .i64 a.ord.unit, .int .i64 a.ord.epoch, .int .i64 a.ord.kind, .int .i64 a.ord.incident, .int .i64 a.ord.node] _ (fun w' hSw => HRO.out w' hSw) Tryz.underlying27 rfl HMI.out.1) (by assumption) ?_
  show wpAnyH _ _ _ _ _ _ _ (Act.put _ (some 24) _) _
  simp only [Act.put, List.setIfInBounds_toArray, List.set_cons_zero, List.set_cons_succ]
  refine wpAnyH_take (i := 4) (v := .pointer (some ⟨w.heap.size, 14, none⟩)) rfl (by kernel_rfl) (by kernel_rfl) (by kernel_rfl) (fun _ _ _ h => h) (Or.inl ⟨by rfl, ?_⟩) (by assumption) ?_
  · intro w' hSw
    go_simp
  show wpAnyH _ _ _ _ _ _ _ (Act.put _ (some 25) _) _
  simp only [Act.put, List.setIfInBounds_toArray, List.set_cons_zero, List.set_cons_succ]
  refine wpAnyH_take (i := 5) (v := .agg #[.int .i64 a.sta.unit, .int .i64 a.sta.seq, .int .i64 a.sta.state, .int .i64 a.sta.node, .int .i64 a.sta.epoch]) rfl (by kernel_rfl) (by kernel_rfl) (by kernel_rfl) (fun _ _ _ h => h) (yieldsIf_load_mid (by rfl) 29 (.tmp 25) rfl w.heap.size 14 rfl [.int .i64 a.sta.unit, .int .i64 a.sta.seq, .int .i64 a.sta.state, .int .i64 a.sta.node, .int .i64 a.sta.epoch] _ (fun w' hSw => HRS.out w' hSw) Tryz.underlying29 rfl HMI.out.2.1) (by assumption) ?_
  show wpAnyH _ _ _ _ _ _ _ (Act.put _ (some 26) _) _
  simp only [Act.put, List.setIfInBounds_toArray, List.set_cons_zero, List.set_cons_succ]
  refine wpAnyH_ready (rs := [6, 7]) (by kernel_rfl) (by simp) ?_
  refine AllReadyH.cons rfl (fun K hK => ?_) (AllReadyH.cons rfl (fun K hK => ?_) AllReadyH.nil)
  go_simp
  have hY3 := hHeld.trans ((below_new V (.cells #[.int .i64 0, .int .i64 0, .int .i64 0, .int .i64 0, .int .i64 0] 27)).mono hHeld.size)
  refine hK.out _ _ hY3 (fun hHeld => ?_)
  clear hK K
  refine wpAnyH_ready (rs := [7]) (by kernel_rfl) (by simp) ?_
  refine AllReadyH.cons rfl (fun K hK => ?_) AllReadyH.nil
  go_simp
  have hY4 := hY3.trans ((below_new (V.alloc (.cells #[.int .i64 0, .int .i64 0, .int .i64 0, .int .i64 0, .int .i64 0] 27)) (.cells #[.int .i64 0, .int .i64 0, .int .i64 0, .int .i64 0, .int .i64 0] 29)).mono hY3.size)
  refine hK.out _ _ hY4 (fun hHeld => ?_)
  clear hK K
  refine wpAnyH_take (i := 8) (v := .int .i64 a.who) rfl (by kernel_rfl) (by kernel_rfl) (by kernel_rfl) (fun _ _ _ h => h) (Or.inl ⟨by rfl, ?_⟩) (by assumption) ?_
  · intro w' hSw
    go_simp
  show wpAnyH _ _ _ _ _ _ _ (Act.put _ (some 5) _) _
  simp only [Act.put, List.setIfInBounds_toArray, List.set_cons_zero, List.set_cons_succ]
  have hbk := two_blk V [.int .i64 0, .int .i64 0, .int .i64 0, .int .i64 0, .int .i64 0] [.int .i64 0, .int .i64 0, .int .i64 0, .int .i64 0, .int .i64 0] 27 29
  refine wpAnyH_ready (rs := [9]) (by kernel_rfl) (by simp) ?_
  refine AllReadyH.cons rfl (fun K hK => ?_) AllReadyH.nil
  refine step_store_row (by rfl) 27 (.tmp 6) (.tmp 24) rfl V.heap.size #[.int .i64 a.ord.unit, .int .i64 a.ord.epoch, .int .i64 a.ord.kind, .int .i64 a.ord.incident, .int .i64 a.ord.node] rfl rfl 27 _ hbk.1 HMI.out.1 rfl HMI.out.2.2.1 ?_
  have hY5 : Below W1.heap.size W1 (((V.alloc (.cells #[.int .i64 0, .int .i64 0, .int .i64 0, .int .i64 0, .int .i64 0] 27)).alloc (.cells #[.int .i64 0, .int .i64 0, .int .i64 0, .int .i64 0, .int .i64 0] 29)).setRow V.heap.size #[.int .i64 a.ord.unit, .int .i64 a.ord.epoch, .int .i64 a.ord.kind, .int .i64 a.ord.incident, .int .i64 a.ord.node]) := below_setR hY4 (by have := HHD.out.size; omega) _
  refine hK.out _ _ hY5 (fun hHeld => ?_)
  clear hK K
  refine wpAnyH_ready (rs := [10]) (by kernel_rfl) (by simp) ?_
  refine AllReadyH.cons rfl (fun K hK => ?_) AllReadyH.nil
  refine step_store_row (by rfl) 29 (.tmp 7) (.tmp 26) rfl (V.heap.size + 1) #[.int .i64 a.sta.unit, .int .i64 a.sta.seq, .int .i64 a.sta.state, .int .i64 a.sta.node, .int .i64 a.sta.epoch] rfl rfl 29 _ ((setRow_other _ _ _ _ (by omega)).trans hbk.2) HMI.out.2.1 rfl HMI.out.2.2.2 ?_
  have hY6 : Below W1.heap.size W1 ((((V.alloc (.cells #[.int .i64 0, .int .i64 0, .int .i64 0, .int .i64 0, .int .i64 0] 27)).alloc (.cells #[.int .i64 0, .int .i64 0, .int .i64 0, .int .i64 0, .int .i64 0] 29)).setRow V.heap.size #[.int .i64 a.ord.unit, .int .i64 a.ord.epoch, .int .i64 a.ord.kind, .int .i64 a.ord.incident, .int .i64 a.ord.node]).setRow (V.heap.size + 1) #[.int .i64 a.sta.unit, .int .i64 a.sta.seq, .int .i64 a.sta.state, .int .i64 a.sta.node, .int .i64 a.sta.epoch]) := below_setR hY5 (by have := HHD.out.size; omega) _
  refine hK.out _ _ hY6 (fun hHeld => ?_)
  clear hK K
  refine wpAnyH_done (by kernel_rfl) ?_ _
  simp only [Act.put, List.setIfInBounds_toArray]
  have HZ := Lib.hid (show Blk ((((V.alloc (.cells #[.int .i64 0, .int .i64 0, .int .i64 0, .int .i64 0, .int .i64 0] 27)).alloc (.cells #[.int .i64 0, .int .i64 0, .int .i64 0, .int .i64 0, .int .i64 0] 29)).setRow V.heap.size #[.int .i64 a.ord.unit, .int .i64 a.ord.epoch, .int .i64 a.ord.kind, .int .i64 a.ord.incident, .int .i64 a.ord.node]).setRow (V.heap.size + 1) #[.int .i64 a.sta.unit, .int .i64 a.sta.seq, .int .i64 a.sta.state, .int .i64 a.sta.node, .int .i64 a.sta.epoch]) V.heap.size 27 [.int .i64 a.ord.unit, .int .i64 a.ord.epoch, .int .i64 a.ord.kind, .int .i64 a.ord.incident, .int .i64 a.ord.node] ∧ Blk ((((V.alloc (.cells #[.int .i64 0, .int .i64 0, .int .i64 0, .int .i64 0, .int .i64 0] 27)).alloc (.cells #[.int .i64 0, .int .i64 0, .int .i64 0, .int .i64 0, .int .i64 0] 29)).setRow V.heap.size #[.int .i64 a.ord.unit, .int .i64 a.ord.epoch, .int .i64 a.ord.kind, .int .i64 a.ord.incident, .int .i64 a.ord.node]).setRow (V.heap.size + 1) #[.int .i64 a.sta.unit, .int .i64 a.sta.seq, .int .i64 a.sta.state, .int .i64 a.sta.node, .int .i64 a.sta.epoch]) (V.heap.size + 1) 29 [.int .i64 a.sta.unit, .int .i64 a.sta.seq, .int .i64 a.sta.state, .int .i64 a.sta.node, .int .i64 a.sta.epoch] ∧ Below W1.heap.size W1 ((((V.alloc (.cells #[.int .i64 0, .int .i64 0, .int .i64 0, .int .i64 0, .int .i64 0] 27)).alloc (.cells #[.int .i64 0, .int .i64 0, .int .i64 0, .int .i64 0, .int .i64 0] 29)).setRow V.heap.size #[.int .i64 a.ord.unit, .int .i64 a.ord.epoch, .int .i64 a.ord.kind, .int .i64 a.ord.incident, .int .i64 a.ord.node]).setRow (V.heap.size + 1) #[.int .i64 a.sta.unit, .int .i64 a.sta.seq, .int .i64 a.sta.state, .int .i64 a.sta.node, .int .i64 a.sta.epoch]) from ⟨(setRow_other _ _ _ _ (by omega)).trans (setRow_heap _ _ _ _ _ _ hbk.1), setRow_heap _ _ _ _ _ _ ((setRow_other _ _ _ _ (by omega)).trans hbk.2), hY6⟩)
  obtain ⟨Z, hZ⟩ : ∃ Z, Z = (((V.alloc (.cells #[.int .i64 0, .int .i64 0, .int .i64 0, .int .i64 0, .int .i64 0] 27)).alloc (.cells #[.int .i64 0, .int .i64 0, .int .i64 0, .int .i64 0, .int .i64 0] 29)).setRow V.heap.size #[.int .i64 a.ord.unit, .int .i64 a.ord.epoch, .int .i64 a.ord.kind, .int .i64 a.ord.incident, .int .i64 a.ord.node]).setRow (V.heap.size + 1) #[.int .i64 a.sta.unit, .int .i64 a.sta.seq, .int .i64 a.sta.state, .int .i64 a.sta.node, .int .i64 a.sta.epoch] := ⟨_, rfl⟩
  rw [← hZ] at HZ ⊢
  obtain ⟨ob, hob⟩ : ∃ ob, ob = V.heap.size := ⟨_, rfl⟩
  obtain ⟨tb2, htb⟩ : ∃ tb, tb = (V.heap.size + 1) := ⟨_, rfl⟩
  rw [← htb, ← hob] at HZ ⊢
  clear hZ hbk hY3 hY4 hY5 hY6 hHeld hob htb
  have hp0 := HC0.out Z HZ.out.2.2
  rotate_left
  go_simp
  have hY3 := hHeld.trans ((below_new V (.cells #[.int .i64 0, .int .i64 0, .int .i64 0, .int .i64 0, .int .i64 0] 29)).mono hHeld.size)
  refine hK.out _ _ hY3 (fun hHeld => ?_)
  clear hK K
  refine wpAnyH_ready (rs := [6]) (by kernel_rfl) (by simp) ?_
  refine AllReadyH.cons rfl (fun K hK => ?_) AllReadyH.nil
  go_simp
  have hY4 := hY3.trans ((below_new (V.alloc (.cells #[.int .i64 0, .int .i64 0, .int .i64 0, .int .i64 0, .int .i64 0] 29)) (.cells #[.int .i64 0, .int .i64 0, .int .i64 0, .int .i64 0, .int .i64 0] 27)).mono hY3.size)
  refine hK.out _ _ hY4 (fun hHeld => ?_)
  clear hK K
  refine wpAnyH_take (i := 8) (v := .int .i64 a.who) rfl (by kernel_rfl) (by kernel_rfl) (by kernel_rfl) (fun _ _ _ h => h) (Or.inl ⟨by rfl, ?_⟩) (by assumption) ?_
  · intro w' hSw
    go_simp
  show wpAnyH _ _ _ _ _ _ _ (Act.put _ (some 5) _) _
  simp only [Act.put, List.setIfInBounds_toArray, List.set_cons_zero, List.set_cons_succ]
  have hbk := two_blk V [.int .i64 0, .int .i64 0, .int .i64 0, .int .i64 0, .int .i64 0] [.int .i64 0, .int .i64 0, .int .i64 0, .int .i64 0, .int .i64 0] 29 27
  refine wpAnyH_ready (rs := [9]) (by kernel_rfl) (by simp) ?_
  refine AllReadyH.cons rfl (fun K hK => ?_) AllReadyH.nil
  refine step_store_row (by rfl) 27 (.tmp 6) (.tmp 24) rfl (V.heap.size + 1) #[.int .i64 a.ord.unit, .int .i64 a.ord.epoch, .int .i64 a.ord.kind, .int .i64 a.ord.incident, .int .i64 a.ord.node] rfl rfl 27 _ hbk.2 HMI.out.1 rfl HMI.out.2.2.1 ?_
  have hY5 : Below W1.heap.size W1 (((V.alloc (.cells #[.int .i64 0, .int .i64 0, .int .i64 0, .int .i64 0, .int .i64 0] 29)).alloc (.cells #[.int .i64 0, .int .i64 0, .int .i64 0, .int .i64 0, .int .i64 0] 27)).setRow (V.heap.size + 1) #[.int .i64 a.ord.unit, .int .i64 a.ord.epoch, .int .i64 a.ord.kind, .int .i64 a.ord.incident, .int .i64 a.ord.node]) := below_setR hY4 (by have := HHD.out.size; omega) _
  refine hK.out _ _ hY5 (fun hHeld => ?_)
  clear hK K
  refine wpAnyH_ready (rs := [10]) (by kernel_rfl) (by simp) ?_
  refine AllReadyH.cons rfl (fun K hK => ?_) AllReadyH.nil
  refine step_store_row (by rfl) 29 (.tmp 7) (.tmp 26) rfl V.heap.size #[.int .i64 a.sta.unit, .int .i64 a.sta.seq, .int .i64 a.sta.state, .int .i64 a.sta.node, .int .i64 a.sta.epoch] rfl rfl 29 _ ((setRow_other _ _ _ _ (by omega)).trans hbk.1) HMI.out.2.1 rfl HMI.out.2.2.2 ?_
  have hY6 : Below W1.heap.size W1 ((((V.alloc (.cells #[.int .i64 0, .int .i64 0, .int .i64 0, .int .i64 0, .int .i64 0] 29)).alloc (.cells #[.int .i64 0, .int .i64 0, .int .i64 0, .int .i64 0, .int .i64 0] 27)).setRow (V.heap.size + 1) #[.int .i64 a.ord.unit, .int .i64 a.ord.epoch, .int .i64 a.ord.kind, .int .i64 a.ord.incident, .int .i64 a.ord.node]).setRow V.heap.size #[.int .i64 a.sta.unit, .int .i64 a.sta.seq, .int .i64 a.sta.state, .int .i64 a.sta.node, .int .i64 a.sta.epoch]) := below_setR hY5 (by have := HHD.out.size; omega) _
  refine hK.out _ _ hY6 (fun hHeld => ?_)
  clear hK K
  refine wpAnyH_done (by kernel_rfl) ?_ _
  simp only [Act.put, List.setIfInBounds_toArray]
  have HZ := Lib.hid (show Blk ((((V.alloc (.cells #[.int .i64 0, .int .i64 0, .int .i64 0, .int .i64 0, .int .i64 0] 29)).alloc (.cells #[.int .i64 0, .int .i64 0, .int .i64 0, .int .i64 0, .int .i64 0] 27)).setRow (V.heap.size + 1) #[.int .i64 a.ord.unit, .int .i64 a.ord.epoch, .int .i64 a.ord.kind, .int .i64 a.ord.incident, .int .i64 a.ord.node]).setRow V.heap.size #[.int .i64 a.sta.unit, .int .i64 a.sta.seq, .int .i64 a.sta.state, .int .i64 a.sta.node, .int .i64 a.sta.epoch]) (V.heap.size + 1) 27 [.int .i64 a.ord.unit, .int .i64 a.ord.epoch, .int .i64 a.ord.kind, .int .i64 a.ord.incident, .int .i64 a.ord.node] ∧ Blk ((((V.alloc (.cells #[.int .i64 0, .int .i64 0, .int .i64 0, .int .i64 0, .int .i64 0] 29)).alloc (.cells #[.int .i64 0, .int .i64 0, .int .i64 0, .int .i64 0, .int .i64 0] 27)).setRow (V.heap.size + 1) #[.int .i64 a.ord.unit, .int .i64 a.ord.epoch, .int .i64 a.ord.kind, .int .i64 a.ord.incident, .int .i64 a.ord.node]).setRow V.heap.size #[.int .i64 a.sta.unit, .int .i64 a.sta.seq, .int .i64 a.sta.state, .int .i64 a.sta.node, .int .i64 a.sta.epoch]) V.heap.size 29 [.int .i64 a.sta.unit, .int .i64 a.sta.seq, .int .i64 a.sta.state, .int .i64 a.sta.node, .int .i64 a.sta.epoch] ∧ Below W1.heap.size W1 ((((V.alloc (.cells #[.int .i64 0, .int .i64 0, .int .i64 0, .int .i64 0, .int .i64 0] 29)).alloc (.cells #[.int .i64 0, .int .i64 0, .int .i64 0, .int .i64 0, .int .i64 0] 27)).setRow (V.heap.size + 1) #[.int .i64 a.ord.unit, .int .i64 a.ord.epoch, .int .i64 a.ord.kind, .int .i64 a.ord.incident, .int .i64 a.ord.node]).setRow V.heap.size #[.int .i64 a.sta.unit, .int .i64 a.sta.seq, .int .i64 a.sta.state, .int .i64 a.sta.node, .int .i64 a.sta.epoch]) from ⟨(setRow_other _ _ _ _ (by omega)).trans (setRow_heap _ _ _ _ _ _ hbk.2), setRow_heap _ _ _ _ _ _ ((setRow_other _ _ _ _ (by omega)).trans hbk.1), hY6⟩)
  obtain ⟨Z, hZ⟩ : ∃ Z, Z = (((V.alloc (.cells #[.int .i64 0, .int .i64 0, .int .i64 0, .int .i64 0, .int .i64 0] 29)).alloc (.cells #[.int .i64 0, .int .i64 0, .int .i64 0, .int .i64 0, .int .i64 0] 27)).setRow (V.heap.size + 1) #[.int .i64 a.ord.unit, .int .i64 a.ord.epoch, .int .i64 a.ord.kind, .int .i64 a.ord.incident, .int .i64 a.ord.node]).setRow V.heap.size #[.int .i64 a.sta.unit, .int .i64 a.sta.seq, .int .i64 a.sta.state, .int .i64 a.sta.node, .int .i64 a.sta.epoch] := ⟨_, rfl⟩
  rw [← hZ] at HZ ⊢
  obtain ⟨ob, hob⟩ : ∃ ob, ob = (V.heap.size + 1) := ⟨_, rfl⟩
  obtain ⟨tb2, htb⟩ : ∃ tb, tb = V.heap.size := ⟨_, rfl⟩
  rw [← hob, ← htb] at HZ ⊢
  clear hZ hbk hY3 hY4 hY5 hY6 hHeld hob htb
  have hp0 := HC0.out Z HZ.out.2.2
  rotate_left
  all_goals (
    rcases HCS.out with rfl | rfl | rfl | rfl | rfl | rfl | rfl | rfl | rfl | rfl | rfl | rfl | rfl
    · have HAC := Lib.hid (act51_any a.act Z ((HB1.out.2.1.act.below (HB1.out.1.trans (HZ.out.2.2.mono HB1.out.1.size))).more (HB1.out.1.trans (HZ.out.2.2.mono HB1.out.1.size)).size) HB1.out.2.2.1 HB1.out.2.2.2.1.act HB1.out.2.2.2.2.1)
      rw [show actV a.act = .agg (actCs a.act).toArray from rfl] at HAC
      have HRAC := Lib.hid (show Z.rangeAt w.heap.size 19 (actCs a.act) from range_part (HRG.out Z HZ.out.2.2) (fun j v hj => by
        match j, hj with
        | 0, hj => exact hj
        | 1, hj => exact hj
        | 2, hj => exact hj
        | 3, hj => exact hj
        | 4, hj => exact hj
        | 5, hj => exact hj
        | 6, hj => exact hj
        | 7, hj => exact hj
        | j + 8, hj => simp [actCs] at hj))
      have HASZ := Lib.hid (show (Tryz.prog.info? 33).map (·.size) = some (actCs a.act).length from act_size)
      have HAOK := Lib.hid (show ActOk a.act.con from ((ev_ok a.con).1 HOK.out).2.2.2 HK.out)
      have HEV := Lib.hid (show evT a.con = preE a.tick 1 ++ 32 :: actT a.act.con by
        rw [evT_pre (show a.con.kind = 1 from HK.out), show (evF 1).flatMap (eW a.con) = actW a.act.con from List.append_nil _]
        rfl)
      obtain ⟨AL, hAL⟩ : ∃ AL, AL = actCs a.act := ⟨_, rfl⟩
      rw [← hAL] at HAC HRAC HASZ
      clear hAL
      go_wp2_with ((with_reducible refine wpList_at 33 rfl ?_); refine wpList_load_mid rfl 33 (.tmp 32) rfl w.heap.size 19 rfl AL _ HRAC.out Tryz.underlying33 rfl HASZ.out ?_)
      refine HAC.out.mono ?_
      rintro e X3 ⟨hf, hb⟩
      have HBX := Lib.hid (HB1.out.1.trans ((HZ.out.2.2.trans (hb.mono HZ.out.2.2.size)).mono HB1.out.1.size))
      clear hb
      rcases hf with ⟨_, hal, rfl⟩ | ⟨_, hal, rfl⟩ | ⟨hno, _⟩
      · obtain ⟨T, hT⟩ : ∃ T, T = bs (actT a.act.con) := ⟨_, rfl⟩
        have hTl : T.size ≤ 65536 := by rw [hT, bs_size]; exact hal
        have HE : Hid (S ++ ⟨#[32]⟩ ++ T = bs (evT a.con)) := Lib.hid (by rw [HS.out, hT, lit32, bs_append, bs_append, HEV.out, List.append_assoc]; rfl)
        have HSZ : Hid (S.size + 1 + T.size = (evT a.con).length) := Lib.hid (by rw [← bs_size, ← HE.out, ByteArray.size_append, ByteArray.size_append]; rfl)
        rw [← hT]
        clear hT hal
        have h32 : (⟨#[32]⟩ : ByteArray).size = 1 := rfl
        by_cases hlen : (evT a.con).length ≤ 65536
        · have d1 : decide ((65536 : Int) < ((S.size : Int) + 1 + (T.size : Int))) = false := decide_eq_false (by have := HSZ.out; omega)
          have HLEN := Lib.hid hlen
          clear hlen
          go_wp2_with fail
          go_ret2
          refine ⟨.inl ⟨HOK.out, HLEN.out, ?_⟩, HBX.out⟩
          rw [← HE.out]
          rfl
        · have d1 : decide ((65536 : Int) < ((S.size : Int) + 1 + (T.size : Int))) = true := decide_eq_true (by have := HSZ.out; omega)
          have HLEN := Lib.hid (show 65536 < (evT a.con).length by omega)
          clear hlen
          go_wp2_with fail
          go_ret2
          exact ⟨.inr (.inl ⟨HOK.out, HLEN.out, rfl⟩), HBX.out⟩
      · have HLEN := Lib.hid (show 65536 < (evT a.con).length by rw [HEV.out, List.length_append, List.length_cons]; omega)
        clear hal
        go_wp2_with fail
        go_ret2
        exact ⟨.inr (.inl ⟨HOK.out, HLEN.out, rfl⟩), HBX.out⟩
      · exact absurd HAOK.out hno
    · have hp3 := HCL.out 3 (.int .i64 a.call) rfl Z HZ.out.2.2
      have H64 : Hid (∀ v ∈ ([a.call, a.who] : List Int), Is64 v) := Lib.hid (fun v hv => by
        simp only [List.mem_cons, List.mem_nil_iff, or_false] at hv
        rcases hv with rfl | rfl
        · exact HB1.out.2.2.2.1.call
        · exact HB1.out.2.2.2.1.who)
      have HNS := Lib.hid (nums51_any [a.call, a.who] H64.out (by simp) (some ⟨Z.heap.size, 0, none⟩) 2 (Z.alloc (.cells #[.int .i64 a.call, .int .i64 a.who] 2)) (Sl.lit Z _ 2 rfl))
      obtain ⟨T, hT⟩ : ∃ T, T = bs (spW (([a.call, a.who] : List Int).map itoa)) := ⟨_, rfl⟩
      have HT := Lib.hid hT
      have hTl : T.size ≤ 140 := by
        have h := spW_len (ints_len (l := [a.call, a.who]) H64.out)
        rw [hT, bs_size]
        exact Nat.le_trans h (by simp)
      have HB3 := Lib.hid (below_new Z (.cells #[.int .i64 a.call, .int .i64 a.who] 2))
      rw [← hT] at HNS
      have HE : Hid (S ++ T = bs (evT a.con)) := Lib.hid (by
        rw [HS.out, HT.out, bs_append, evT_pre (show a.con.kind = 2 from HK.out)]
        rfl)
      have HSZ : Hid (S.size + T.size = (evT a.con).length) := Lib.hid (by rw [← bs_size, ← HE.out, ByteArray.size_append])
      clear hT
      go_wp2_with fail
      refine HNS.out.mono ?_
      rintro e X3 ⟨rfl, hb⟩
      have HBX := Lib.hid (HB1.out.1.trans ((HZ.out.2.2.trans ((HB3.out.trans (hb.mono HB3.out.size)).mono HZ.out.2.2.size)).mono HB1.out.1.size))
      clear hb
      have hlen : (evT a.con).length ≤ 65536 := by have := HSZ.out; omega
      have d1 : decide ((65536 : Int) < ((S.size + T.size : Nat) : Int)) = false := decide_eq_false (by have := HSZ.out; omega)
      have HLEN := Lib.hid hlen
      clear hlen
      go_wp2_with fail
      go_ret2
      refine ⟨.inl ⟨HOK.out, HLEN.out, ?_⟩, HBX.out⟩
      rw [← HE.out]
      rfl
    · have hp3 := HCL.out 3 (.int .i64 a.call) rfl Z HZ.out.2.2
      have hp4 := HCL.out 4 (.int .i64 a.epoch) rfl Z HZ.out.2.2
      have H64 : Hid (∀ v ∈ ([a.call, a.who, a.epoch] : List Int), Is64 v) := Lib.hid (fun v hv => by
        simp only [List.mem_cons, List.mem_nil_iff, or_false] at hv
        rcases hv with rfl | rfl | rfl
        · exact HB1.out.2.2.2.1.call
        · exact HB1.out.2.2.2.1.who
        · exact HB1.out.2.2.2.1.epoch)
      have HNS := Lib.hid (nums51_any [a.call, a.who, a.epoch] H64.out (by simp) (some ⟨Z.heap.size, 0, none⟩) 3 (Z.alloc (.cells #[.int .i64 a.call, .int .i64 a.who, .int .i64 a.epoch] 2)) (Sl.lit Z _ 2 rfl))
      obtain ⟨T, hT⟩ : ∃ T, T = bs (spW (([a.call, a.who, a.epoch] : List Int).map itoa)) := ⟨_, rfl⟩
      have HT := Lib.hid hT
      have hTl : T.size ≤ 140 := by
        have h := spW_len (ints_len (l := [a.call, a.who, a.epoch]) H64.out)
        rw [hT, bs_size]
        exact Nat.le_trans h (by simp)
      have HB3 := Lib.hid (below_new Z (.cells #[.int .i64 a.call, .int .i64 a.who, .int .i64 a.epoch] 2))
      rw [← hT] at HNS
      have HE : Hid (S ++ T = bs (evT a.con)) := Lib.hid (by
        rw [HS.out, HT.out, bs_append, evT_pre (show a.con.kind = 3 from HK.out)]
        rfl)
      have HSZ : Hid (S.size + T.size = (evT a.con).length) := Lib.hid (by rw [← bs_size, ← HE.out, ByteArray.size_append])
      clear hT
      go_wp2_with fail
      refine HNS.out.mono ?_
      rintro e X3 ⟨rfl, hb⟩
      have HBX := Lib.hid (HB1.out.1.trans ((HZ.out.2.2.trans ((HB3.out.trans (hb.mono HB3.out.size)).mono HZ.out.2.2.size)).mono HB1.out.1.size))
      clear hb
      have hlen : (evT a.con).length ≤ 65536 := by have := HSZ.out; omega
      have d1 : decide ((65536 : Int) < ((S.size + T.size : Nat) : Int)) = false := decide_eq_false (by have := HSZ.out; omega)
      have HLEN := Lib.hid hlen
      clear hlen
      go_wp2_with fail
      go_ret2
      refine ⟨.inl ⟨HOK.out, HLEN.out, ?_⟩, HBX.out⟩
      rw [← HE.out]
      rfl
    · have hp3 := HCL.out 3 (.int .i64 a.call) rfl Z HZ.out.2.2
      have hp5 := HCL.out 5 (.int .i64 a.n) rfl Z HZ.out.2.2
      have H64 : Hid (∀ v ∈ ([a.call, a.n] : List Int), Is64 v) := Lib.hid (fun v hv => by
        simp only [List.mem_cons, List.mem_nil_iff, or_false] at hv
        rcases hv with rfl | rfl
        · exact HB1.out.2.2.2.1.call
        · exact HB1.out.2.2.2.1.n)
      have HNS := Lib.hid (nums51_any [a.call, a.n] H64.out (by simp) (some ⟨Z.heap.size, 0, none⟩) 2 (Z.alloc (.cells #[.int .i64 a.call, .int .i64 a.n] 2)) (Sl.lit Z _ 2 rfl))
      obtain ⟨T, hT⟩ : ∃ T, T = bs (spW (([a.call, a.n] : List Int).map itoa)) := ⟨_, rfl⟩
      have HT := Lib.hid hT
      have hTl : T.size ≤ 140 := by
        have h := spW_len (ints_len (l := [a.call, a.n]) H64.out)
        rw [hT, bs_size]
        exact Nat.le_trans h (by simp)
      have HB3 := Lib.hid (below_new Z (.cells #[.int .i64 a.call, .int .i64 a.n] 2))
      rw [← hT] at HNS
      have HE : Hid (S ++ T = bs (evT a.con)) := Lib.hid (by
        rw [HS.out, HT.out, bs_append, evT_pre (show a.con.kind = 4 from HK.out)]
        rfl)
      have HSZ : Hid (S.size + T.size = (evT a.con).length) := Lib.hid (by rw [← bs_size, ← HE.out, ByteArray.size_append])
      clear hT
      go_wp2_with fail
      refine HNS.out.mono ?_
      rintro e X3 ⟨rfl, hb⟩
      have HBX := Lib.hid (HB1.out.1.trans ((HZ.out.2.2.trans ((HB3.out.trans (hb.mono HB3.out.size)).mono HZ.out.2.2.size)).mono HB1.out.1.size))
      clear hb
      have hlen : (evT a.con).length ≤ 65536 := by have := HSZ.out; omega
      have d1 : decide ((65536 : Int) < ((S.size + T.size : Nat) : Int)) = false := decide_eq_false (by have := HSZ.out; omega)
      have HLEN := Lib.hid hlen
      clear hlen
      go_wp2_with fail
      go_ret2
      refine ⟨.inl ⟨HOK.out, HLEN.out, ?_⟩, HBX.out⟩
      rw [← HE.out]
      rfl
    · have hp3 := HCL.out 3 (.int .i64 a.call) rfl Z HZ.out.2.2
      have H64 : Hid (∀ v ∈ ([a.call] : List Int), Is64 v) := Lib.hid (fun v hv => by
        simp only [List.mem_cons, List.mem_nil_iff, or_false] at hv
        rcases hv with rfl
        · exact HB1.out.2.2.2.1.call)
      have HNS := Lib.hid (nums51_any [a.call] H64.out (by simp) (some ⟨Z.heap.size, 0, none⟩) 1 (Z.alloc (.cells #[.int .i64 a.call] 2)) (Sl.lit Z _ 2 rfl))
      obtain ⟨T, hT⟩ : ∃ T, T = bs (spW (([a.call] : List Int).map itoa)) := ⟨_, rfl⟩
      have HT := Lib.hid hT
      have hTl : T.size ≤ 140 := by
        have h := spW_len (ints_len (l := [a.call]) H64.out)
        rw [hT, bs_size]
        exact Nat.le_trans h (by simp)
      have HB3 := Lib.hid (below_new Z (.cells #[.int .i64 a.call] 2))
      rw [← hT] at HNS
      have HE : Hid (S ++ T = bs (evT a.con)) := Lib.hid (by
        rw [HS.out, HT.out, bs_append, evT_pre (show a.con.kind = 5 from HK.out)]
        rfl)
      have HSZ : Hid (S.size + T.size = (evT a.con).length) := Lib.hid (by rw [← bs_size, ← HE.out, ByteArray.size_append])
      clear hT
      go_wp2_with fail
      refine HNS.out.mono ?_
      rintro e X3 ⟨rfl, hb⟩
      have HBX := Lib.hid (HB1.out.1.trans ((HZ.out.2.2.trans ((HB3.out.trans (hb.mono HB3.out.size)).mono HZ.out.2.2.size)).mono HB1.out.1.size))
      clear hb
      have hlen : (evT a.con).length ≤ 65536 := by have := HSZ.out; omega
      have d1 : decide ((65536 : Int) < ((S.size + T.size : Nat) : Int)) = false := decide_eq_false (by have := HSZ.out; omega)
      have HLEN := Lib.hid hlen
      clear hlen
      go_wp2_with fail
      go_ret2
      refine ⟨.inl ⟨HOK.out, HLEN.out, ?_⟩, HBX.out⟩
      rw [← HE.out]
      rfl
    · have hp3 := HCL.out 3 (.int .i64 a.call) rfl Z HZ.out.2.2
      have hp4 := HCL.out 4 (.int .i64 a.epoch) rfl Z HZ.out.2.2
      have H64 : Hid (∀ v ∈ ([a.call, a.who, a.epoch] : List Int), Is64 v) := Lib.hid (fun v hv => by
        simp only [List.mem_cons, List.mem_nil_iff, or_false] at hv
        rcases hv with rfl | rfl | rfl
        · exact HB1.out.2.2.2.1.call
        · exact HB1.out.2.2.2.1.who
        · exact HB1.out.2.2.2.1.epoch)
      have HNS := Lib.hid (nums51_any [a.call, a.who, a.epoch] H64.out (by simp) (some ⟨Z.heap.size, 0, none⟩) 3 (Z.alloc (.cells #[.int .i64 a.call, .int .i64 a.who, .int .i64 a.epoch] 2)) (Sl.lit Z _ 2 rfl))
      obtain ⟨T, hT⟩ : ∃ T, T = bs (spW (([a.call, a.who, a.epoch] : List Int).map itoa)) := ⟨_, rfl⟩
      have HT := Lib.hid hT
      have hTl : T.size ≤ 140 := by
        have h := spW_len (ints_len (l := [a.call, a.who, a.epoch]) H64.out)
        rw [hT, bs_size]
        exact Nat.le_trans h (by simp)
      have HB3 := Lib.hid (below_new Z (.cells #[.int .i64 a.call, .int .i64 a.who, .int .i64 a.epoch] 2))
      rw [← hT] at HNS
      have HE : Hid (S ++ T = bs (evT a.con)) := Lib.hid (by
        rw [HS.out, HT.out, bs_append, evT_pre (show a.con.kind = 6 from HK.out)]
        rfl)
      have HSZ : Hid (S.size + T.size = (evT a.con).length) := Lib.hid (by rw [← bs_size, ← HE.out, ByteArray.size_append])
      clear hT
      go_wp2_with fail
      refine HNS.out.mono ?_
      rintro e X3 ⟨rfl, hb⟩
      have HBX := Lib.hid (HB1.out.1.trans ((HZ.out.2.2.trans ((HB3.out.trans (hb.mono HB3.out.size)).mono HZ.out.2.2.size)).mono HB1.out.1.size))
      clear hb
      have hlen : (evT a.con).length ≤ 65536 := by have := HSZ.out; omega
      have d1 : decide ((65536 : Int) < ((S.size + T.size : Nat) : Int)) = false := decide_eq_false (by have := HSZ.out; omega)
      have HLEN := Lib.hid hlen
      clear hlen
      go_wp2_with fail
      go_ret2
      refine ⟨.inl ⟨HOK.out, HLEN.out, ?_⟩, HBX.out⟩
      rw [← HE.out]
      rfl
    · obtain ⟨V7, hV7⟩ : ∃ V, V = World.drew Z := ⟨_, rfl⟩
      have H64 : Hid (∀ v ∈ ([a.who, a.n, a.eterm, a.ekind] : List Int), Is64 v) := Lib.hid (fun v hv => by
        simp only [List.mem_cons, List.mem_nil_iff, or_false] at hv
        rcases hv with rfl | rfl | rfl | rfl
        · exact HB1.out.2.2.2.1.who
        · exact HB1.out.2.2.2.1.n
        · exact HB1.out.2.2.2.1.eterm
        · exact HB1.out.2.2.2.1.ekind)
      have HNS := Lib.hid (nums51_any [a.who, a.n, a.eterm, a.ekind] H64.out (by simp) (some ⟨V7.heap.size, 0, none⟩) 4 (V7.alloc (.cells #[.int .i64 a.who, .int .i64 a.n, .int .i64 a.eterm, .int .i64 a.ekind] 2)) (Sl.lit V7 _ 2 rfl))
      have HHX := Lib.hid (fun (X : World) (hX : Below W1.heap.size W1 X) => hex51_any a.ebody (by have := HB1.out.2.2.2.2.2; omega) a.eA a.ec X (Sl.more (Sl.below HB1.out.2.1.body (HB1.out.1.trans (hX.mono HB1.out.1.size))) (HB1.out.1.trans (hX.mono HB1.out.1.size)).size))
      obtain ⟨T, hT⟩ : ∃ T, T = bs (spW (([a.who, a.n, a.eterm, a.ekind] : List Int).map itoa)) := ⟨_, rfl⟩
      have hTl : T.size ≤ 140 := by
        have h := spW_len (ints_len (l := [a.who, a.n, a.eterm, a.ekind]) H64.out)
        rw [hT, bs_size]
        exact Nat.le_trans h (by simp)
      obtain ⟨U, hU⟩ : ∃ U, U = bs (hexW a.ebody) := ⟨_, rfl⟩
      have hUl : U.size ≤ 200001 := by
        rw [hU, bs_size, hexW_eq, List.length_cons, hex2_len]
        have := HB1.out.2.2.2.2.2
        omega
      have HE : Hid (S ++ T ++ ⟨#[32]⟩ ++ U = bs (evT a.con)) := Lib.hid (by
        rw [HS.out, hT, hU, lit32, bs_append, bs_append, bs_append, evT_pre (show a.con.kind = 7 from HK.out), List.append_assoc, List.append_assoc]
        show bs (preE a.tick 7 ++ (spW [itoa a.who, itoa a.n, itoa a.eterm, itoa a.ekind] ++ 32 :: hexW a.ebody)) = bs (preE a.tick 7 ++ spW [itoa a.who, itoa a.n, itoa a.eterm, itoa a.ekind, hexW a.ebody])
        simp [spW])
      have HSZ : Hid (S.size + T.size + 1 + U.size = (evT a.con).length) := Lib.hid (by rw [← bs_size, ← HE.out, ByteArray.size_append, ByteArray.size_append, ByteArray.size_append]; rfl)
      rw [← hT] at HNS
      rw [← hU] at HHX
      clear hT hU
      obtain ⟨el, hel⟩ : ∃ el, el = a.ebody.length := ⟨_, rfl⟩
      have HC8 := Lib.hid (show ∀ X : World, Below W1.heap.size W1 X → X.cell? ⟨w.heap.size, 5, none⟩ = some (.int .i64 a.n) ∧ X.cell? ⟨w.heap.size, 6, none⟩ = some (.int .i64 a.eterm) ∧ X.cell? ⟨w.heap.size, 7, none⟩ = some (.int .i64 a.ekind) ∧ X.cell? ⟨w.heap.size, 8, none⟩ = some (.slice a.eA el a.ec) from fun X hX => by rw [hel]; exact ⟨HCL.out 5 _ rfl X hX, HCL.out 6 _ rfl X hX, HCL.out 7 _ rfl X hX, HCL.out 8 _ rfl X hX⟩)
      rw [← hel] at HHX
      clear hel
      go_wp2_with fail
      have HH7 := Lib.hid (show Below W1.heap.size W1 Z.drew from below_dr HZ.out.2.2 1)
      refine wp_region_held_drew (S := fun W' => Below W1.heap.size W1 W') (by kernel_rfl) HH7.out (fun hHeld => ?_)
      rw [← hV7] at hHeld ⊢
      clear hV7 HH7
      refine wpAnyH_take (i := 0) (v := .string S) rfl (by kernel_rfl) (by kernel_rfl) (by kernel_rfl) (fun _ _ _ h => h) (Or.inl ⟨by rfl, ?_⟩) (by assumption) ?_
      · intro w' hSw
        go_simp
      show wpAnyH _ _ _ _ _ _ _ (Act.put _ (some 85) _) _
      simp only [Act.put, List.setIfInBounds_toArray, List.set_cons_zero, List.set_cons_succ]
      refine wpAnyH_take (i := 1) (v := .int .i64 a.who) rfl (by kernel_rfl) (by kernel_rfl) (by kernel_rfl) (fun _ _ _ h => h) (Or.inl ⟨by rfl, ?_⟩) (by assumption) ?_
      · intro w' hSw
        go_simp
      show wpAnyH _ _ _ _ _ _ _ (Act.put _ (some 86) _) _
      simp only [Act.put, List.setIfInBounds_toArray, List.set_cons_zero, List.set_cons_succ]
      refine wpAnyH_take (i := 2) (v := .pointer (some ⟨w.heap.size, 5, none⟩)) rfl (by kernel_rfl) (by kernel_rfl) (by kernel_rfl) (fun _ _ _ h => h) (Or.inl ⟨by rfl, ?_⟩) (by assumption) ?_
      · intro w' hSw
        go_simp
      show wpAnyH _ _ _ _ _ _ _ (Act.put _ (some 87) _) _
      simp only [Act.put, List.setIfInBounds_toArray, List.set_cons_zero, List.set_cons_succ]
      refine wpAnyH_take (i := 3) (v := .int .i64 a.n) rfl (by kernel_rfl) (by kernel_rfl) (by kernel_rfl) (fun _ _ _ h => h) (Or.inl ⟨by rfl, ?_⟩) (by assumption) ?_
      · intro w' hSw
        have hc := (HC8.out w' hSw).1
        go_simp
      show wpAnyH _ _ _ _ _ _ _ (Act.put _ (some 88) _) _
      simp only [Act.put, List.setIfInBounds_toArray, List.set_cons_zero, List.set_cons_succ]
      refine wpAnyH_take (i := 4) (v := .pointer (some ⟨w.heap.size, 6, none⟩)) rfl (by kernel_rfl) (by kernel_rfl) (by kernel_rfl) (fun _ _ _ h => h) (Or.inl ⟨by rfl, ?_⟩) (by assumption) ?_
      · intro w' hSw
        go_simp
      show wpAnyH _ _ _ _ _ _ _ (Act.put _ (some 89) _) _
      simp only [Act.put, List.setIfInBounds_toArray, List.set_cons_zero, List.set_cons_succ]
      refine wpAnyH_take (i := 5) (v := .pointer (some ⟨w.heap.size, 6, none⟩)) rfl (by kernel_rfl) (by kernel_rfl) (by kernel_rfl) (fun _ _ _ h => h) (Or.inl ⟨by rfl, ?_⟩) (by assumption) ?_
      · intro w' hSw
        go_simp
      show wpAnyH _ _ _ _ _ _ _ (Act.put _ (some 90) _) _
      simp only [Act.put, List.setIfInBounds_toArray, List.set_cons_zero, List.set_cons_succ]
      refine wpAnyH_take (i := 6) (v := .int .i64 a.eterm) rfl (by kernel_rfl) (by kernel_rfl) (by kernel_rfl) (fun _ _ _ h => h) (Or.inl ⟨by rfl, ?_⟩) (by assumption) ?_
      · intro w' hSw
        have hc := (HC8.out w' hSw).2.1
        go_simp
      show wpAnyH _ _ _ _ _ _ _ (Act.put _ (some 91) _) _
      simp only [Act.put, List.setIfInBounds_toArray, List.set_cons_zero, List.set_cons_succ]
      refine wpAnyH_take (i := 7) (v := .pointer (some ⟨w.heap.size, 6, none⟩)) rfl (by kernel_rfl) (by kernel_rfl) (by kernel_rfl) (fun _ _ _ h => h) (Or.inl ⟨by rfl, ?_⟩) (by assumption) ?_
      · intro w' hSw
        go_simp
      show wpAnyH _ _ _ _ _ _ _ (Act.put _ (some 92) _) _
      simp only [Act.put, List.setIfInBounds_toArray, List.set_cons_zero, List.set_cons_succ]
      refine wpAnyH_take (i := 8) (v := .pointer (some ⟨w.heap.size, 7, none⟩)) rfl (by kernel_rfl) (by kernel_rfl) (by kernel_rfl) (fun _ _ _ h => h) (Or.inl ⟨by rfl, ?_⟩) (by assumption) ?_
      · intro w' hSw
        go_simp
      show wpAnyH _ _ _ _ _ _ _ (Act.put _ (some 93) _) _
      simp only [Act.put, List.setIfInBounds_toArray, List.set_cons_zero, List.set_cons_succ]
      refine wpAnyH_take (i := 9) (v := .int .i64 a.ekind) rfl (by kernel_rfl) (by kernel_rfl) (by kernel_rfl) (fun _ _ _ h => h) (Or.inl ⟨by rfl, ?_⟩) (by assumption) ?_
      · intro w' hSw
        have hc := (HC8.out w' hSw).2.2.1
        go_simp
      show wpAnyH _ _ _ _ _ _ _ (Act.put _ (some 94) _) _
      simp only [Act.put, List.setIfInBounds_toArray, List.set_cons_zero, List.set_cons_succ]
      refine wpAnyH_take (i := 14) (v := .pointer (some ⟨w.heap.size, 6, none⟩)) rfl (by kernel_rfl) (by kernel_rfl) (by kernel_rfl) (fun _ _ _ h => h) (Or.inl ⟨by rfl, ?_⟩) (by assumption) ?_
      · intro w' hSw
        go_simp
      show wpAnyH _ _ _ _ _ _ _ (Act.put _ (some 99) _) _
      simp only [Act.put, List.setIfInBounds_toArray, List.set_cons_zero, List.set_cons_succ]
      refine wpAnyH_take (i := 15) (v := .pointer (some ⟨w.heap.size, 8, none⟩)) rfl (by kernel_rfl) (by kernel_rfl) (by kernel_rfl) (fun _ _ _ h => h) (Or.inl ⟨by rfl, ?_⟩) (by assumption) ?_
      · intro w' hSw
        go_simp
      show wpAnyH _ _ _ _ _ _ _ (Act.put _ (some 100) _) _
      simp only [Act.put, List.setIfInBounds_toArray, List.set_cons_zero, List.set_cons_succ]
      refine wpAnyH_take (i := 16) (v := .slice a.eA el a.ec) rfl (by kernel_rfl) (by kernel_rfl) (by kernel_rfl) (fun _ _ _ h => h) (Or.inl ⟨by rfl, ?_⟩) (by assumption) ?_
      · intro w' hSw
        have hc := (HC8.out w' hSw).2.2.2
        go_simp
      show wpAnyH _ _ _ _ _ _ _ (Act.put _ (some 101) _) _
      simp only [Act.put, List.setIfInBounds_toArray, List.set_cons_zero, List.set_cons_succ]
      refine wpAnyH_ready (rs := [10]) (by kernel_rfl) (by simp) ?_
      refine AllReadyH.cons rfl (fun K hK => ?_) AllReadyH.nil
      go_simp
      have hV1 := hHeld.trans ((below_new V7 (.cells #[.int .i64 a.who, .int .i64 a.n, .int .i64 a.eterm, .int .i64 a.ekind] 2)).mono hHeld.size)
      refine hK.out _ _ hV1 (fun hHeld => ?_)
      clear hK K
      refine wpAnyH_ready (rs := [11]) (by kernel_rfl) (by simp) ?_
      refine AllReadyH.cons rfl (fun K hK => ?_) AllReadyH.nil
      go_simp
      refine HNS.out.mono ?_
      rintro e V2 ⟨rfl, hv2⟩
      go_simp
      have hV2 := hV1.trans (hv2.mono hV1.size)
      clear hv2
      refine hK.out _ _ hV2 (fun hHeld => ?_)
      clear hK K
      refine wpAnyH_take (i := 12) (v := .string (S ++ T)) rfl (by kernel_rfl) (by kernel_rfl) (by kernel_rfl) (fun _ _ _ h => h) (Or.inl ⟨by rfl, ?_⟩) (by assumption) ?_
      · intro w' hSw
        go_simp
        omega
      show wpAnyH _ _ _ _ _ _ _ (Act.put _ (some 97) _) _
      simp only [Act.put, List.setIfInBounds_toArray, List.set_cons_zero, List.set_cons_succ]
      refine wpAnyH_take (i := 13) (v := .string (S ++ T ++ ⟨#[32]⟩)) rfl (by kernel_rfl) (by kernel_rfl) (by kernel_rfl) (fun _ _ _ h => h) (Or.inl ⟨by rfl, ?_⟩) (by assumption) ?_
      · intro w' hSw
        go_simp
        omega
      show wpAnyH _ _ _ _ _ _ _ (Act.put _ (some 98) _) _
      simp only [Act.put, List.setIfInBounds_toArray, List.set_cons_zero, List.set_cons_succ]
      refine wpAnyH_ready (rs := [17]) (by kernel_rfl) (by simp) ?_
      refine AllReadyH.cons rfl (fun K hK => ?_) AllReadyH.nil
      go_simp
      refine (HHX.out _ hV2).mono ?_
      rintro e V3 ⟨rfl, hv3⟩
      go_simp
      have hV3 := hV2.trans (hv3.mono hV2.size)
      clear hv3
      refine hK.out _ _ hV3 (fun hHeld => ?_)
      clear hK K
      refine wpAnyH_take (i := 18) (v := .string (S ++ T ++ ⟨#[32]⟩ ++ U)) rfl (by kernel_rfl) (by kernel_rfl) (by kernel_rfl) (fun _ _ _ h => h) (Or.inl ⟨by rfl, ?_⟩) (by assumption) ?_
      · intro w' hSw
        go_simp
        omega
      show wpAnyH _ _ _ _ _ _ _ (Act.put _ (some 103) _) _
      simp only [Act.put, List.setIfInBounds_toArray, List.set_cons_zero, List.set_cons_succ]
      refine wpAnyH_take (i := 19) (v := .string (S ++ T ++ ⟨#[32]⟩ ++ U)) rfl (by kernel_rfl) (by kernel_rfl) (by kernel_rfl) (fun _ _ _ h => h) (Or.inl ⟨by rfl, ?_⟩) (by assumption) ?_
      · intro w' hSw
        go_simp
      show wpAnyH _ _ _ _ _ _ _ (Act.put _ (some 4) _) _
      simp only [Act.put, List.setIfInBounds_toArray, List.set_cons_zero, List.set_cons_succ]
      refine wpAnyH_done (by kernel_rfl) ?_ _
      have HBX := Lib.hid (HB1.out.1.trans (hV3.mono HB1.out.1.size))
      obtain ⟨R, hRR⟩ : ∃ R, R = S ++ T ++ ⟨#[32]⟩ ++ U := ⟨_, rfl⟩
      have HRS2 := Lib.hid (show R.size = (evT a.con).length by rw [hRR, HE.out, bs_size])
      rw [← hRR] at HE ⊢
      have hRl : R.size ≤ 300000 := by rw [hRR, ByteArray.size_append, ByteArray.size_append, ByteArray.size_append]; have h32 : (⟨#[32]⟩ : ByteArray).size = 1 := rfl; omega
      clear hRR hV1 hV2 hV3 hHeld HSZ
      have HSZ := HRS2
      by_cases hlen : (evT a.con).length ≤ 65536
      · have d1 : decide ((65536 : Int) < (R.size : Int)) = false := decide_eq_false (by have := HSZ.out; omega)
        have HLEN := Lib.hid hlen
        clear hlen
        go_wp2_with fail
        go_ret2
        refine ⟨.inl ⟨HOK.out, HLEN.out, ?_⟩, HBX.out⟩
        rw [← HE.out]
        rfl
      · have d1 : decide ((65536 : Int) < (R.size : Int)) = true := decide_eq_true (by have := HSZ.out; omega)
        have HLEN := Lib.hid (show 65536 < (evT a.con).length by omega)
        clear hlen
        go_wp2_with fail
        go_ret2
        exact ⟨.inr (.inl ⟨HOK.out, HLEN.out, rfl⟩), HBX.out⟩
    · have hq0 := HZ.out.1.cell (j := 0) rfl
      have hq1 := HZ.out.1.cell (j := 1) rfl
      have hq2 := HZ.out.1.cell (j := 2) rfl
      have hq3 := HZ.out.1.cell (j := 3) rfl
      have hq4 := HZ.out.1.cell (j := 4) rfl
      have H64 : Hid (∀ v ∈ ([a.who, a.ord.unit, a.ord.epoch, a.ord.kind, a.ord.incident, a.ord.node] : List Int), Is64 v) := Lib.hid (fun v hv => by
        simp only [List.mem_cons, List.mem_nil_iff, or_false] at hv
        rcases hv with rfl | rfl | rfl | rfl | rfl | rfl
        · exact HB1.out.2.2.2.1.who
        · exact HB1.out.2.2.2.1.ord.1
        · exact HB1.out.2.2.2.1.ord.2.1
        · exact HB1.out.2.2.2.1.ord.2.2.1
        · exact HB1.out.2.2.2.1.ord.2.2.2.1
        · exact HB1.out.2.2.2.1.ord.2.2.2.2)
      have HNS := Lib.hid (nums51_any [a.who, a.ord.unit, a.ord.epoch, a.ord.kind, a.ord.incident, a.ord.node] H64.out (by simp) (some ⟨Z.heap.size, 0, none⟩) 6 (Z.alloc (.cells #[.int .i64 a.who, .int .i64 a.ord.unit, .int .i64 a.ord.epoch, .int .i64 a.ord.kind, .int .i64 a.ord.incident, .int .i64 a.ord.node] 2)) (Sl.lit Z _ 2 rfl))
      obtain ⟨T, hT⟩ : ∃ T, T = bs (spW (([a.who, a.ord.unit, a.ord.epoch, a.ord.kind, a.ord.incident, a.ord.node] : List Int).map itoa)) := ⟨_, rfl⟩
      have HT := Lib.hid hT
      have hTl : T.size ≤ 140 := by
        have h := spW_len (ints_len (l := [a.who, a.ord.unit, a.ord.epoch, a.ord.kind, a.ord.incident, a.ord.node]) H64.out)
        rw [hT, bs_size]
        exact Nat.le_trans h (by simp)
      have HB3 := Lib.hid (below_new Z (.cells #[.int .i64 a.who, .int .i64 a.ord.unit, .int .i64 a.ord.epoch, .int .i64 a.ord.kind, .int .i64 a.ord.incident, .int .i64 a.ord.node] 2))
      rw [← hT] at HNS
      have HE : Hid (S ++ T = bs (evT a.con)) := Lib.hid (by
        rw [HS.out, HT.out, bs_append, evT_pre (show a.con.kind = 8 from HK.out)]
        rfl)
      have HSZ : Hid (S.size + T.size = (evT a.con).length) := Lib.hid (by rw [← bs_size, ← HE.out, ByteArray.size_append])
      clear hT
      go_wp2_with fail
      refine HNS.out.mono ?_
      rintro e X3 ⟨rfl, hb⟩
      have HBX := Lib.hid (HB1.out.1.trans ((HZ.out.2.2.trans ((HB3.out.trans (hb.mono HB3.out.size)).mono HZ.out.2.2.size)).mono HB1.out.1.size))
      clear hb
      have hlen : (evT a.con).length ≤ 65536 := by have := HSZ.out; omega
      have d1 : decide ((65536 : Int) < ((S.size + T.size : Nat) : Int)) = false := decide_eq_false (by have := HSZ.out; omega)
      have HLEN := Lib.hid hlen
      clear hlen
      go_wp2_with fail
      go_ret2
      refine ⟨.inl ⟨HOK.out, HLEN.out, ?_⟩, HBX.out⟩
      rw [← HE.out]
      rfl
    · have hq0 := HZ.out.2.1.cell (j := 0) rfl
      have hq1 := HZ.out.2.1.cell (j := 1) rfl
      have hq2 := HZ.out.2.1.cell (j := 2) rfl
      have hq3 := HZ.out.2.1.cell (j := 3) rfl
      have hq4 := HZ.out.2.1.cell (j := 4) rfl
      have H64 : Hid (∀ v ∈ ([a.who, a.sta.unit, a.sta.seq, a.sta.state, a.sta.node, a.sta.epoch] : List Int), Is64 v) := Lib.hid (fun v hv => by
        simp only [List.mem_cons, List.mem_nil_iff, or_false] at hv
        rcases hv with rfl | rfl | rfl | rfl | rfl | rfl
        · exact HB1.out.2.2.2.1.who
        · exact HB1.out.2.2.2.1.sta.1
        · exact HB1.out.2.2.2.1.sta.2.1
        · exact HB1.out.2.2.2.1.sta.2.2.1
        · exact HB1.out.2.2.2.1.sta.2.2.2.1
        · exact HB1.out.2.2.2.1.sta.2.2.2.2)
      have HNS := Lib.hid (nums51_any [a.who, a.sta.unit, a.sta.seq, a.sta.state, a.sta.node, a.sta.epoch] H64.out (by simp) (some ⟨Z.heap.size, 0, none⟩) 6 (Z.alloc (.cells #[.int .i64 a.who, .int .i64 a.sta.unit, .int .i64 a.sta.seq, .int .i64 a.sta.state, .int .i64 a.sta.node, .int .i64 a.sta.epoch] 2)) (Sl.lit Z _ 2 rfl))
      obtain ⟨T, hT⟩ : ∃ T, T = bs (spW (([a.who, a.sta.unit, a.sta.seq, a.sta.state, a.sta.node, a.sta.epoch] : List Int).map itoa)) := ⟨_, rfl⟩
      have HT := Lib.hid hT
      have hTl : T.size ≤ 140 := by
        have h := spW_len (ints_len (l := [a.who, a.sta.unit, a.sta.seq, a.sta.state, a.sta.node, a.sta.epoch]) H64.out)
        rw [hT, bs_size]
        exact Nat.le_trans h (by simp)
      have HB3 := Lib.hid (below_new Z (.cells #[.int .i64 a.who, .int .i64 a.sta.unit, .int .i64 a.sta.seq, .int .i64 a.sta.state, .int .i64 a.sta.node, .int .i64 a.sta.epoch] 2))
      rw [← hT] at HNS
      have HE : Hid (S ++ T = bs (evT a.con)) := Lib.hid (by
        rw [HS.out, HT.out, bs_append, evT_pre (show a.con.kind = 9 from HK.out)]
        rfl)
      have HSZ : Hid (S.size + T.size = (evT a.con).length) := Lib.hid (by rw [← bs_size, ← HE.out, ByteArray.size_append])
      clear hT
      go_wp2_with fail
      refine HNS.out.mono ?_
      rintro e X3 ⟨rfl, hb⟩
      have HBX := Lib.hid (HB1.out.1.trans ((HZ.out.2.2.trans ((HB3.out.trans (hb.mono HB3.out.size)).mono HZ.out.2.2.size)).mono HB1.out.1.size))
      clear hb
      have hlen : (evT a.con).length ≤ 65536 := by have := HSZ.out; omega
      have d1 : decide ((65536 : Int) < ((S.size + T.size : Nat) : Int)) = false := decide_eq_false (by have := HSZ.out; omega)
      have HLEN := Lib.hid hlen
      clear hlen
      go_wp2_with fail
      go_ret2
      refine ⟨.inl ⟨HOK.out, HLEN.out, ?_⟩, HBX.out⟩
      rw [← HE.out]
      rfl
    · have H64 : Hid (∀ v ∈ ([a.who] : List Int), Is64 v) := Lib.hid (fun v hv => by
        simp only [List.mem_cons, List.mem_nil_iff, or_false] at hv
        rcases hv with rfl
        · exact HB1.out.2.2.2.1.who)
      have HNS := Lib.hid (nums51_any [a.who] H64.out (by simp) (some ⟨Z.heap.size, 0, none⟩) 1 (Z.alloc (.cells #[.int .i64 a.who] 2)) (Sl.lit Z _ 2 rfl))
      obtain ⟨T, hT⟩ : ∃ T, T = bs (spW (([a.who] : List Int).map itoa)) := ⟨_, rfl⟩
      have HT := Lib.hid hT
      have hTl : T.size ≤ 140 := by
        have h := spW_len (ints_len (l := [a.who]) H64.out)
        rw [hT, bs_size]
        exact Nat.le_trans h (by simp)
      have HB3 := Lib.hid (below_new Z (.cells #[.int .i64 a.who] 2))
      rw [← hT] at HNS
      have HE : Hid (S ++ T = bs (evT a.con)) := Lib.hid (by
        rw [HS.out, HT.out, bs_append, evT_pre (show a.con.kind = 10 from HK.out)]
        rfl)
      have HSZ : Hid (S.size + T.size = (evT a.con).length) := Lib.hid (by rw [← bs_size, ← HE.out, ByteArray.size_append])
      clear hT
      go_wp2_with fail
      refine HNS.out.mono ?_
      rintro e X3 ⟨rfl, hb⟩
      have HBX := Lib.hid (HB1.out.1.trans ((HZ.out.2.2.trans ((HB3.out.trans (hb.mono HB3.out.size)).mono HZ.out.2.2.size)).mono HB1.out.1.size))
      clear hb
      have hlen : (evT a.con).length ≤ 65536 := by have := HSZ.out; omega
      have d1 : decide ((65536 : Int) < ((S.size + T.size : Nat) : Int)) = false := decide_eq_false (by have := HSZ.out; omega)
      have HLEN := Lib.hid hlen
      clear hlen
      go_wp2_with fail
      go_ret2
      refine ⟨.inl ⟨HOK.out, HLEN.out, ?_⟩, HBX.out⟩
      rw [← HE.out]
      rfl
    · have H64 : Hid (∀ v ∈ ([a.who] : List Int), Is64 v) := Lib.hid (fun v hv => by
        simp only [List.mem_cons, List.mem_nil_iff, or_false] at hv
        rcases hv with rfl
        · exact HB1.out.2.2.2.1.who)
      have HNS := Lib.hid (nums51_any [a.who] H64.out (by simp) (some ⟨Z.heap.size, 0, none⟩) 1 (Z.alloc (.cells #[.int .i64 a.who] 2)) (Sl.lit Z _ 2 rfl))
      obtain ⟨T, hT⟩ : ∃ T, T = bs (spW (([a.who] : List Int).map itoa)) := ⟨_, rfl⟩
      have HT := Lib.hid hT
      have hTl : T.size ≤ 140 := by
        have h := spW_len (ints_len (l := [a.who]) H64.out)
        rw [hT, bs_size]
        exact Nat.le_trans h (by simp)
      have HB3 := Lib.hid (below_new Z (.cells #[.int .i64 a.who] 2))
      rw [← hT] at HNS
      have HE : Hid (S ++ T = bs (evT a.con)) := Lib.hid (by
        rw [HS.out, HT.out, bs_append, evT_pre (show a.con.kind = 11 from HK.out)]
        rfl)
      have HSZ : Hid (S.size + T.size = (evT a.con).length) := Lib.hid (by rw [← bs_size, ← HE.out, ByteArray.size_append])
      clear hT
      go_wp2_with fail
      refine HNS.out.mono ?_
      rintro e X3 ⟨rfl, hb⟩
      have HBX := Lib.hid (HB1.out.1.trans ((HZ.out.2.2.trans ((HB3.out.trans (hb.mono HB3.out.size)).mono HZ.out.2.2.size)).mono HB1.out.1.size))
      clear hb
      have hlen : (evT a.con).length ≤ 65536 := by have := HSZ.out; omega
      have d1 : decide ((65536 : Int) < ((S.size + T.size : Nat) : Int)) = false := decide_eq_false (by have := HSZ.out; omega)
      have HLEN := Lib.hid hlen
      clear hlen
      go_wp2_with fail
      go_ret2
      refine ⟨.inl ⟨HOK.out, HLEN.out, ?_⟩, HBX.out⟩
      rw [← HE.out]
      rfl
    · have hp5 := HCL.out 5 (.int .i64 a.n) rfl Z HZ.out.2.2
      have hp4 := HCL.out 4 (.int .i64 a.epoch) rfl Z HZ.out.2.2
      have H64 : Hid (∀ v ∈ ([a.who, a.n, a.epoch] : List Int), Is64 v) := Lib.hid (fun v hv => by
        simp only [List.mem_cons, List.mem_nil_iff, or_false] at hv
        rcases hv with rfl | rfl | rfl
        · exact HB1.out.2.2.2.1.who
        · exact HB1.out.2.2.2.1.n
        · exact HB1.out.2.2.2.1.epoch)
      have HNS := Lib.hid (nums51_any [a.who, a.n, a.epoch] H64.out (by simp) (some ⟨Z.heap.size, 0, none⟩) 3 (Z.alloc (.cells #[.int .i64 a.who, .int .i64 a.n, .int .i64 a.epoch] 2)) (Sl.lit Z _ 2 rfl))
      obtain ⟨T, hT⟩ : ∃ T, T = bs (spW (([a.who, a.n, a.epoch] : List Int).map itoa)) := ⟨_, rfl⟩
      have HT := Lib.hid hT
      have hTl : T.size ≤ 140 := by
        have h := spW_len (ints_len (l := [a.who, a.n, a.epoch]) H64.out)
        rw [hT, bs_size]
        exact Nat.le_trans h (by simp)
      have HB3 := Lib.hid (below_new Z (.cells #[.int .i64 a.who, .int .i64 a.n, .int .i64 a.epoch] 2))
      rw [← hT] at HNS
      have HE : Hid (S ++ T = bs (evT a.con)) := Lib.hid (by
        rw [HS.out, HT.out, bs_append, evT_pre (show a.con.kind = 12 from HK.out)]
        rfl)
      have HSZ : Hid (S.size + T.size = (evT a.con).length) := Lib.hid (by rw [← bs_size, ← HE.out, ByteArray.size_append])
      clear hT
      go_wp2_with fail
      refine HNS.out.mono ?_
      rintro e X3 ⟨rfl, hb⟩
      have HBX := Lib.hid (HB1.out.1.trans ((HZ.out.2.2.trans ((HB3.out.trans (hb.mono HB3.out.size)).mono HZ.out.2.2.size)).mono HB1.out.1.size))
      clear hb
      have hlen : (evT a.con).length ≤ 65536 := by have := HSZ.out; omega
      have d1 : decide ((65536 : Int) < ((S.size + T.size : Nat) : Int)) = false := decide_eq_false (by have := HSZ.out; omega)
      have HLEN := Lib.hid hlen
      clear hlen
      go_wp2_with fail
      go_ret2
      refine ⟨.inl ⟨HOK.out, HLEN.out, ?_⟩, HBX.out⟩
      rw [← HE.out]
      rfl
    · have hp5 := HCL.out 5 (.int .i64 a.n) rfl Z HZ.out.2.2
      have H64 : Hid (∀ v ∈ ([a.who, a.n] : List Int), Is64 v) := Lib.hid (fun v hv => by
        simp only [List.mem_cons, List.mem_nil_iff, or_false] at hv
        rcases hv with rfl | rfl
        · exact HB1.out.2.2.2.1.who
        · exact HB1.out.2.2.2.1.n)
      have HNS := Lib.hid (nums51_any [a.who, a.n] H64.out (by simp) (some ⟨Z.heap.size, 0, none⟩) 2 (Z.alloc (.cells #[.int .i64 a.who, .int .i64 a.n] 2)) (Sl.lit Z _ 2 rfl))
      obtain ⟨T, hT⟩ : ∃ T, T = bs (spW (([a.who, a.n] : List Int).map itoa)) := ⟨_, rfl⟩
      have HT := Lib.hid hT
      have hTl : T.size ≤ 140 := by
        have h := spW_len (ints_len (l := [a.who, a.n]) H64.out)
        rw [hT, bs_size]
        exact Nat.le_trans h (by simp)
      have HB3 := Lib.hid (below_new Z (.cells #[.int .i64 a.who, .int .i64 a.n] 2))
      rw [← hT] at HNS
      have HE : Hid (S ++ T = bs (evT a.con)) := Lib.hid (by
        rw [HS.out, HT.out, bs_append, evT_pre (show a.con.kind = 13 from HK.out)]
        rfl)
      have HSZ : Hid (S.size + T.size = (evT a.con).length) := Lib.hid (by rw [← bs_size, ← HE.out, ByteArray.size_append])
      clear hT
      go_wp2_with fail
      refine HNS.out.mono ?_
      rintro e X3 ⟨rfl, hb⟩
      have HBX := Lib.hid (HB1.out.1.trans ((HZ.out.2.2.trans ((HB3.out.trans (hb.mono HB3.out.size)).mono HZ.out.2.2.size)).mono HB1.out.1.size))
      clear hb
      have hlen : (evT a.con).length ≤ 65536 := by have := HSZ.out; omega
      have d1 : decide ((65536 : Int) < ((S.size + T.size : Nat) : Int)) = false := decide_eq_false (by have := HSZ.out; omega)
      have HLEN := Lib.hid hlen
      clear hlen
      go_wp2_with fail
      go_ret2
      refine ⟨.inl ⟨HOK.out, HLEN.out, ?_⟩, HBX.out⟩
      rw [← HE.out]
      rfl
  )
theorem text51_any (a : EvM) (w : World) (hat : EvAt w w.heap.size a) (hl : ActL a.act) (hR : EvR a.con) (hsz0 : actSize a.act.con ≤ 100000) (hbl : a.ebody.length ≤ 100000) : Calls Tryz.prog 14 #[evV a] w fun e w' => FmtR (EvOk a.con) (evT a.con) e ∧ Below w.heap.size w w' := by
  by_cases hok : EvOk a.con
  · exact text51_yes a w hat hl hR hsz0 hbl a.kind rfl hok
  · exact text51_no a w hat hl hok
end
section
open Go.RowKit Go.Maps
open Go.Lib (itoa)

theorem EvO.next {Y Z : World} {base : Nat} {x : EvM} (h : EvO Y base x) (hb : Below Y.heap.size Y Z) : EvO Z base x := ⟨h.act.next hb, own_next h.body hb, h.nob⟩
theorem EvO.base {Y : World} {base base' : Nat} {x : EvM} (h : EvO Y base x) (hb : base' ≤ base) : EvO Y base' x := ⟨h.act.base hb, own_base h.body hb, h.nob⟩
theorem EvO.at {Y : World} {base : Nat} {x : EvM} (h : EvO Y base x) : EvAt Y Y.heap.size x := by
  obtain ⟨A, c, e, hs⟩ := OwnV.sl h.body
  injection e with e1 _ _
  subst e1
  obtain ⟨n1, n2, n3⟩ := h.nob
  exact ⟨hs, h.act.at, by rw [n2]; exact Sl.empty⟩
theorem EvBd.r {e : EvM} (h : EvBd e) : EvR e.con :=
  ⟨h.kind, h.tick, h.who, h.call, h.epoch, h.n, h.eterm, h.ekind, Nat.le_trans h.body (by decide), h.ord, h.sta, h.act.r⟩
/-- what ParseEvent returns. -/
def RetPe (s : Wd) (w : World) (e : Ending) (w' : World) : Prop :=
  (∃ a : EvM, EvOk a.con ∧ VEv a.con ∧ s = evT a.con ∧ s.length ≤ 65536 ∧ e = .returned (.tuple #[evV a, .int .i64 0]) ∧ EvO w' w.heap.size a ∧ EvBd a ∧ Below w.heap.size w w') ∨
  ((65536 < s.length ∨ ∀ b, VEv b → EvOk b → s ≠ evT b) ∧ e = .returned (.tuple #[evV (EvM.zero 0 0), .int .i64 2]) ∧ Below w.heap.size w w')
set_option maxRecDepth 100000 in
set_option maxHeartbeats 16000000 in
theorem parseEv_any (s : Wd) (w : World) (hr : Ready w) : Calls Tryz.prog 9 #[.string (bs s)] w (RetPe s w) := by
  have hb0 : Below w.heap.size w (w.alloc (.cells #[.int .i64 0, .int .i64 0, .int .i64 0, .int .i64 0, .int .i64 0, .int .i64 0, .int .i64 0, .int .i64 0, .slice none 0 0, .int .i64 0, .int .i64 0, .int .i64 0, .int .i64 0, .int .i64 0, .int .i64 0, .int .i64 0, .int .i64 0, .int .i64 0, .int .i64 0, .int .i64 0, .int .i64 0, .int .i64 0, .int .i64 0, .int .i64 0, .int .i64 0, .slice none 0 0, .slice none 0 0, .slice none 0 0] 35)) := (Below.refl _ _).alloc (Nat.le_refl _) _
  have hn0 := new_obj w (.cells #[.int .i64 0, .int .i64 0, .int .i64 0, .int .i64 0, .int .i64 0, .int .i64 0, .int .i64 0, .int .i64 0, .slice none 0 0, .int .i64 0, .int .i64 0, .int .i64 0, .int .i64 0, .int .i64 0, .int .i64 0, .int .i64 0, .int .i64 0, .int .i64 0, .int .i64 0, .int .i64 0, .int .i64 0, .int .i64 0, .int .i64 0, .int .i64 0, .int .i64 0, .slice none 0 0, .slice none 0 0, .slice none 0 0] 35)
  have hs0 : (w.alloc (.cells #[.int .i64 0, .int .i64 0, .int .i64 0, .int .i64 0, .int .i64 0, .int .i64 0, .int .i64 0, .int .i64 0, .slice none 0 0, .int .i64 0, .int .i64 0, .int .i64 0, .int .i64 0, .int .i64 0, .int .i64 0, .int .i64 0, .int .i64 0, .int .i64 0, .int .i64 0, .int .i64 0, .int .i64 0, .int .i64 0, .int .i64 0, .int .i64 0, .int .i64 0, .slice none 0 0, .slice none 0 0, .slice none 0 0] 35)).heap.size = w.heap.size + 1 := by simp
  obtain ⟨ZA, hZA⟩ : ∃ ZA : Array Value, ZA = #[.int .i64 0, .int .i64 0, .int .i64 0, .int .i64 0, .int .i64 0, .int .i64 0, .int .i64 0, .int .i64 0, .slice none 0 0, .int .i64 0, .int .i64 0, .int .i64 0, .int .i64 0, .int .i64 0, .int .i64 0, .int .i64 0, .int .i64 0, .int .i64 0, .int .i64 0, .int .i64 0, .int .i64 0, .int .i64 0, .int .i64 0, .int .i64 0, .int .i64 0, .slice none 0 0, .slice none 0 0, .slice none 0 0] := ⟨_, rfl⟩
  have HZV := Lib.hid (show evV (EvM.zero 0 0) = .agg ZA by rw [hZA]; rfl)
  have hbt : Tryz.prog.built 35 [] = some ZA := by rw [hZA]; rfl
  have hszz : (Tryz.prog.info? 35).map (·.size) = some ZA.size := by rw [hZA]; exact ev_size
  have honez : ZA.all (·.oneCell') = true := by rw [hZA]; exact evCs_one (EvM.zero 0 0)
  obtain ⟨X0, hX0⟩ : ∃ X0, X0 = w.alloc (.cells #[.int .i64 0, .int .i64 0, .int .i64 0, .int .i64 0, .int .i64 0, .int .i64 0, .int .i64 0, .int .i64 0, .slice none 0 0, .int .i64 0, .int .i64 0, .int .i64 0, .int .i64 0, .int .i64 0, .int .i64 0, .int .i64 0, .int .i64 0, .int .i64 0, .int .i64 0, .int .i64 0, .int .i64 0, .int .i64 0, .int .i64 0, .int .i64 0, .int .i64 0, .slice none 0 0, .slice none 0 0, .slice none 0 0] 35) := ⟨_, rfl⟩
  rw [← hX0] at hb0 hn0 hs0
  rw [← hZA] at hn0
  have HZN := Lib.hid (show ∀ a : EvM, ZA.size = (evCs a).toArray.size by rw [hZA]; exact fun _ => rfl)
  have HB0 := Lib.hid (And.intro hb0 (And.intro hn0 hr))
  by_cases hs : s.length ≤ 65536
  rotate_left
  · have d0 := d65_yes hs
    have HS := Lib.hid hs
    clear hs hr hb0 hs0 hZA
    go_enter Tryz.func9, Tryz.ntmps9
    go_wp2_with (first | (rw [← hX0]; refine wpList_build_to rfl 35 #[] rfl ZA (by rw [Array.toList_map]; exact hbt) ?_) | (refine wpList_store_row rfl 35 (.tmp 2) (.tmp 9) rfl w.heap.size ZA rfl rfl 35 _ hn0 hszz rfl honez ?_))
    refine bodyPost_ret (results_cell_tmp Tryz.results9 _ _ w.heap.size 35 ZA (0, 0) _ (by rfl) (setRow_heap _ _ _ _ _ _ (new_obj w _)) Tryz.underlying35 rfl hszz) rfl ?_
    exact .inr ⟨.inl (by have := HS.out; omega), by rw [HZV.out]; rfl, below_row (below_new _ _) _⟩
  have d0 := d65_no hs
  have HS := Lib.hid (And.intro hs hr)
  have hr0 := hr.below hb0
  have HSP := Lib.hid (split_any s hs X0 hr0)
  have HRS := Lib.hid (rd_start X0 s hs)
  obtain ⟨n, hn⟩ : ∃ n, n = (wordsL s).length := ⟨_, rfl⟩
  obtain ⟨X1, hX1⟩ : ∃ X1, X1 = X0.alloc (.cells ((wordsL s).map wdV).toArray 9) := ⟨_, rfl⟩
  have hb1 : Below X0.heap.size X0 X1 := by rw [hX1]; exact below_new _ _
  have hs1 : X1.heap.size = X0.heap.size + 1 := by rw [hX1]; simp
  have hb2 : Below X1.heap.size X1 (X1.alloc (.cells #[.slice (some ⟨X0.heap.size, 0, none⟩) n n, .bool false] RT)) := below_new _ _
  obtain ⟨X2, hX2⟩ : ∃ X2, X2 = X1.alloc (.cells #[.slice (some ⟨X0.heap.size, 0, none⟩) n n, .bool false] RT) := ⟨_, rfl⟩
  have hs2 : X2.heap.size = X1.heap.size + 1 := by rw [hX2]; simp
  rw [← hX1, ← hn] at HSP HRS
  rw [← hX2] at hb2 HRS
  rw [← hs1] at HRS
  obtain ⟨rb, hrb⟩ : ∃ rb, rb = X1.heap.size := ⟨_, rfl⟩
  have hB2 : Below w.heap.size w X2 := hb0.trans ((hb1.mono hb0.size).trans (hb2.mono (Nat.le_trans hb0.size hb1.size)))
  have HRBX := Lib.hid (show rb < X2.heap.size by omega)
  have HB2 := Lib.hid (And.intro hB2 (And.intro (((hb1.trans (hb2.mono hb1.size)).block w.heap.size (by omega)).trans hn0) (show w.heap.size < rb by omega)))
  have hgr : Tryz.prog.globals.size ≤ rb := Nat.le_trans hr.room (by omega)
  rw [← hrb] at HRS
  have HRD := Lib.hid (revent_any rb (some (wordsL s)) X2 HRS.out (hr.below hB2) hgr)
  have HS2 := Lib.hid hs2
  clear hs hr hr0 hb0 hb1 hb2 hB2 hn hgr hs0 hs1 hs2 hZA
  go_enter Tryz.func9, Tryz.ntmps9
  go_wp2_with fail
  rw [← hX0]
  refine HSP.out.mono ?_
  rintro e Xn ⟨rfl, hXn⟩
  rw [hXn]
  clear hXn Xn hX0 hX1
  go_wp2_with fail
  rw [← hX2, ← hrb]
  clear hX2 hrb
  refine HRD.out.mono ?_
  rintro e Y ⟨a, st', rfl, h1, ho, hown, hbd, hrd⟩
  obtain ⟨D, hD⟩ : ∃ D, D = (evCs a).toArray := ⟨_, rfl⟩
  have hv : evV a = .agg D := by rw [hD]; rfl
  have hszd : (Tryz.prog.info? 35).map (·.size) = some D.size := by rw [hD]; exact ev_size
  have honed : D.all (·.oneCell') = true := by rw [hD]; exact evCs_one a
  have hold : (#[.int .i64 0, .int .i64 0, .int .i64 0, .int .i64 0, .int .i64 0, .int .i64 0, .int .i64 0, .int .i64 0, .slice none 0 0, .int .i64 0, .int .i64 0, .int .i64 0, .int .i64 0, .int .i64 0, .int .i64 0, .int .i64 0, .int .i64 0, .int .i64 0, .int .i64 0, .int .i64 0, .int .i64 0, .int .i64 0, .int .i64 0, .int .i64 0, .int .i64 0, .slice none 0 0, .slice none 0 0, .slice none 0 0] : Array Value).size = D.size := by rw [hD]; rfl
  have hoy := new_obj Y (.cells #[.int .i64 0, .int .i64 0, .int .i64 0, .int .i64 0, .int .i64 0, .int .i64 0, .int .i64 0, .int .i64 0, .slice none 0 0, .int .i64 0, .int .i64 0, .int .i64 0, .int .i64 0, .int .i64 0, .int .i64 0, .int .i64 0, .int .i64 0, .int .i64 0, .int .i64 0, .int .i64 0, .int .i64 0, .int .i64 0, .int .i64 0, .int .i64 0, .int .i64 0, .slice none 0 0, .slice none 0 0, .slice none 0 0] 35)
  have HD := Lib.hid (And.intro hD hv)
  have hYB : Below w.heap.size w Y := HB2.out.1.trans ((ho.low (by have := HRBX.out; omega)).mono (Nat.le_of_lt HB2.out.2.2))
  have hb5 := below_new Y (.cells D 35)
  have HQ := Lib.hid (And.intro (h1.next hb5) (And.intro hown (And.intro hbd hrd)))
  have HY := Lib.hid (And.intro hYB (And.intro (((ho.low (by have := HRBX.out; omega)).block w.heap.size HB2.out.2.2).trans HB2.out.2.1) ho.size))
  rw [hv]
  clear h1 ho hown hbd hrd hD hv hYB
  go_wp2_with (refine wpList_store_row rfl 35 (.tmp 5) (.tmp 13) rfl Y.heap.size D rfl rfl 35 _ hoy hszd hold honed ?_)
  rw [World.setRow_alloc_new]
  have hrow5 := new_obj Y (.cells D 35)
  obtain ⟨X5, hX5⟩ : ∃ X5, X5 = Y.alloc (.cells D 35) := ⟨_, rfl⟩
  rw [← hX5] at hb5 HQ hrow5 ⊢
  have HFN := Lib.hid (rfin_any rb st' X5 HQ.out.1)
  have HB5 := Lib.hid (And.intro (HY.out.1.trans (hb5.mono HY.out.1.size)) (And.intro hb5 ((hb5.block w.heap.size (by have := HB2.out.2.2; have := HY.out.2.2; have := HRBX.out; omega)).trans HY.out.2.1)))
  have hrw5 := HB5.out.2.2
  have HNO : Hid (¬ (st' = some [] ∧ EvOk a.con) → ∀ b, VEv b → EvOk b → s ≠ evT b) := Lib.hid (fun q b hb hbo => ev_leave HQ.out.2.2.2 q b hb hbo)
  have HYES : Hid (∀ X6, Below X5.heap.size X5 X6 → st' = some [] → EvOk a.con → RetPe s w (.returned (.tuple #[.agg D, .int .i64 0])) (X6.setRow w.heap.size D)) := Lib.hid (fun X6 hb6 q1 q2 => by
    obtain ⟨t1, t2⟩ := ev_take HQ.out.2.2.2 q1 q2
    have ho6 := only_row2 X6 w.heap.size D
    have hbk : Blk X6 w.heap.size 35 ZA.toList := by
      show X6.heap[w.heap.size]? = _
      rw [hb6.block w.heap.size (Array.getElem?_eq_some_iff.1 HB5.out.2.2).1, HB5.out.2.2]
    have hown2 := ((HQ.out.2.1.next HB5.out.2.1).next hb6).base HB2.out.1.size
    exact .inl ⟨a, q2, t1, t2, HS.out.1, by rw [HD.out.2], (hown2.keep hbk ⟨by decide, by decide, by decide⟩ ho6), HQ.out.2.2.1, below_row (HB5.out.1.trans (hb6.mono HB5.out.1.size)) _⟩)
  clear hoy hold honed hX5
  by_cases hf : st' = some []
  rotate_left
  · rw [tb_false hf] at HFN
    have HF := Lib.hid hf
    clear hf hb5 hrow5
    go_wp2_with fail
    refine HFN.out.mono ?_
    rintro e Xn ⟨rfl, hXn⟩
    rw [hXn]
    clear hXn Xn
    go_wp2_with (first | (refine wpList_build_to rfl 35 #[] rfl ZA (by rw [Array.toList_map]; exact hbt) ?_) | (refine wpList_store_row rfl 35 (.tmp 2) (.tmp 21) rfl w.heap.size ZA rfl rfl 35 _ hrw5 hszz rfl honez ?_))
    refine bodyPost_ret (results_cell_tmp Tryz.results9 _ _ w.heap.size 35 ZA (0, 0) _ (by rfl) (setRow_heap _ _ _ _ _ _ hrw5) Tryz.underlying35 rfl hszz) rfl ?_
    exact .inr ⟨.inr (HNO.out (fun q => HF.out q.1)), by rw [HZV.out]; rfl, below_row HB5.out.1 _⟩
  rw [tb_true hf] at HFN
  have HF := Lib.hid hf
  have HV := Lib.hid (vEv_any a X5 (HQ.out.2.1.next HB5.out.2.1).at HQ.out.2.2.1.act.l)
  rw [HD.out.2] at HV
  clear hf hb5
  go_wp2_with fail
  refine HFN.out.mono ?_
  rintro e Xn ⟨rfl, hXn⟩
  rw [hXn]
  clear hXn Xn
  by_cases hok : EvOk a.con
  · rw [tb_true hok] at HV
    have HOK := Lib.hid hok
    clear hok
    go_wp2_with (refine wpList_load_row_g (by rfl) 35 (.tmp 5) rfl Y.heap.size rfl 35 D (0, 0) _ hrow5 Tryz.underlying35 rfl hszd ?_)
    refine HV.out.mono ?_
    rintro e X6 ⟨rfl, hb6⟩
    have HF6 := Lib.hid (HYES.out X6 hb6 HF.out HOK.out)
    have hrow6 := (hb6.block Y.heap.size (Array.getElem?_eq_some_iff.1 hrow5).1).trans hrow5
    have hrw6 := (hb6.block w.heap.size (Array.getElem?_eq_some_iff.1 hrw5).1).trans hrw5
    have honed : D.all (·.oneCell') = true := by rw [HD.out.1]; exact evCs_one a
    have hzd : ZA.size = D.size := by rw [HD.out.1]; exact HZN.out a
    clear hb6 hrow5 hrw5
    go_wp2_with (first | (refine wpList_load_row_g (by rfl) 35 (.tmp 5) rfl Y.heap.size rfl 35 D (0, 0) _ hrow6 Tryz.underlying35 rfl hszd ?_) | (refine wpList_store_row rfl 35 (.tmp 2) (.tmp 22) rfl w.heap.size D rfl rfl 35 _ hrw6 hszd hzd honed ?_))
    refine bodyPost_ret (results_cell_tmp Tryz.results9 _ _ w.heap.size 35 D (0, 0) _ (by rfl) (setRow_heap _ _ _ _ _ _ hrw6) Tryz.underlying35 rfl hszd) rfl ?_
    exact HF6.out
  · rw [tb_false hok] at HV
    have HOK := Lib.hid hok
    clear hok
    go_wp2_with (refine wpList_load_row_g (by rfl) 35 (.tmp 5) rfl Y.heap.size rfl 35 D (0, 0) _ hrow5 Tryz.underlying35 rfl hszd ?_)
    refine HV.out.mono ?_
    rintro e X6 ⟨rfl, hb6⟩
    have HB6 := Lib.hid (HB5.out.1.trans (hb6.mono HB5.out.1.size))
    have hrw6 := (hb6.block w.heap.size (Array.getElem?_eq_some_iff.1 hrw5).1).trans hrw5
    clear hb6 hrow5 hrw5
    go_wp2_with (first | (refine wpList_build_to rfl 35 #[] rfl ZA (by rw [Array.toList_map]; exact hbt) ?_) | (refine wpList_store_row rfl 35 (.tmp 2) (.tmp 21) rfl w.heap.size ZA rfl rfl 35 _ hrw6 hszz rfl honez ?_))
    refine bodyPost_ret (results_cell_tmp Tryz.results9 _ _ w.heap.size 35 ZA (0, 0) _ (by rfl) (setRow_heap _ _ _ _ _ _ hrw6) Tryz.underlying35 rfl hszz) rfl ?_
    exact .inr ⟨.inr (HNO.out (fun q => HOK.out q.2)), by rw [HZV.out]; rfl, below_row HB6.out _⟩
end
section
open Go.RowKit Go.Maps

/-- what is known of an event that was read. -/
def ReadE (s : Wd) (a : EvM) (c : Int) : Prop := (c = 0 ∧ EvOk a.con ∧ VEv a.con ∧ s = evT a.con ∧ s.length ≤ 65536) ∨ (c = 2 ∧ a = EvM.zero 0 0 ∧ (65536 < s.length ∨ ∀ b, VEv b → EvOk b → s ≠ evT b))
theorem zero_evS : EvS (EvM.zero 0 0) := ⟨(zero_bd is64_0 is64_0).r, (zero_bd is64_0 is64_0).act.l, Nat.zero_le _, Nat.zero_le _⟩
theorem zero_at (w : World) (B : Nat) : EvAt w B (EvM.zero 0 0) := ⟨Sl.empty, ⟨SrcsAt.empty, Sl.empty⟩, Sl.empty⟩
theorem retPe_uni {s : Wd} {w : World} {e : Ending} {w' : World} (h : RetPe s w e w') : ∃ (a : EvM) (c : Int), e = .returned (.tuple #[evV a, .int .i64 c]) ∧ EvAt w' w'.heap.size a ∧ EvS a ∧ Below w.heap.size w w' ∧ ReadE s a c := by
  rcases h with ⟨a, h1, h2, h3, h4, h5, h6, h7, h8⟩ | ⟨h1, h2, h3⟩
  · obtain ⟨k1, k2⟩ := ev_short h1
    rw [h3] at h4
    exact ⟨a, 0, h5, h6.at, ⟨h7.r, h7.act.l, Nat.le_trans k1 (by omega), Nat.le_trans k2 (by omega)⟩, h8, .inl ⟨rfl, h1, h2, h3, by rw [h3]; exact h4⟩⟩
  · exact ⟨EvM.zero 0 0, 2, h2, zero_at _ _, zero_evS, h3, .inr ⟨rfl, rfl, h1⟩⟩
theorem ReadE.same {s : Wd} {a b : EvM} {c d : Int} (h : ReadE s a c) (h' : ReadE s b d) : d = c ∧ a.con = b.con := by
  rcases h with ⟨h1, h2, h3, h4, h5⟩ | ⟨h1, h2, h3⟩
  · rcases h' with ⟨k1, k2, k3, k4, k5⟩ | ⟨k1, k2, k3⟩
    · exact ⟨k1.trans h1.symm, evT_inj h3 k3 (h4.symm.trans k4)⟩
    · rcases k3 with k3 | k3
      · omega
      · exact absurd h4 (k3 _ h3 h2)
  · rcases h' with ⟨k1, k2, k3, k4, k5⟩ | ⟨k1, k2, k3⟩
    · rcases h3 with h3 | h3
      · omega
      · exact absurd k4 (h3 _ k3 k2)
    · exact ⟨k1.trans h1.symm, by rw [h2, k2]⟩
theorem FmtR.good {ok : Prop} {t : Wd} {e : Ending} (h : FmtR ok t e) (h1 : ok) (h2 : t.length ≤ 65536) : e = .returned (.tuple #[.string (bs t), .int .i64 0]) := by
  rcases h with ⟨_, _, h⟩ | ⟨_, h, _⟩ | ⟨h, _⟩
  · exact h
  · omega
  · exact absurd h1 h
theorem FmtR.any {ok : Prop} {t : Wd} {e : Ending} (h : FmtR ok t e) : ∃ (b : ByteArray) (c : Int), e = .returned (.tuple #[.string b, .int .i64 c]) := by
  rcases h with ⟨_, _, h⟩ | ⟨_, _, h⟩ | ⟨_, h⟩ <;> exact ⟨_, _, h⟩
end
section
open Go.RowKit Go.Maps

theorem cutC_hit {c : UInt8} {p : List UInt8} (h : c ∉ p) (r : List UInt8) : Lib.cut (p ++ c :: r) [c] = (p, r, true) := by
  have e : Lib.index (p ++ c :: r) [c] = p.length := index_at (c := c) (t := []) (r := r) h
  unfold Lib.cut
  rw [e, if_pos (by omega)]
  simp
theorem cutC_miss {c : UInt8} {s : List UInt8} (h : c ∉ s) : Lib.cut s [c] = (s, [], false) := by
  unfold Lib.cut
  rw [index_miss h, if_neg (by omega)]
theorem cutNl_hit (x y : Wd) (hx : (10 : UInt8) ∉ x) (hs : (x ++ 10 :: y).length ≤ 1000000000) (w : World) (hr : Ready w) :
    Calls Tryz.prog 51 #[.string (bs (x ++ 10 :: y)), .string ⟨#[10]⟩] w fun e w' => e = .returned (.tuple #[.string (bs x), .string (bs y), .bool true]) ∧ ∃ n, w' = w.drewN n := by
  obtain ⟨m, hm⟩ := hr.most
  have h1 := Tryz.strings_Cut (bs (x ++ 10 :: y)) ⟨#[10]⟩ m w (by rw [bs_size]; omega) hm
  have hc2 : Lib.cut (bs (x ++ 10 :: y)).data.toList (⟨#[10]⟩ : ByteArray).data.toList = (x, y, true) := by
    rw [bs_data]
    exact cutC_hit hx y
  rw [hc2] at h1
  exact h1
theorem cutNl_miss (s : Wd) (h : (10 : UInt8) ∉ s) (hs : s.length ≤ 1000000000) (w : World) (hr : Ready w) :
    Calls Tryz.prog 51 #[.string (bs s), .string ⟨#[10]⟩] w fun e w' => e = .returned (.tuple #[.string (bs s), .string (bs []), .bool false]) ∧ ∃ n, w' = w.drewN n := by
  obtain ⟨m, hm⟩ := hr.most
  have h1 := Tryz.strings_Cut (bs s) ⟨#[10]⟩ m w (by rw [bs_size]; omega) hm
  have hc2 : Lib.cut (bs s).data.toList (⟨#[10]⟩ : ByteArray).data.toList = (s, [], false) := by
    rw [bs_data]
    exact cutC_miss h
  rw [hc2] at h1
  exact h1
/-- an event whose line can be read back. -/
def GoodE (b : EvC) : Prop := VEv b ∧ EvOk b ∧ (evT b).length ≤ 65536
/-- a text that does not begin with the line of an event. -/
def BadT (t : Wd) : Prop := t ≠ [] ∧ ((10 : UInt8) ∉ t ∨ ∃ u r, t = u ++ 10 :: r ∧ (10 : UInt8) ∉ u ∧ ∀ b, GoodE b → u ≠ evT b)
def ParT (s : Wd) (l : List EvC) (ok : Bool) : Prop := (∀ x ∈ l, GoodE x) ∧ ∃ t, s = joinE l ++ t ∧ if ok then t = [] else BadT t
theorem joinE_cons (x : EvC) (r : List EvC) : joinE (x :: r) = evT x ++ 10 :: joinE r := by simp [joinE]
theorem evT_no10 (e : EvC) : (10 : UInt8) ∉ evT e := lineW_no10 (evW_no10 e)
theorem nl_apart : ∀ {u v r r' : Wd}, (10 : UInt8) ∉ u → (10 : UInt8) ∉ v → u ++ 10 :: r = v ++ 10 :: r' → u = v ∧ r = r'
  | [], [], _, _, _, _, h => by
    injection h with _ h
    exact ⟨rfl, h⟩
  | [], y :: v, _, _, _, h2, h => by
    injection h with h1 _
    exact absurd (by rw [← h1]; simp) h2
  | x :: u, [], _, _, h1, _, h => by
    injection h with h2 _
    exact absurd (by rw [h2]; simp) h1
  | x :: u, y :: v, _, _, h1, h2, h => by
    injection h with h3 h4
    obtain ⟨e1, e2⟩ := nl_apart (fun q => h1 (by simp [q])) (fun q => h2 (by simp [q])) h4
    exact ⟨by rw [h3, e1], e2⟩
theorem bad_good {t : Wd} {x : EvC} {r : Wd} (hb : BadT t) (hx : GoodE x) : t ≠ evT x ++ 10 :: r := fun q => by
  rcases hb.2 with h | ⟨u, r', e, hu, hn⟩
  · rw [q] at h
    simp at h
  · rw [e] at q
    exact hn x hx (nl_apart hu (evT_no10 x) q).1
theorem parT_one : ∀ {l l' : List EvC} {s : Wd} {ok ok' : Bool}, ParT s l ok → ParT s l' ok' → l = l' ∧ ok = ok'
  | [], [], s, ok, ok', ⟨_, t, e1, h1⟩, ⟨_, t', e2, h2⟩ => by
    refine ⟨rfl, ?_⟩
    have e : t = t' := by
      rw [e1] at e2
      simpa using e2
    subst e
    cases ok <;> cases ok'
    · rfl
    · simp at h1 h2
      exact absurd h2 h1.1
    · simp at h1 h2
      exact absurd h1 h2.1
    · rfl
  | [], x :: l', s, ok, ok', ⟨_, t, e1, h1⟩, ⟨g2, t', e2, h2⟩ => by
    rw [e1, joinE_cons] at e2
    have e2 : t = evT x ++ 10 :: (joinE l' ++ t') := by simpa [joinE] using e2
    cases ok
    · simp at h1
      exact absurd e2 (bad_good h1 (g2 x (by simp)))
    · simp at h1
      rw [h1] at e2
      simp at e2
  | x :: l, [], s, ok, ok', ⟨g1, t, e1, h1⟩, ⟨_, t', e2, h2⟩ => by
    rw [e2, joinE_cons] at e1
    have e2 : t' = evT x ++ 10 :: (joinE l ++ t) := by simpa [joinE] using e1
    cases ok'
    · simp at h2
      exact absurd e2 (bad_good h2 (g1 x (by simp)))
    · simp at h2
      rw [h2] at e2
      simp at e2
  | x :: l, y :: l', s, ok, ok', ⟨g1, t, e1, h1⟩, ⟨g2, t', e2, h2⟩ => by
    have e3 := e2
    rw [e1, joinE_cons, joinE_cons] at e3
    simp only [List.append_assoc, List.cons_append] at e3
    obtain ⟨q1, q2⟩ := nl_apart (evT_no10 x) (evT_no10 y) e3
    have q3 := evT_inj (g1 x (by simp)).1 (g2 y (by simp)).1 q1
    obtain ⟨q4, q5⟩ := parT_one (s := joinE l ++ t) (l := l) (l' := l') (ok := ok) (ok' := ok') ⟨fun z hz => g1 z (by simp [hz]), t, rfl, h1⟩ ⟨fun z hz => g2 z (by simp [hz]), t', q2, h2⟩
    exact ⟨by rw [q3, q4], q5⟩
theorem parT_app {s t : Wd} {l m : List EvC} {ok : Bool} (h1 : ParT s l true) (h2 : ParT t m ok) : ParT (s ++ t) (l ++ m) ok := by
  obtain ⟨g1, x, e1, q1⟩ := h1
  obtain ⟨g2, y, e2, q2⟩ := h2
  have q1 : x = [] := by simpa using q1
  refine ⟨fun z hz => ?_, y, ?_, q2⟩
  · rcases List.mem_append.1 hz with h | h
    · exact g1 z h
    · exact g2 z h
  · rw [e1, e2, q1]
    simp [joinE]
theorem parT_join {l : List EvC} (h : ∀ x ∈ l, GoodE x) : ParT (joinE l) l true := ⟨h, [], by simp, by simp⟩
theorem joinE_count (l : List EvC) : l.length ≤ (joinE l).length := by
  induction l with
  | nil => simp
  | cons x r ih =>
    rw [joinE_cons, List.length_append, List.length_cons, List.length_cons]
    omega
end
section
open Go.RowKit Go.Maps

theorem ev_info : (Tryz.prog.info? 35).map (fun i => (i.zero, i.size, i.bytes)) = some (some (.agg #[.int .i64 0, .int .i64 0, .int .i64 0, .int .i64 0, .int .i64 0, .int .i64 0, .int .i64 0, .int .i64 0, .slice none 0 0, .int .i64 0, .int .i64 0, .int .i64 0, .int .i64 0, .int .i64 0, .int .i64 0, .int .i64 0, .int .i64 0, .int .i64 0, .int .i64 0, .int .i64 0, .int .i64 0, .int .i64 0, .int .i64 0, .int .i64 0, .int .i64 0, .slice none 0 0, .slice none 0 0, .slice none 0 0]), 28, 288) := by kernel_rfl
theorem below_drewN' {B : Nat} {w w' : World} (h : Below B w w') (n : Nat) : Below B w (w'.drewN n) := ⟨h.os, h.tape, h.output, h.size, h.block⟩
theorem bs_toL (t : Wd) : (bs t).toList = t := by
  rw [ByteArray.toList_eq]
  exact bs_data t
/-- append of one struct of some size. -/
theorem wpList_append_big {α : Type} {cs : α → List Value} {s : Nat} {P : Program} (w : World) {ops : Array Oper} {rest : List Oper} {o : Oper} {a : Act} {Q : Exit → Act → World → Prop} (hgd : o.guard = none) (sl x : Operand) (t : TypeId)
    (ho : o.op = .call { callee := .builtin .append, args := #[sl, x], argTypes := #[t, t] })
    (base : Nat) (e : TypeId) (ht : P.underlying t = some (.slice e)) {z0 : Value} {by0 : Nat} (hinfo : (P.info? e).map (fun i => (i.zero, i.size, i.bytes)) = some (some z0, s, by0)) (hz0 : z0.cells.size = s) (h0 : 0 < s) (hby : by0 ≤ 512)
    (hs : ∀ a, (cs a).length = s) (v : Value) (xs : List α) (w0 : World) (z : α) (hone : ∀ u ∈ cs z, u.oneCell' = true) (vs : Array Value) (hvs : vs = (cs z).toArray) (hw : w = w0.alloc (.cells vs e)) (hv : a.eval sl = v) (hown : OwnR cs s w0 base e v xs)
    (nb : Nat) (hx : a.eval x = .slice (some ⟨nb, 0, none⟩) 1 1) (hnb : nb = w0.heap.size) (hlen : xs.length + 1 ≤ 274877906944) (hbase : base ≤ w0.heap.size)
    (h : ∀ v' w', OwnR cs s w' base e v' (xs ++ [z]) → w0.grownBy w' v.ownBlock → wpList P ops Q rest (a.put o.dst v') w') :
    wpList P ops Q (o :: rest) a w := by
  obtain ⟨i0, hi, hz1, hz2, hz3⟩ := info_parts hinfo
  subst hw hvs hnb
  have hcell : ∀ j u, (cs z)[j]? = some u → (w0.alloc (.cells (cs z).toArray e)).cell? ((⟨w0.heap.size, 0, none⟩ : Addr).add j) = some u := by
    intro j u hj
    rw [add_none, Nat.zero_add, World.cell?_alloc_at (hn := rfl)]
    simpa using hj
  refine wpList_append_own _ hgd sl x t ho base e i0 z0 s by0 ht hi hz1 hz2 hz3 hz0 h0 v xs.length _ hv (World.ownsRow.alloc hown _) ⟨w0.heap.size, 0, none⟩ 1 1 (cs z) hx (by rw [hs, Nat.one_mul]) hcell
    hone (by unfold maxLen; omega) ?_ (by simp; omega) ?_
  · have := Nat.mul_le_mul hlen hby
    omega
  intro v' w' h1 h2 _
  refine h v' w' ?_ ?_
  · unfold OwnR
    rw [List.length_append, List.length_singleton, List.flatMap_append]
    simpa using h1
  · exact (World.grownBy_alloc w0 _ _).trans h2
/-- events of the call's own. -/
structure EvsO (Y : World) (base : Nat) (v : Value) (l : List EvM) : Prop where
  row : OwnR evCs 28 Y base 35 v l
  evs : ∀ e ∈ l, EvO Y base e
theorem EvsO.nil (Y : World) (base : Nat) : EvsO Y base (.slice none 0 0) [] := ⟨World.ownsRow_nil _ _ _ _, fun s hs => by cases hs⟩
theorem EvsO.next {Y Z : World} {base : Nat} {v : Value} {l : List EvM} (h : EvsO Y base v l) (hb : Below Y.heap.size Y Z) : EvsO Z base v l := ⟨own_next h.row hb, fun e he => (h.evs e he).next hb⟩
theorem EvsO.base {Y : World} {base base' : Nat} {v : Value} {l : List EvM} (h : EvsO Y base v l) (hb : base' ≤ base) : EvsO Y base' v l := ⟨own_base h.row hb, fun e he => (h.evs e he).base hb⟩
theorem EvsO.drewN {Y : World} {base : Nat} {v : Value} {l : List EvM} (h : EvsO Y base v l) (n : Nat) : EvsO (Y.drewN n) base v l := ⟨h.row, fun e he => ⟨⟨⟨(h.evs e he).act.srcs.row, (h.evs e he).act.srcs.nodes⟩, (h.evs e he).act.groups⟩, (h.evs e he).body, (h.evs e he).nob⟩⟩
theorem own_apart {Y Z : World} {base b2 : Nat} {e e2 : TypeId} {s s2 n n2 : Nat} {v v2 : Value} {xs ys : List Value} (h : Y.ownsRow base e s v n xs) (h2 : Y.ownsRow b2 e2 s2 v2 n2 ys) (hT : e ≠ e2) (hg : Y.grownBy Z v2.ownBlock) : Z.ownsRow base e s v n xs :=
  Only.row (Only.of_grown (S := fun b => v2.ownBlock = some b) hg (fun _ q => q)) h (fun _ hk q => rows_apart h h2 hT hk q)
theorem EvO.apart {Y Z : World} {base b2 : Nat} {x : EvM} (h : EvO Y base x) {s2 n2 : Nat} {v2 : Value} {ys : List Value} (h2 : Y.ownsRow b2 35 s2 v2 n2 ys) (hg : Y.grownBy Z v2.ownBlock) : EvO Z base x :=
  ⟨⟨⟨own_apart h.act.srcs.row h2 (by decide) hg, fun s hs => own_apart (h.act.srcs.nodes s hs) h2 (by decide) hg⟩, own_apart h.act.groups h2 (by decide) hg⟩, own_apart h.body h2 (by decide) hg, h.nob⟩
theorem EvsO.push {Y Z : World} {base : Nat} {v v' : Value} {l : List EvM} {x : EvM} (h : EvsO Y base v l) (h' : OwnR evCs 28 Z base 35 v' (l ++ [x])) (hg : Y.grownBy Z v.ownBlock) (hx : EvO Y base x) : EvsO Z base v' (l ++ [x]) := by
  refine ⟨h', fun t ht => ?_⟩
  rcases List.mem_append.1 ht with e | e
  · exact (h.evs t e).apart h.row hg
  · rw [List.mem_singleton.1 e]
    exact hx.apart h.row hg
theorem EvsO.sl {Y : World} {base : Nat} {v : Value} {l : List EvM} (h : EvsO Y base v l) : ∃ A c, v = .slice A l.length c ∧ EvsAt Y Y.heap.size A l := by
  obtain ⟨A, c, e, h1⟩ := OwnR.sl h.row
  exact ⟨A, c, e, h1, fun x hx => (h.evs x hx).at⟩
/-- what Parse returns. -/
def RetPs (s : Wd) (w : World) (e : Ending) (w' : World) : Prop :=
  ∃ (l : List EvM) (ok : Bool), ParT s (l.map EvM.con) ok ∧ (∀ x ∈ l, EvBd x) ∧ Below w.heap.size w w' ∧
    if ok then ∃ A c, e = .returned (.tuple #[.slice A l.length c, .int .i64 0, .int .i64 0]) ∧ EvsO w' w.heap.size (.slice A l.length c) l
    else e = .returned (.tuple #[.slice none 0 0, .int .i64 (l.length + 1), .int .i64 2])
def szV : Value → Nat
  | .string b => b.size
  | _ => 0
theorem szV_str (b : ByteArray) : szV (.string b) = b.size := rfl
theorem fill_ev (D : Array Value) (h : D.size = 28) (z : Value) : Instr.fill (fun i => some (i * 28, 28)) ((Array.range (1 * 28)).map (z.cells[· % z.cells.size]!)) [(0, .agg D)] = some D := by
  have h1 := Great.fill_whole (s := 28) (by decide) [.agg D] ((Array.range (1 * 28)).map (z.cells[· % z.cells.size]!)) (by intro v hv; rw [List.mem_singleton.1 hv]; exact h) (by simp)
  simpa [Value.cells] using h1
set_option maxRecDepth 100000 in
set_option maxHeartbeats 16000000 in
theorem parse_any (s : Wd) (hsl : s.length ≤ 1000000000) (w : World) (hr : Ready w) : Calls Tryz.prog 22 #[.string (bs s)] w (RetPs s w) := by
  have HR := Lib.hid hr
  have HSL := Lib.hid hsl
  clear hr hsl
  go_enter Tryz.func22, Tryz.ntmps22
  go_wp2_with fail
  go_loopw [0, 5, 6] (fun sv lv nv X => ∃ (l : List EvM) (t : Wd), sv = .string (bs t) ∧ nv = .int .i64 (l.length + 1) ∧ s = joinE (l.map EvM.con) ++ t ∧ (∀ x ∈ l, GoodE x.con ∧ EvBd x) ∧ EvsO X w.heap.size lv l ∧ Below w.heap.size w X) (fun sv _ _ _ => szV sv)
  case atStart => exact ⟨[], s, rfl, rfl, rfl, (fun x hx => by cases hx), EvsO.nil _ _, Below.refl _ _⟩
  case round =>
    obtain ⟨l, t, rfl, rfl, hs, hg, ho, hb⟩ := hrel
    have HI := Lib.hid (And.intro hs (And.intro hg (And.intro ho hb)))
    have hll : l.length ≤ 1000000000 := by
      have h1 := joinE_count (l.map EvM.con)
      have h2 := congrArg List.length hs
      rw [List.length_append] at h2
      rw [List.length_map] at h1
      have := HSL.out
      omega
    have htl : t.length ≤ 1000000000 := by
      have h2 := congrArg List.length hs
      rw [List.length_append] at h2
      have := HSL.out
      omega
    have HRI := Lib.hid (HR.out.kept hb HR.out.room)
    clear hs hg ho hb
    by_cases ht : t = []
    · have e0 : (bs t).toList.isEmpty = true := by rw [bs_toL, ht]; rfl
      have HT := Lib.hid ht
      clear ht
      obtain ⟨A, c, e5, hat⟩ := HI.out.2.2.1.sl
      subst e5
      clear hat
      go_wp2_with fail
      go_ret3
      exact ⟨l, true, ⟨fun x hx => by obtain ⟨y, hy, rfl⟩ := List.mem_map.1 hx; exact (HI.out.2.1 y hy).1, t, HI.out.1, HT.out⟩, fun x hx => (HI.out.2.1 x hx).2, HI.out.2.2.2, A, c, rfl, HI.out.2.2.1⟩
    have e0 : (bs t).toList.isEmpty = false := by
      rw [bs_toL]
      cases t with
      | nil => exact absurd rfl ht
      | cons _ _ => rfl
    have HT := Lib.hid ht
    clear ht
    by_cases hm : (10 : UInt8) ∈ t
    rotate_left
    · have HC := Lib.hid (cutNl_miss t hm htl wr HRI.out)
      have HM := Lib.hid hm
      clear hm
      go_wp2_with fail
      refine HC.out.mono ?_
      rintro e X1 ⟨rfl, n1, rfl⟩
      go_wp2_with fail
      go_ret3
      exact ⟨l, false, ⟨fun x hx => by obtain ⟨y, hy, rfl⟩ := List.mem_map.1 hx; exact (HI.out.2.1 y hy).1, t, HI.out.1, HT.out, .inl HM.out⟩, fun x hx => (HI.out.2.1 x hx).2, below_drewN' HI.out.2.2.2 _, rfl⟩
    obtain ⟨u, r, htt, hu⟩ := List.eq_append_cons_of_mem hm
    subst htt
    have hul : u.length ≤ 1000000000 ∧ r.length + 1 ≤ 1000000000 := by
      rw [List.length_append, List.length_cons] at htl
      omega
    have HC := Lib.hid (cutNl_hit u r hu htl wr HRI.out)
    have HU := Lib.hid hu
    obtain ⟨tb0, htb⟩ : ∃ tb0, tb0 = bs (u ++ 10 :: r) := ⟨_, rfl⟩
    have HTB := Lib.hid htb
    rw [← htb] at HC e0 ⊢
    clear hm hu htb htl
    go_wp2_with fail
    refine HC.out.mono ?_
    rintro e X1 ⟨rfl, n1, rfl⟩
    have HPE := Lib.hid (parseEv_any u (wr.drewN n1) (HRI.out.below (below_drewN' (Below.refl _ _) n1)))
    go_wp2_with fail
    refine HPE.out.mono ?_
    rintro e Y (⟨a, hok, hv, htx, hul2, he, hown, hbd, hb2⟩ | ⟨hno, he, hb2⟩)
    · obtain ⟨D, hD⟩ : ∃ D, D = (evCs a).toArray := ⟨_, rfl⟩
      have hva : evV a = .agg D := by rw [hD]; rfl
      rw [hva] at he
      subst he
      have hb3 : Below wr.heap.size wr Y := (below_drewN' (Below.refl _ _) n1).trans hb2
      have hszd : (Tryz.prog.info? 35).map (·.size) = some D.size := by rw [hD]; exact ev_size
      have honed : D.all (·.oneCell') = true := by rw [hD]; exact evCs_one a
      have hold : (#[.int .i64 0, .int .i64 0, .int .i64 0, .int .i64 0, .int .i64 0, .int .i64 0, .int .i64 0, .int .i64 0, .slice none 0 0, .int .i64 0, .int .i64 0, .int .i64 0, .int .i64 0, .int .i64 0, .int .i64 0, .int .i64 0, .int .i64 0, .int .i64 0, .int .i64 0, .int .i64 0, .int .i64 0, .int .i64 0, .int .i64 0, .int .i64 0, .int .i64 0, .slice none 0 0, .slice none 0 0, .slice none 0 0] : Array Value).size = D.size := by rw [hD]; rfl
      have hoy := new_obj Y (.cells #[.int .i64 0, .int .i64 0, .int .i64 0, .int .i64 0, .int .i64 0, .int .i64 0, .int .i64 0, .int .i64 0, .slice none 0 0, .int .i64 0, .int .i64 0, .int .i64 0, .int .i64 0, .int .i64 0, .int .i64 0, .int .i64 0, .int .i64 0, .int .i64 0, .int .i64 0, .int .i64 0, .int .i64 0, .int .i64 0, .int .i64 0, .int .i64 0, .int .i64 0, .slice none 0 0, .slice none 0 0, .slice none 0 0] 35)
      have hrow := setRow_heap _ _ _ D _ _ hoy
      have HWZ := Lib.hid (World.setRow_alloc_new Y #[.int .i64 0, .int .i64 0, .int .i64 0, .int .i64 0, .int .i64 0, .int .i64 0, .int .i64 0, .int .i64 0, .slice none 0 0, .int .i64 0, .int .i64 0, .int .i64 0, .int .i64 0, .int .i64 0, .int .i64 0, .int .i64 0, .int .i64 0, .int .i64 0, .int .i64 0, .int .i64 0, .int .i64 0, .int .i64 0, .int .i64 0, .int .i64 0, .int .i64 0, .slice none 0 0, .slice none 0 0, .slice none 0 0] D 35)
      have hfill : Instr.fill (fun i => some (i * 28, 28)) ((Array.range (1 * 28)).map ((Value.agg #[.int .i64 0, .int .i64 0, .int .i64 0, .int .i64 0, .int .i64 0, .int .i64 0, .int .i64 0, .int .i64 0, .slice none 0 0, .int .i64 0, .int .i64 0, .int .i64 0, .int .i64 0, .int .i64 0, .int .i64 0, .int .i64 0, .int .i64 0, .int .i64 0, .int .i64 0, .int .i64 0, .int .i64 0, .int .i64 0, .int .i64 0, .int .i64 0, .int .i64 0, .slice none 0 0, .slice none 0 0, .slice none 0 0]).cells[· % (Value.agg #[.int .i64 0, .int .i64 0, .int .i64 0, .int .i64 0, .int .i64 0, .int .i64 0, .int .i64 0, .int .i64 0, .slice none 0 0, .int .i64 0, .int .i64 0, .int .i64 0, .int .i64 0, .int .i64 0, .int .i64 0, .int .i64 0, .int .i64 0, .int .i64 0, .int .i64 0, .int .i64 0, .int .i64 0, .int .i64 0, .int .i64 0, .int .i64 0, .int .i64 0, .slice none 0 0, .slice none 0 0, .slice none 0 0]).cells.size]!)) [(0, .agg D)] = some D := fill_ev D (by rw [hD]; rfl) _
      obtain ⟨ie, hie, hiz, his, _⟩ := info_parts ev_info
      have HO6 : Hid (EvsO ((Y.alloc (.cells #[.int .i64 0, .int .i64 0, .int .i64 0, .int .i64 0, .int .i64 0, .int .i64 0, .int .i64 0, .int .i64 0, .slice none 0 0, .int .i64 0, .int .i64 0, .int .i64 0, .int .i64 0, .int .i64 0, .int .i64 0, .int .i64 0, .int .i64 0, .int .i64 0, .int .i64 0, .int .i64 0, .int .i64 0, .int .i64 0, .int .i64 0, .int .i64 0, .int .i64 0, .slice none 0 0, .slice none 0 0, .slice none 0 0] 35)).setRow Y.heap.size D) w.heap.size u5 l ∧ EvO ((Y.alloc (.cells #[.int .i64 0, .int .i64 0, .int .i64 0, .int .i64 0, .int .i64 0, .int .i64 0, .int .i64 0, .int .i64 0, .slice none 0 0, .int .i64 0, .int .i64 0, .int .i64 0, .int .i64 0, .int .i64 0, .int .i64 0, .int .i64 0, .int .i64 0, .int .i64 0, .int .i64 0, .int .i64 0, .int .i64 0, .int .i64 0, .int .i64 0, .int .i64 0, .int .i64 0, .slice none 0 0, .slice none 0 0, .slice none 0 0] 35)).setRow Y.heap.size D) w.heap.size a ∧ Below w.heap.size w ((Y.alloc (.cells #[.int .i64 0, .int .i64 0, .int .i64 0, .int .i64 0, .int .i64 0, .int .i64 0, .int .i64 0, .int .i64 0, .slice none 0 0, .int .i64 0, .int .i64 0, .int .i64 0, .int .i64 0, .int .i64 0, .int .i64 0, .int .i64 0, .int .i64 0, .int .i64 0, .int .i64 0, .int .i64 0, .int .i64 0, .int .i64 0, .int .i64 0, .int .i64 0, .int .i64 0, .slice none 0 0, .slice none 0 0, .slice none 0 0] 35)).setRow Y.heap.size D)) := Lib.hid (by
        rw [HWZ.out]
        have hb4 := below_new Y (.cells D 35)
        exact ⟨(HI.out.2.2.1.next hb3).next hb4, (hown.next hb4).base HI.out.2.2.2.size, (HI.out.2.2.2.trans (hb3.mono HI.out.2.2.2.size)).trans (hb4.mono (Nat.le_trans HI.out.2.2.2.size hb3.size))⟩)
      have HA := Lib.hid (And.intro hok (And.intro hv (And.intro htx (And.intro hul2 (And.intro hbd hD)))))
      clear hok hv htx hul2 hown hbd hb2 hb3 hva hD
      go_wp2_with (first | (refine wpList_store_row rfl 35 (.tmp 10) (.tmp 28) rfl Y.heap.size D rfl rfl 35 _ hoy hszd hold honed ?_) | (refine wpList_load_row_g (by rfl) 35 (.tmp 10) rfl Y.heap.size rfl 35 D (0, 0) _ hrow Tryz.underlying35 rfl hszd ?_) | (refine wpList_buildSlice rfl 44 35 1 #[(0, .tmp 34)] rfl D ie _ Tryz.underlying44 hie hiz (by rw [his]; decide) (by rw [his]; decide) (by rw [his, Array.toList_map]; exact hfill) ?_) | (at_builtin; refine wpList_append_big (cs := evCs) (s := 28) _ rfl _ _ 44 rfl w.heap.size 35 Tryz.underlying44 ev_info rfl (by decide) (by decide) evCs_len _ l ((Y.alloc (.cells #[.int .i64 0, .int .i64 0, .int .i64 0, .int .i64 0, .int .i64 0, .int .i64 0, .int .i64 0, .int .i64 0, .slice none 0 0, .int .i64 0, .int .i64 0, .int .i64 0, .int .i64 0, .int .i64 0, .int .i64 0, .int .i64 0, .int .i64 0, .int .i64 0, .int .i64 0, .int .i64 0, .int .i64 0, .int .i64 0, .int .i64 0, .int .i64 0, .int .i64 0, .slice none 0 0, .slice none 0 0, .slice none 0 0] 35)).setRow Y.heap.size D) a (by have := evCs_one a; simpa using this) D HA.out.2.2.2.2.2 rfl rfl HO6.out.1.row _ rfl rfl (by omega) HO6.out.2.2.size ?_; intro v5 w5 hown5 hg5))
      have H5 := Lib.hid (And.intro (HO6.out.1.push hown5 hg5 HO6.out.2.1) (HO6.out.2.2.grown hg5 HO6.out.2.2.size (fun j e => OwnR.ge_base HO6.out.1.row j e)))
      clear hown5 hg5
      go_wp2_with fail
      go_roundw
      case rel =>
        refine ⟨l ++ [a], r, rfl, ?_, ?_, fun x hx => ?_, H5.out.1, H5.out.2⟩
        · rw [List.length_append]
          go_num
        · rw [HI.out.1, HA.out.2.2.1]
          simp [joinE]
        · rcases List.mem_append.1 hx with q | q
          · exact HI.out.2.1 x q
          · rw [List.mem_singleton.1 q]
            exact ⟨⟨HA.out.2.1, HA.out.1, by rw [← HA.out.2.2.1]; exact HA.out.2.2.2.1⟩, HA.out.2.2.2.2.1⟩
      case measure =>
        rw [HTB.out]
        simp only [szV_str, bs_size, List.length_append, List.length_cons]
        omega
    · obtain ⟨D, hD⟩ : ∃ D, D = (evCs (EvM.zero 0 0)).toArray := ⟨_, rfl⟩
      have hva : evV (EvM.zero 0 0) = .agg D := by rw [hD]; rfl
      rw [hva] at he
      subst he
      have hb3 : Below wr.heap.size wr Y := (below_drewN' (Below.refl _ _) n1).trans hb2
      have hszd : (Tryz.prog.info? 35).map (·.size) = some D.size := by rw [hD]; exact ev_size
      have honed : D.all (·.oneCell') = true := by rw [hD]; exact evCs_one _
      have hold : (#[.int .i64 0, .int .i64 0, .int .i64 0, .int .i64 0, .int .i64 0, .int .i64 0, .int .i64 0, .int .i64 0, .slice none 0 0, .int .i64 0, .int .i64 0, .int .i64 0, .int .i64 0, .int .i64 0, .int .i64 0, .int .i64 0, .int .i64 0, .int .i64 0, .int .i64 0, .int .i64 0, .int .i64 0, .int .i64 0, .int .i64 0, .int .i64 0, .int .i64 0, .slice none 0 0, .slice none 0 0, .slice none 0 0] : Array Value).size = D.size := by rw [hD]; rfl
      have hoy := new_obj Y (.cells #[.int .i64 0, .int .i64 0, .int .i64 0, .int .i64 0, .int .i64 0, .int .i64 0, .int .i64 0, .int .i64 0, .slice none 0 0, .int .i64 0, .int .i64 0, .int .i64 0, .int .i64 0, .int .i64 0, .int .i64 0, .int .i64 0, .int .i64 0, .int .i64 0, .int .i64 0, .int .i64 0, .int .i64 0, .int .i64 0, .int .i64 0, .int .i64 0, .int .i64 0, .slice none 0 0, .slice none 0 0, .slice none 0 0] 35)
      have HWZ := Lib.hid (World.setRow_alloc_new Y #[.int .i64 0, .int .i64 0, .int .i64 0, .int .i64 0, .int .i64 0, .int .i64 0, .int .i64 0, .int .i64 0, .slice none 0 0, .int .i64 0, .int .i64 0, .int .i64 0, .int .i64 0, .int .i64 0, .int .i64 0, .int .i64 0, .int .i64 0, .int .i64 0, .int .i64 0, .int .i64 0, .int .i64 0, .int .i64 0, .int .i64 0, .int .i64 0, .int .i64 0, .slice none 0 0, .slice none 0 0, .slice none 0 0] D 35)
      have HF : Hid (RetPs s w (.returned (.tuple #[.slice none 0 0, .int .i64 (l.length + 1), .int .i64 2])) ((Y.alloc (.cells #[.int .i64 0, .int .i64 0, .int .i64 0, .int .i64 0, .int .i64 0, .int .i64 0, .int .i64 0, .int .i64 0, .slice none 0 0, .int .i64 0, .int .i64 0, .int .i64 0, .int .i64 0, .int .i64 0, .int .i64 0, .int .i64 0, .int .i64 0, .int .i64 0, .int .i64 0, .int .i64 0, .int .i64 0, .int .i64 0, .int .i64 0, .int .i64 0, .int .i64 0, .slice none 0 0, .slice none 0 0, .slice none 0 0] 35)).setRow Y.heap.size D)) := Lib.hid (by
        refine ⟨l, false, ⟨fun x hx => by obtain ⟨y, hy, rfl⟩ := List.mem_map.1 hx; exact (HI.out.2.1 y hy).1, u ++ 10 :: r, HI.out.1, by simp, .inr ⟨u, r, rfl, HU.out, fun b hb q => ?_⟩⟩, fun x hx => (HI.out.2.1 x hx).2, ?_, rfl⟩
        · rcases hno with h | h
          · have := hb.2.2
            rw [← q] at this
            omega
          · exact h b hb.1 hb.2.1 q
        · rw [HWZ.out]
          exact (HI.out.2.2.2.trans (hb3.mono HI.out.2.2.2.size)).trans ((below_new Y (.cells D 35)).mono (Nat.le_trans HI.out.2.2.2.size hb3.size)))
      clear hno hb2 hb3 hva hD
      go_wp2_with (refine wpList_store_row rfl 35 (.tmp 10) (.tmp 28) rfl Y.heap.size D rfl rfl 35 _ hoy hszd hold honed ?_)
      go_ret3
      exact HF.out
end
section
open Go.RowKit Go.Maps

/-- what FewAct has counted behind k sources. -/
def fewZ (a : ActM) (k : Nat) : Nat := a.groups.length + ((a.srcs.take k).map (fun s => s.nodes.length + 1)).sum
theorem fewZ_next {a : ActM} {k : Nat} {s : SrcM} (h : a.srcs[k]? = some s) : fewZ a (k + 1) = fewZ a k + 1 + s.nodes.length := by
  unfold fewZ
  rw [take_snoc h, List.map_append, List.sum_append]
  simp
  omega
theorem fewZ_all (a : ActM) : fewZ a a.srcs.length = actSize a.con := by
  unfold fewZ actSize
  rw [List.take_length]
  show _ = a.groups.length + ((a.srcs.map SrcM.con).map (fun s => s.nodes.length + 1)).sum
  rw [List.map_map]
  rfl
set_option maxRecDepth 100000 in
set_option maxHeartbeats 4000000 in
theorem fewAct_any (a : ActM) (w : World) (hat : ActAt w w.heap.size a) (wf : ActWf 1048576 a) : Calls Tryz.prog 16 #[actV a] w fun e w' => (∃ b, e = .returned (.bool b) ∧ (b = true → actSize a.con ≤ 200)) ∧ Below w.heap.size w w' := by
  obtain ⟨C, hC⟩ : ∃ C, C = (actCs a).toArray := ⟨_, rfl⟩
  have hv : actV a = .agg C := by rw [hC]; rfl
  obtain ⟨W1, hW1⟩ : ∃ W1, W1 = w.alloc (.cells C 33) := ⟨_, rfl⟩
  have hrow := new_obj w (.cells C 33)
  have hb1 : Below w.heap.size w W1 := by rw [hW1]; exact below_new _ _
  have hlt1 : w.heap.size < W1.heap.size := by rw [hW1]; simp
  have HC := Lib.hid (show ∀ (j : Nat) (u : Value), (actCs a)[j]? = some u → W1.cell? ⟨w.heap.size, j, none⟩ = some u from fun j u hj => by
    rw [hW1, Lib.cell_of_heap hrow, hC]
    simpa using hj)
  obtain ⟨m, hm⟩ : ∃ m, m = a.srcs.length := ⟨_, rfl⟩
  have HM := Lib.hid hm
  obtain ⟨gl, hgl⟩ : ∃ g, g = a.groups.length := ⟨_, rfl⟩
  have HG := Lib.hid hgl
  have hp6 := HC.out 6 (.slice a.sA a.srcs.length a.sc) rfl
  have c7 : C[7]? = some (.slice a.gA a.groups.length a.gc) := by rw [hC]; rfl
  rw [← hm] at hp6
  rw [← hgl] at c7
  have hgb : gl ≤ 1048576 := by rw [hgl]; exact wf.glen
  have hmb : m ≤ 1048576 := by rw [hm]; exact wf.slen
  have HWF := Lib.hid (And.intro hb1 (And.intro (hat.srcs.below hb1) wf))
  rw [hv]
  clear hC hv hrow hb1 hlt1 HC hat wf hm hgl
  go_enter Tryz.func16, Tryz.ntmps16
  go_wp2_with fail
  rw [← hW1]
  clear hW1 c7
  go_loopw [3, 4] (fun nv iv X => ∃ (k z : Nat), k ≤ m ∧ iv = .int .i64 k ∧ nv = .int .i64 z ∧ z = fewZ a k ∧ z ≤ 1048576 ∧ X = W1) (fun _ iv _ => m - (intOf iv).toNat)
  case atStart => exact ⟨0, gl, Nat.zero_le _, rfl, rfl, by unfold fewZ; rw [HG.out]; simp, hgb, rfl⟩
  case round =>
    obtain ⟨k, z, hk, rfl, rfl, hz, hzb, hX⟩ := hrel
    subst hX
    have HZ := Lib.hid hz
    clear hz
    by_cases hlt : k < m
    · have hlt' : (k : Int) < (m : Int) := by omega
      obtain ⟨s, hs⟩ : ∃ s, a.srcs[k]? = some s := ⟨a.srcs[k]'(by have := HM.out; omega), by simp⟩
      obtain ⟨ab, ao, hA, hab, x0, x1⟩ := src_at HWF.out.2.1.row hs
      have hsl : s.nodes.length ≤ 1048576 := (HWF.out.2.2.srcs s (List.mem_of_getElem? hs)).len
      have HN := Lib.hid (show z + 1 + s.nodes.length = fewZ a (k + 1) by rw [fewZ_next hs, HZ.out])
      obtain ⟨l, hl⟩ : ∃ l, l = s.nodes.length := ⟨_, rfl⟩
      rw [← hl] at hsl HN x1
      rw [hA] at hp6
      have w1 : IntKind.i64.wrap ((z : Int) + 1) = (z : Int) + 1 := IntWalk.i64_in _ (by omega)
      have w2 : IntKind.i64.wrap ((z : Int) + 1 + (l : Int)) = (z : Int) + 1 + (l : Int) := IntWalk.i64_in _ (by omega)
      clear hs hab hl hA
      by_cases hbig : 200 < z + 1 + l
      · have d1 : decide ((200 : Int) < (z : Int) + 1 + (l : Int)) = true := decide_eq_true (by omega)
        clear hbig
        go_wp2_with fail
        go_ret
        exact ⟨⟨false, rfl, fun h => by cases h⟩, HWF.out.1⟩
      · have d1 : decide ((200 : Int) < (z : Int) + 1 + (l : Int)) = false := decide_eq_false (by omega)
        have hzn : z + 1 + l ≤ 200 := by omega
        clear hbig
        go_wp2_with fail
        go_roundw
        case rel => exact ⟨k + 1, z + 1 + l, by omega, by go_num, by go_num, HN.out, by omega, by first | rfl | trivial⟩
        case measure => simp [intOf]; omega
    · obtain rfl : k = m := by omega
      have HF := Lib.hid (show z = actSize a.con by rw [HZ.out, HM.out, fewZ_all])
      go_wp2_with fail
      go_ret
      refine ⟨⟨decide ((z : Int) ≤ 200), rfl, fun h => ?_⟩, HWF.out.1⟩
      have := of_decide_eq_true h
      have := HF.out
      omega
end
section
open Go.RowKit Go.Maps Go.ChangeShapes Go.WideShapes Go.ChangeAt

section
variable {H : Type} {enc : TypeId × Value → H}
set_option maxRecDepth 100000 in
theorem open_evs2 {W : World} {r : Reach} {b0 : Nat} {v : Value} {d : DataW H} {p : List MemPlace} {base : Nat} {spare : Nat → Bool} {held : Bool}
    (hv : Value.okWide Tryz.prog W r b0 44 v) (h : DataW.Trod enc Tryz.prog W base spare held 44 v d p) :
    ∃ (A : Option Addr) (us : List EvM) (cap : Nat), v = .slice A us.length cap ∧ EvsAt W W.heap.size A us ∧ us.length ≤ Rows.uptoBulk d ∧ ∀ e ∈ us, EvWf (Rows.uptoBulk d) e := by
  obtain ⟨A, len, cap, rfl⟩ := okWide_slice Tryz.underlying44 hv
  obtain ⟨fuel, hf⟩ := h
  have hf' : DataW.trod enc Tryz.prog W base spare held fuel 44 [.slice A len cap] = some (d, p) := by simpa [Value.cells] using hf
  have hbn := bulk_field Tryz.underlying44 hf'
  obtain ⟨A', n, cap', e, h1, h2, h3, h4⟩ := recs_bulk (C := 28) Tryz.underlying44 (by kernel_rfl) (by decide) hf'
  injection e with e1 e2 e3
  subst e1 e2 e3
  obtain ⟨us, hl, hR⟩ := list_of (fun i u => (∃ b o, A = some ⟨b, o, none⟩ ∧ b < W.heap.size ∧ ∀ (j : Nat) (v : Value), (evCs u)[j]? = some v → W.cell? ⟨b, o + i * 28 + j, none⟩ = some v) ∧ EvAt W W.heap.size u ∧ EvWf (Rows.uptoBulk d) u) len (fun i hi => by
    obtain ⟨b, o, cs, e, hb, hcl, hc, y, m, ht, hby⟩ := h4 i hi
    obtain ⟨x, hx, hat, hw⟩ := ev_open hcl ht
    exact ⟨x, ⟨b, o, e, hb, by rw [hx]; exact hc⟩, hat, hw.mono hby⟩)
  refine ⟨A, us, cap, by rw [hl], ⟨recsAt_of evCs_len (by decide) (fun i a ha => (hR i a ha).1), fun q hq => ?_⟩, by rw [hl]; exact hbn, fun q hq => ?_⟩
  · obtain ⟨i, hi⟩ := List.getElem?_of_mem hq
    exact (hR i q hi).2.1
  · obtain ⟨i, hi⟩ := List.getElem?_of_mem hq
    exact (hR i q hi).2.2
end
/-- what Few says of an event. -/
def FewE (e : EvM) : Prop := actSize e.act.con ≤ 200 ∧ e.ebody.length ≤ 300 ∧ e.bytes.length ≤ 300
set_option maxRecDepth 100000 in
set_option maxHeartbeats 8000000 in
theorem few_any (w : World) (A : Option Addr) (c : Nat) (us : List EvM) (most : Nat) (hat : EvsAt w w.heap.size A us) (hw : ∀ e ∈ us, EvWf 1048576 e) (hn : us.length ≤ 1048576) :
    Calls Tryz.prog 13 #[.slice A us.length c, .int .i64 most] w fun e w' => (∃ b, e = .returned (.bool b) ∧ (b = true → us.length ≤ most ∧ ∀ e ∈ us, FewE e)) ∧ Below w.heap.size w w' := by
  have HA := Lib.hid (And.intro hat hw)
  obtain ⟨n, hnn⟩ : ∃ n, n = us.length := ⟨_, rfl⟩
  have HN := Lib.hid hnn
  rw [← hnn] at hn ⊢
  clear hat hw hnn
  by_cases hm : most < n
  · have d0 : decide ((most : Int) < (n : Int)) = true := decide_eq_true (by omega)
    have d1 : decide (most < n) = true := decide_eq_true hm
    go_enter Tryz.func13, Tryz.ntmps13
    go_wp2_with fail
    go_ret
    exact ⟨⟨false, rfl, fun h => by cases h⟩, Below.refl _ _⟩
  have d0 : decide ((most : Int) < (n : Int)) = false := decide_eq_false (by omega)
  have d1 : decide (most < n) = false := decide_eq_false hm
  have HMM := Lib.hid (show n ≤ most by omega)
  go_enter Tryz.func13, Tryz.ntmps13
  go_wp2_with fail
  clear d0 d1 hm
  go_loopw [5] (fun iv X => ∃ k : Nat, k ≤ n ∧ iv = .int .i64 k ∧ (∀ e ∈ us.take k, FewE e) ∧ Below w.heap.size w X) (fun iv _ => n - (intOf iv).toNat)
  case atStart => exact ⟨0, Nat.zero_le _, rfl, (fun e he => by cases he), Below.refl _ _⟩
  case round =>
    obtain ⟨k, hk, rfl, hall, hb⟩ := hrel
    have HR := Lib.hid (And.intro hall hb)
    clear hall hb
    by_cases hlt : k < n
    · have hlt' : (k : Int) < (n : Int) := by omega
      obtain ⟨x, hx⟩ : ∃ x, us[k]? = some x := ⟨us[k]'(by have := HN.out; omega), by simp⟩
      have hxm := List.mem_of_getElem? hx
      have hat2 := HA.out.1.below HR.out.2
      obtain ⟨ab, ao, hAe, hab, hrng⟩ := ev_range hat2.row hx
      have HX := Lib.hid hx
      have hwx := HA.out.2 x hxm
      obtain ⟨L, hL⟩ : ∃ L, L = actCs x.act := ⟨_, rfl⟩
      have HSZ := Lib.hid (show (Tryz.prog.info? 33).map (·.size) = some L.length by rw [hL]; exact act_size)
      have HRG := Lib.hid (show wr.rangeAt ab (ao + k * 28 + 19) L from fun j v hj => by
        have h := hrng (19 + j) v (by
          rw [hL] at hj
          match j, hj with
          | 0, hj => exact hj
          | 1, hj => exact hj
          | 2, hj => exact hj
          | 3, hj => exact hj
          | 4, hj => exact hj
          | 5, hj => exact hj
          | 6, hj => exact hj
          | 7, hj => exact hj
          | j + 8, hj => simp [actCs] at hj)
        rwa [← Nat.add_assoc] at h)
      have HFA := Lib.hid (fewAct_any x.act wr ((hat2.evs x hxm).act.more HR.out.2.size) hwx.act)
      rw [show actV x.act = .agg L.toArray by rw [hL]; rfl] at HFA
      obtain ⟨l1, hl1⟩ : ∃ l, l = x.ebody.length := ⟨_, rfl⟩
      obtain ⟨l2, hl2⟩ : ∃ l, l = x.bytes.length := ⟨_, rfl⟩
      have hl1b : l1 ≤ 1048576 := by rw [hl1]; exact hwx.blen
      have hl2b : l2 ≤ 1048576 := by rw [hl2]; exact hwx.bytes
      have HLL := Lib.hid (And.intro hl1 hl2)
      have HC := Lib.hid (And.intro (show wr.cell? ⟨ab, ao + k * 28 + 8, none⟩ = some (.slice x.eA l1 x.ec) by rw [hl1]; exact hrng 8 _ rfl) (And.intro (show wr.cell? ⟨ab, ao + k * 28 + 27, none⟩ = some (.slice x.bA l2 x.bc) by rw [hl2]; exact hrng 27 _ rfl) hab))
      rw [hAe]
      clear hx hxm hat2 hAe hab hrng hwx hL hl1 hl2
      go_wp2_with ((with_reducible refine wpList_at 20 rfl ?_); refine wpList_load_mid rfl 33 (.tmp 19) rfl ab (ao + k * 28 + 19) rfl L _ HRG.out Tryz.underlying33 rfl HSZ.out ?_)
      refine HFA.out.mono ?_
      rintro e X1 ⟨⟨fb, rfl, hfb⟩, hb1⟩
      have HB1 := Lib.hid (HR.out.2.trans (hb1.mono HR.out.2.size))
      cases fb with
      | false =>
        clear hfb hb1
        go_wp2_with fail
        go_ret
        exact ⟨⟨false, rfl, fun h => by cases h⟩, HB1.out⟩
      | true =>
      have HSM := Lib.hid (hfb rfl)
      have hlw : ab < wr.heap.size := Nat.lt_of_lt_of_le HC.out.2.2 HR.out.2.size
      have c8 := (hb1.cell (p := ⟨ab, ao + k * 28 + 8, none⟩) hlw).trans HC.out.1
      have c27 := (hb1.cell (p := ⟨ab, ao + k * 28 + 27, none⟩) hlw).trans HC.out.2.1
      clear hfb hb1 hlw
      by_cases h8 : 300 < l1
      · have d8 : decide ((300 : Int) < (l1 : Int)) = true := decide_eq_true (by omega)
        clear h8
        go_wp2_with fail
        go_ret
        exact ⟨⟨false, rfl, fun h => by cases h⟩, HB1.out⟩
      have d8 : decide ((300 : Int) < (l1 : Int)) = false := decide_eq_false (by omega)
      by_cases h27 : 300 < l2
      · have d27 : decide ((300 : Int) < (l2 : Int)) = true := decide_eq_true (by omega)
        clear h8 h27
        go_wp2_with fail
        go_ret
        exact ⟨⟨false, rfl, fun h => by cases h⟩, HB1.out⟩
      have d27 : decide ((300 : Int) < (l2 : Int)) = false := decide_eq_false (by omega)
      have HFE : Hid (FewE x) := Lib.hid ⟨HSM.out, by have := HLL.out.1; omega, by have := HLL.out.2; omega⟩
      clear h8 h27
      go_wp2_with fail
      go_roundw
      case rel =>
        refine ⟨k + 1, by omega, by go_num, fun e he => ?_, HB1.out⟩
        rw [take_snoc HX.out] at he
        rcases List.mem_append.1 he with q | q
        · exact HR.out.1 e q
        · rw [List.mem_singleton.1 q]
          exact HFE.out
      case measure => simp [intOf]; omega
    · obtain rfl : k = n := by omega
      have HF : Hid (k ≤ most ∧ ∀ e ∈ us, FewE e) := Lib.hid ⟨HMM.out, by have h := HR.out.1; rwa [List.take_of_length_le (by have := HN.out; omega)] at h⟩
      go_wp2_with fail
      go_ret
      exact ⟨⟨true, rfl, fun _ => HF.out⟩, HR.out.2⟩
end
section
open Go.RowKit Go.Maps

theorem wpList_is {P : Program} {ops : Array Oper} {Q : Exit → Act → World → Prop} {o : Oper} {r : List Oper} {a : Act} {w : World} (x : Op) (_ho : o.op = x) (h : wpList P ops Q (o :: r) a w) : wpList P ops Q (o :: r) a w := h
set_option maxRecDepth 100000 in
set_option maxHeartbeats 8000000 in
theorem equalF_any (w : World) (A C : Option Addr) (c d : Nat) (us vs : List EvM) (BA BB : Nat) (ha : EvsAt w BA A us) (hb : EvsAt w BB C vs) (hA : BA ≤ w.heap.size) (hB : BB ≤ w.heap.size) (hl : ∀ e ∈ us, ActL e.act) (hn : us.length ≤ 9223372036854775806) :
    Calls Tryz.prog 42 #[.slice A us.length c, .slice C vs.length d, .func (.func 43) #[] #[]] w fun e w' => e = .returned (.bool (tb (us.map EvM.con = vs.map EvM.con))) ∧ Below w.heap.size w w' := by
  by_cases hlen : us.length = vs.length
  rotate_left
  · have e1 : ((us.length : Int) != (vs.length : Int)) = true := by simp; omega
    have HNE : Hid (¬ us.map EvM.con = vs.map EvM.con) := fun q => hlen (by have := congrArg List.length q; simpa using this)
    obtain ⟨n, hnn⟩ : ∃ n, n = us.length := ⟨_, rfl⟩
    obtain ⟨m, hm⟩ : ∃ m, m = vs.length := ⟨_, rfl⟩
    rw [← hnn, ← hm] at e1 ⊢
    clear hlen ha hb hA hB hl hn hnn hm
    go_enter Tryz.func42, Tryz.ntmps42
    go_wp2_with fail
    go_ret
    exact ⟨ret_no HNE.out, Below.refl _ _⟩
  have HA := Lib.hid (And.intro ha (And.intro hb (And.intro hA (And.intro hB hl))))
  obtain ⟨n, hnn⟩ : ∃ n, n = us.length := ⟨_, rfl⟩
  have HN := Lib.hid (And.intro hnn (hnn.trans hlen))
  rw [← hlen, ← hnn]
  have hnb : n ≤ 9223372036854775806 := by omega
  have e1 : ((n : Int) != (n : Int)) = false := by simp
  obtain ⟨Z, hZ⟩ : ∃ Z : Array Value, Z = #[.int .i64 0, .int .i64 0, .int .i64 0, .int .i64 0, .int .i64 0, .int .i64 0, .int .i64 0, .int .i64 0, .slice none 0 0, .int .i64 0, .int .i64 0, .int .i64 0, .int .i64 0, .int .i64 0, .int .i64 0, .int .i64 0, .int .i64 0, .int .i64 0, .int .i64 0, .int .i64 0, .int .i64 0, .int .i64 0, .int .i64 0, .int .i64 0, .int .i64 0, .slice none 0 0, .slice none 0 0, .slice none 0 0] := ⟨_, rfl⟩
  have HZ := Lib.hid (And.intro hZ (show ∀ a : EvM, Z.size = (evCs a).toArray.size by rw [hZ]; exact fun _ => rfl))
  clear ha hb hA hB hl hn hnn hlen hZ
  go_enter Tryz.func42, Tryz.ntmps42
  go_wp2_with fail
  clear e1
  go_loopw [17] (fun iv X => ∃ k : Nat, k ≤ n ∧ iv = .int .i64 k ∧ (us.map EvM.con).take k = (vs.map EvM.con).take k ∧ Below w.heap.size w X) (fun iv _ => n - (intOf iv).toNat)
  case atStart => exact ⟨0, Nat.zero_le _, rfl, rfl, Below.refl _ _⟩
  case round =>
    obtain ⟨k, hk, rfl, htk, hbl⟩ := hrel
    have HR := Lib.hid (And.intro htk hbl)
    clear htk hbl
    by_cases hlt : k < n
    · have hlt' : (k : Int) < (n : Int) := by omega
      obtain ⟨x, hx⟩ : ∃ x, us[k]? = some x := ⟨us[k]'(by have := HN.out.1; omega), by simp⟩
      obtain ⟨y, hy⟩ : ∃ y, vs[k]? = some y := ⟨vs[k]'(by have := HN.out.2; omega), by simp⟩
      obtain ⟨ab, ao, hAe, hab, hra⟩ := ev_range HA.out.1.row hx
      obtain ⟨bb, bo, hBe, hbb, hrb⟩ := ev_range HA.out.2.1.row hy
      obtain ⟨X, hX⟩ : ∃ X, X = evCs x := ⟨_, rfl⟩
      obtain ⟨Y, hY⟩ : ∃ Y, Y = evCs y := ⟨_, rfl⟩
      have HSX := Lib.hid (And.intro (show (Tryz.prog.info? 35).map (·.size) = some X.length by rw [hX]; exact ev_size) (show (Tryz.prog.info? 35).map (·.size) = some Y.length by rw [hY]; exact ev_size))
      have HSY := Lib.hid (And.intro (show (Tryz.prog.info? 35).map (·.size) = some X.toArray.size by rw [hX]; exact ev_size) (And.intro (show (Tryz.prog.info? 35).map (·.size) = some Y.toArray.size by rw [hY]; exact ev_size) (And.intro (show X.toArray.all (·.oneCell') = true by rw [hX]; exact evCs_one x) (And.intro (show Y.toArray.all (·.oneCell') = true by rw [hY]; exact evCs_one y) (And.intro (show (#[.int .i64 0, .int .i64 0, .int .i64 0, .int .i64 0, .int .i64 0, .int .i64 0, .int .i64 0, .int .i64 0, .slice none 0 0, .int .i64 0, .int .i64 0, .int .i64 0, .int .i64 0, .int .i64 0, .int .i64 0, .int .i64 0, .int .i64 0, .int .i64 0, .int .i64 0, .int .i64 0, .int .i64 0, .int .i64 0, .int .i64 0, .int .i64 0, .int .i64 0, .slice none 0 0, .slice none 0 0, .slice none 0 0] : Array Value).size = X.toArray.size by rw [hX]; rfl) (show (#[.int .i64 0, .int .i64 0, .int .i64 0, .int .i64 0, .int .i64 0, .int .i64 0, .int .i64 0, .int .i64 0, .slice none 0 0, .int .i64 0, .int .i64 0, .int .i64 0, .int .i64 0, .int .i64 0, .int .i64 0, .int .i64 0, .int .i64 0, .int .i64 0, .int .i64 0, .int .i64 0, .int .i64 0, .int .i64 0, .int .i64 0, .int .i64 0, .int .i64 0, .slice none 0 0, .slice none 0 0, .slice none 0 0] : Array Value).size = Y.toArray.size by rw [hY]; rfl))))))
      obtain ⟨W1, hW1⟩ : ∃ W, W = wr.alloc (.cells X.toArray 35) := ⟨_, rfl⟩
      obtain ⟨W2, hW2⟩ : ∃ W, W = W1.alloc (.cells Y.toArray 35) := ⟨_, rfl⟩
      have hw1 : Below wr.heap.size wr W1 := by rw [hW1]; exact below_new _ _
      have hw2 : Below W1.heap.size W1 W2 := by rw [hW2]; exact below_new _ _
      have hbt := HR.out.2.trans (hw1.mono HR.out.2.size)
      have hbu := hbt.trans (hw2.mono hbt.size)
      have hlt1 : wr.heap.size < W1.heap.size := by rw [hW1]; simp
      have HS1 := Lib.hid (show (wr.alloc (.cells #[.int .i64 0, .int .i64 0, .int .i64 0, .int .i64 0, .int .i64 0, .int .i64 0, .int .i64 0, .int .i64 0, .slice none 0 0, .int .i64 0, .int .i64 0, .int .i64 0, .int .i64 0, .int .i64 0, .int .i64 0, .int .i64 0, .int .i64 0, .int .i64 0, .int .i64 0, .int .i64 0, .int .i64 0, .int .i64 0, .int .i64 0, .int .i64 0, .int .i64 0, .slice none 0 0, .slice none 0 0, .slice none 0 0] 35)).setRow wr.heap.size X.toArray = W1 by rw [hW1]; exact World.setRow_alloc_new wr _ X.toArray 35)
      have HS2 := Lib.hid (show (W1.alloc (.cells #[.int .i64 0, .int .i64 0, .int .i64 0, .int .i64 0, .int .i64 0, .int .i64 0, .int .i64 0, .int .i64 0, .slice none 0 0, .int .i64 0, .int .i64 0, .int .i64 0, .int .i64 0, .int .i64 0, .int .i64 0, .int .i64 0, .int .i64 0, .int .i64 0, .int .i64 0, .int .i64 0, .int .i64 0, .int .i64 0, .int .i64 0, .int .i64 0, .int .i64 0, .slice none 0 0, .slice none 0 0, .slice none 0 0] 35)).setRow W1.heap.size Y.toArray = W2 by rw [hW2]; exact World.setRow_alloc_new W1 _ Y.toArray 35)
      have HO1 := Lib.hid (And.intro (new_obj wr (.cells #[.int .i64 0, .int .i64 0, .int .i64 0, .int .i64 0, .int .i64 0, .int .i64 0, .int .i64 0, .int .i64 0, .slice none 0 0, .int .i64 0, .int .i64 0, .int .i64 0, .int .i64 0, .int .i64 0, .int .i64 0, .int .i64 0, .int .i64 0, .int .i64 0, .int .i64 0, .int .i64 0, .int .i64 0, .int .i64 0, .int .i64 0, .int .i64 0, .int .i64 0, .slice none 0 0, .slice none 0 0, .slice none 0 0] 35)) (new_obj W1 (.cells #[.int .i64 0, .int .i64 0, .int .i64 0, .int .i64 0, .int .i64 0, .int .i64 0, .int .i64 0, .int .i64 0, .slice none 0 0, .int .i64 0, .int .i64 0, .int .i64 0, .int .i64 0, .int .i64 0, .int .i64 0, .int .i64 0, .int .i64 0, .int .i64 0, .int .i64 0, .int .i64 0, .int .i64 0, .int .i64 0, .int .i64 0, .int .i64 0, .int .i64 0, .slice none 0 0, .slice none 0 0, .slice none 0 0] 35)))
      have hr1 : W1.heap[wr.heap.size]? = some (.cells X.toArray 35 (0, 0)) := by rw [hW1]; exact new_obj _ _
      have HR2 := Lib.hid (And.intro (show W2.heap[wr.heap.size]? = some (.cells X.toArray 35 (0, 0)) from (hw2.block wr.heap.size hlt1).trans hr1) (show W2.heap[W1.heap.size]? = some (.cells Y.toArray 35 (0, 0)) by rw [hW2]; exact new_obj _ _))
      have HRX := Lib.hid (And.intro (show wr.rangeAt ab (ao + k * 28) X from fun j v hj => (HR.out.2.cell (p := ⟨ab, ao + k * 28 + j, none⟩) (Nat.lt_of_lt_of_le hab HA.out.2.2.1)).trans (hra j v (by rw [← hX]; exact hj))) (show W1.rangeAt bb (bo + k * 28) Y from fun j v hj => (hbt.cell (p := ⟨bb, bo + k * 28 + j, none⟩) (Nat.lt_of_lt_of_le hbb HA.out.2.2.2.1)).trans (hrb j v (by rw [← hY]; exact hj))))
      have HB2 := Lib.hid hbu
      have HON := Lib.hid (eqEv_any x y W2 BA BB ((HA.out.1.evs x (List.mem_of_getElem? hx)).below (hbu.mono HA.out.2.2.1)) ((HA.out.2.1.evs y (List.mem_of_getElem? hy)).below (hbu.mono HA.out.2.2.2.1)) (Nat.le_trans HA.out.2.2.1 hbu.size) (Nat.le_trans HA.out.2.2.2.1 hbu.size) (HA.out.2.2.2.2 x (List.mem_of_getElem? hx)).ns (HA.out.2.2.2.2 x (List.mem_of_getElem? hx)).nn (HA.out.2.2.2.2 x (List.mem_of_getElem? hx)).ng)
      rw [show evV x = .agg X.toArray by rw [hX]; rfl, show evV y = .agg Y.toArray by rw [hY]; rfl] at HON
      have HSN : Hid ((us.map EvM.con).take (k + 1) = (vs.map EvM.con).take (k + 1) ↔ x.con = y.con) := Lib.hid (by
        rw [take_snoc' (show (us.map EvM.con)[k]? = some x.con by rw [List.getElem?_map, hx]; rfl), take_snoc' (show (vs.map EvM.con)[k]? = some y.con by rw [List.getElem?_map, hy]; rfl), HR.out.1]
        simp)
      rw [hAe, hBe]
      clear hx hy hAe hab hra hBe hbb hrb hX hY hW1 hW2 hw1 hw2 hbt hbu hlt1 hr1
      go_wp2_with (first | ((with_reducible refine wpList_at 21 rfl ?_); refine wpList_load_mid rfl 35 (.tmp 20) rfl ab (ao + k * 28) rfl X _ HRX.out.1 Tryz.underlying35 rfl HSX.out.1 ?_) | ((with_reducible refine wpList_is (.store 35 (.tmp 8) (.tmp 21)) rfl ?_); refine wpList_store_row rfl 35 (.tmp 8) (.tmp 21) rfl wr.heap.size X.toArray rfl rfl 35 _ HO1.out.1 HSY.out.1 HSY.out.2.2.2.2.1 HSY.out.2.2.1 ?_; rw [HS1.out]) | ((with_reducible refine wpList_at 25 rfl ?_); refine wpList_load_mid rfl 35 (.tmp 24) rfl bb (bo + k * 28) rfl Y _ HRX.out.2 Tryz.underlying35 rfl HSX.out.2 ?_) | ((with_reducible refine wpList_is (.store 35 (.tmp 9) (.tmp 25)) rfl ?_); refine wpList_store_row rfl 35 (.tmp 9) (.tmp 25) rfl W1.heap.size Y.toArray rfl rfl 35 _ HO1.out.2 HSY.out.2.1 HSY.out.2.2.2.2.2 HSY.out.2.2.2.1 ?_; rw [HS2.out]) | ((with_reducible refine wpList_at 27 rfl ?_); refine wpList_load_row_g (by rfl) 35 (.tmp 8) rfl wr.heap.size rfl 35 X.toArray (0, 0) _ HR2.out.1 Tryz.underlying35 rfl HSY.out.1 ?_) | ((with_reducible refine wpList_at 28 rfl ?_); refine wpList_load_row_g (by rfl) 35 (.tmp 9) rfl W1.heap.size rfl 35 Y.toArray (0, 0) _ HR2.out.2 Tryz.underlying35 rfl HSY.out.2.1 ?_))
      refine HON.out.mono ?_
      rintro e V1 ⟨rfl, hv1⟩
      have HV1 := Lib.hid (HB2.out.trans (hv1.mono HB2.out.size))
      clear hv1
      by_cases hxy : x.con = y.con
      · rw [tb_true hxy]
        have HXY := Lib.hid hxy
        clear hxy
        go_wp2_with fail
        go_roundw
        case rel => exact ⟨k + 1, by omega, by go_num, HSN.out.2 HXY.out, HV1.out⟩
        case measure => simp [intOf]; omega
      · rw [tb_false hxy]
        have HXY := Lib.hid hxy
        clear hxy
        go_wp2_with fail
        go_ret
        exact ⟨ret_no (fun q => HXY.out (HSN.out.1 (by rw [q]))), HV1.out⟩
    · obtain rfl : k = n := by omega
      have HE : Hid (us.map EvM.con = vs.map EvM.con) := Lib.hid (by
        have h := HR.out.1
        rwa [List.take_of_length_le (by rw [List.length_map]; have := HN.out.1; omega), List.take_of_length_le (by rw [List.length_map]; have := HN.out.2; omega)] at h)
      go_wp2_with fail
      go_ret
      exact ⟨ret_yes HE.out, HR.out.2⟩
set_option maxRecDepth 100000 in
theorem equal_any (w : World) (A C : Option Addr) (c d : Nat) (us vs : List EvM) (BA BB : Nat) (ha : EvsAt w BA A us) (hb : EvsAt w BB C vs) (hA : BA ≤ w.heap.size) (hB : BB ≤ w.heap.size) (hl : ∀ e ∈ us, ActL e.act) (hn : us.length ≤ 9223372036854775806) :
    Calls Tryz.prog 15 #[.slice A us.length c, .slice C vs.length d] w fun e w' => e = .returned (.bool (tb (us.map EvM.con = vs.map EvM.con))) ∧ Below w.heap.size w w' := by
  have HC := Lib.hid (equalF_any w A C c d us vs BA BB ha hb hA hB hl hn)
  clear ha hb hA hB hl hn
  go_enter Tryz.func15, Tryz.ntmps15
  go_wp2_with fail
  refine HC.out.mono ?_
  rintro e V ⟨rfl, hv⟩
  have HV := Lib.hid hv
  clear hv
  go_wp2_with fail
  go_ret
  exact ⟨rfl, HV.out⟩
end
section
open Go.RowKit Go.Maps
open Go.Lib (itoa)

def wakeA : EvM := ⟨3, 9, 1, 7, 2, 0, 0, 0, none, 0, [], ord0, sta0, kindM 0, none, 0, []⟩
def wakeS : Wd := [57, 32, 111, 119, 110, 101, 114, 32, 55, 32, 49, 32, 50]
theorem wakeA_text : evT wakeA.con = wakeS := by decide +kernel
theorem wakeA_ok : EvOk wakeA.con := ⟨by decide, by decide, (fun h => absurd h (by decide)), rfl⟩
def wakeB : EvC := { ev0 with kind := 7, tick := 9, n := 4, eterm := 2, ekind := 2, ebody := [30, 18] }
def wakeT : Wd := [57, 32, 97, 112, 112, 108, 105, 101, 100, 32, 48, 32, 52, 32, 50, 32, 50, 32, 61, 49, 101, 49, 50]
theorem wakeB_text : evT wakeB = wakeT := by decide +kernel
theorem wakeB_ok : EvOk wakeB := ⟨by decide, by decide, (fun h => absurd h (by decide)), rfl⟩
theorem wakeB_v : VEv wakeB := by
  refine ⟨⟨by decide, by decide, rfl⟩, fun f hf => ?_⟩
  have hf : f ∈ [0, 3, 5] := hf
  simp only [List.mem_cons, List.mem_nil_iff, or_false] at hf
  rcases hf with rfl | rfl | rfl
  · show Is64 0; decide
  · show Is64 4; decide
  · show Is64 2 ∧ Is64 2; decide
theorem wakeA_r : EvR wakeA.con :=
  ⟨by decide, by decide, by decide, by decide, by decide, by decide, by decide, by decide, by decide, by decide, by decide, (bd_kind (k := 0) is64_0).r⟩
set_option maxRecDepth 100000 in
set_option maxHeartbeats 8000000 in
theorem wakes_any (w : World) (hr : Ready w) : Calls Tryz.prog 8 #[] w fun e w' => e = .returned (.bool true) ∧ Below w.heap.size w w' := by
  obtain ⟨C, hC⟩ : ∃ C, C = (evCs wakeA).toArray := ⟨_, rfl⟩
  have hv : evV wakeA = .agg C := by rw [hC]; rfl
  have hbt : Tryz.prog.built 35 [(0, .int .i64 3), (1, .int .i64 9), (3, .int .i64 7), (2, .int .i64 1), (4, .int .i64 2)] = some C := by rw [hC]; rfl
  have HF := Lib.hid (fmtEv_any wakeA w hr ⟨Sl.empty, ⟨SrcsAt.empty, Sl.empty⟩, Sl.empty⟩ ⟨by decide, (fun s hs => by cases hs), by decide⟩ wakeA_r (by decide) (by decide))
  rw [hv] at HF
  have HR := Lib.hid hr
  clear hC hv hr
  go_enter Tryz.func8, Tryz.ntmps8
  go_wp2_with (refine wpList_build_to rfl 35 #[(0, .const (.int .i64 3)), (1, .const (.int .i64 9)), (3, .const (.int .i64 7)), (2, .const (.int .i64 1)), (4, .const (.int .i64 2))] rfl C (by rw [Array.toList_map]; exact hbt) ?_)
  refine HF.out.mono ?_
  rintro e W1 ⟨hf, hb1⟩
  have he : e = .returned (.tuple #[.string ⟨#[57, 32, 111, 119, 110, 101, 114, 32, 55, 32, 49, 32, 50]⟩, .int .i64 0]) := by
    show e = .returned (.tuple #[.string (bs wakeS), .int .i64 0])
    rcases hf with ⟨_, _, h⟩ | ⟨_, h, _⟩ | ⟨h, _⟩
    · rw [h, wakeA_text]
    · rw [wakeA_text] at h
      exact absurd h (by decide)
    · exact absurd wakeA_ok h
  subst he
  have HP := Lib.hid (parseEv_any wakeT W1 (HR.out.below hb1))
  have HB1 := Lib.hid hb1
  clear hf hb1 hbt
  go_wp2_with fail
  refine HP.out.mono ?_
  rintro e W2 (⟨a, _, hva, hta, _, he, ho, _, hb2⟩ | ⟨hno, _⟩)
  rotate_left
  · rcases hno with h | h
    · exact absurd h (by decide)
    · exact absurd wakeB_text.symm (h wakeB wakeB_v wakeB_ok)
  have hab : a.con = wakeB := evT_inj hva wakeB_v (hta.symm.trans wakeB_text.symm)
  obtain ⟨D, hD⟩ : ∃ D, D = (evCs a).toArray := ⟨_, rfl⟩
  have hvd : evV a = .agg D := by rw [hD]; rfl
  rw [hvd] at he
  subst he
  have hb5 := below_new W2 (.cells D 35)
  have hn : a.n = 4 := congrArg EvC.n hab
  have ht : a.eterm = 2 := congrArg EvC.eterm hab
  have hbd : a.ebody = [30, 18] := congrArg EvC.ebody hab
  have c5 : D[5]? = some (.int .i64 4) := by rw [hD, ← hn]; rfl
  have c6 : D[6]? = some (.int .i64 2) := by rw [hD, ← ht]; rfl
  have c8 : D[8]? = some (.slice a.eA 2 a.ec) := by
    have h : D[8]? = some (.slice a.eA a.ebody.length a.ec) := by rw [hD]; rfl
    rwa [hbd] at h
  have hszd : (Tryz.prog.info? 35).map (·.size) = some D.size := by rw [hD]; exact ev_size
  have honed : D.all (·.oneCell') = true := by rw [hD]; exact evCs_one a
  have hat := ((ho.next hb5).at).body
  rw [hbd] at hat
  have hcv : (convert 23 9 (.slice a.eA 2 a.ec)).run Tryz.prog (W2.alloc (.cells D 35)) = .ok (.string ⟨#[30, 18]⟩) (W2.alloc (.cells D 35)) := bytes_str hat a.ec
  have HB5 := Lib.hid (show Below w.heap.size w (W2.alloc (.cells D 35)) from HB1.out.trans ((hb2.trans (hb5.mono hb2.size)).mono HB1.out.size))
  have hoy := new_obj W2 (.cells #[.int .i64 0, .int .i64 0, .int .i64 0, .int .i64 0, .int .i64 0, .int .i64 0, .int .i64 0, .int .i64 0, .slice none 0 0, .int .i64 0, .int .i64 0, .int .i64 0, .int .i64 0, .int .i64 0, .int .i64 0, .int .i64 0, .int .i64 0, .int .i64 0, .int .i64 0, .int .i64 0, .int .i64 0, .int .i64 0, .int .i64 0, .int .i64 0, .int .i64 0, .slice none 0 0, .slice none 0 0, .slice none 0 0] 35)
  have hold : (#[.int .i64 0, .int .i64 0, .int .i64 0, .int .i64 0, .int .i64 0, .int .i64 0, .int .i64 0, .int .i64 0, .slice none 0 0, .int .i64 0, .int .i64 0, .int .i64 0, .int .i64 0, .int .i64 0, .int .i64 0, .int .i64 0, .int .i64 0, .int .i64 0, .int .i64 0, .int .i64 0, .int .i64 0, .int .i64 0, .int .i64 0, .int .i64 0, .int .i64 0, .slice none 0 0, .slice none 0 0, .slice none 0 0] : Array Value).size = D.size := by rw [hD]; rfl
  have hwz := World.setRow_alloc_new W2 #[.int .i64 0, .int .i64 0, .int .i64 0, .int .i64 0, .int .i64 0, .int .i64 0, .int .i64 0, .int .i64 0, .slice none 0 0, .int .i64 0, .int .i64 0, .int .i64 0, .int .i64 0, .int .i64 0, .int .i64 0, .int .i64 0, .int .i64 0, .int .i64 0, .int .i64 0, .int .i64 0, .int .i64 0, .int .i64 0, .int .i64 0, .int .i64 0, .int .i64 0, .slice none 0 0, .slice none 0 0, .slice none 0 0] D 35
  have HD := Lib.hid (And.intro hszd (And.intro honed (And.intro hold hwz)))
  clear hD hvd hab hn ht hbd hva hta ho hb2 hb5 hat hszd honed hold hwz
  go_wp2_with (refine wpList_store_row rfl 35 (.tmp 3) (.tmp 12) rfl W2.heap.size D rfl rfl 35 _ hoy HD.out.1 HD.out.2.2.1 HD.out.2.1 ?_; rw [HD.out.2.2.2])
  go_ret
  exact ⟨rfl, HB5.out⟩
end
section
open Go.RowKit Go.Maps

theorem wpList_buildSlice_g {P : Program} {ops : Array Oper} {rest : List Oper} {o : Oper} {a : Act} {w : World} {Q : Exit → Act → World → Prop} (hw : Region.wanted o (yielded ops a.tmps) = true) (t e : TypeId) (len : Nat) (parts : Array (Nat × Operand)) (ho : o.op = .buildSlice t len parts)
    (cells : Array Value) (ie : TypeInfo) (z : Value)
    (hu : P.underlying t = some (.slice e)) (hie : P.info? e = some ie) (hz : ie.zero = some z) (hsmall : ¬ len * ie.size > 2 ^ 24) (hpos : ¬ len * ie.size = 0)
    (hf : Instr.fill (fun i => some (i * ie.size, ie.size)) ((Array.range (len * ie.size)).map (z.cells[· % z.cells.size]!)) (parts.map fun (i, x) => (i, a.eval x)).toList = some cells)
    (h : wpList P ops Q rest (a.put o.dst (.slice (some ⟨w.heap.size, 0, none⟩) len len)) (w.alloc (.cells cells e))) : wpList P ops Q (o :: rest) a w :=
  BigFrame.wpList_want hw fun _ hK => wp_buildSlice t e len parts ho cells ie z hu hie hz hsmall hpos hf (hK _ _ h)
theorem evs_one {X : World} {b : Nat} {a : EvM} (h : X.heap[b]? = some (.cells (evCs a).toArray 35 (0, 0))) (hat : EvAt X X.heap.size a) : EvsAt X X.heap.size (some ⟨b, 0, none⟩) [a] := by
  refine ⟨fun j u hj => ⟨b, 0, rfl, (Array.getElem?_eq_some_iff.1 h).1, ?_⟩, fun e he => by rw [List.mem_singleton.1 he]; exact hat⟩
  rw [Lib.cell_of_heap h]
  simpa using hj
theorem FmtR.three {ok : Prop} {t : Wd} {e : Ending} (h : FmtR ok t e) : (ok ∧ t.length ≤ 65536 ∧ e = .returned (.tuple #[.string (bs t), .int .i64 0])) ∨ ∃ c : Int, c ≠ 0 ∧ e = .returned (.tuple #[.string ⟨#[]⟩, .int .i64 c]) := by
  rcases h with h | ⟨_, _, h⟩ | ⟨_, h⟩
  · exact .inl h
  · exact .inr ⟨3, by decide, h⟩
  · exact .inr ⟨1, by decide, h⟩
theorem FmtR.both {ok : Prop} {t : Wd} {e e' : Ending} (h : FmtR ok t e) (h' : FmtR ok t e') : e' = e := by
  rcases h with ⟨a, b, h⟩ | ⟨a, b, h⟩ | ⟨a, h⟩
  · rcases h' with ⟨a', b', h'⟩ | ⟨a', b', h'⟩ | ⟨a', h'⟩
    · rw [h, h']
    · omega
    · exact absurd a a'
  · rcases h' with ⟨a', b', h'⟩ | ⟨a', b', h'⟩ | ⟨a', h'⟩
    · omega
    · rw [h, h']
    · exact absurd a a'
  · rcases h' with ⟨a', b', h'⟩ | ⟨a', b', h'⟩ | ⟨a', h'⟩
    · exact absurd a' a
    · exact absurd a' a
    · rw [h, h']
set_option maxRecDepth 100000 in
set_option maxHeartbeats 16000000 in
theorem evFormat_any (w : World) (hr : Ready w) (a : EvM) (hat : EvAt w w.heap.size a) (wf : EvWf 1048576 a) : Calls Tryz.prog 4 #[evV a] w fun e w' => e = .returned (.bool true) ∧ Below w.heap.size w w' := by
  obtain ⟨C, hC⟩ : ∃ C, C = (evCs a).toArray := ⟨_, rfl⟩
  have hv : evV a = .agg C := by rw [hC]; rfl
  have HC := Lib.hid (And.intro (show (Tryz.prog.info? 35).map (·.size) = some C.size by rw [hC]; exact ev_size) (And.intro (show C.size = 28 by rw [hC]; rfl) hC))
  have HIE : Hid (∃ ie, Tryz.prog.info? 35 = some ie ∧ ie.zero = some (.agg #[.int .i64 0, .int .i64 0, .int .i64 0, .int .i64 0, .int .i64 0, .int .i64 0, .int .i64 0, .int .i64 0, .slice none 0 0, .int .i64 0, .int .i64 0, .int .i64 0, .int .i64 0, .int .i64 0, .int .i64 0, .int .i64 0, .int .i64 0, .int .i64 0, .int .i64 0, .int .i64 0, .int .i64 0, .int .i64 0, .int .i64 0, .int .i64 0, .int .i64 0, .slice none 0 0, .slice none 0 0, .slice none 0 0]) ∧ ie.size = 28) := Lib.hid (by
    obtain ⟨ie, h1, h2, h3, _⟩ := info_parts ev_info
    exact ⟨ie, h1, h2, h3⟩)
  have hfc := fill_ev C HC.out.2.1 (.agg #[.int .i64 0, .int .i64 0, .int .i64 0, .int .i64 0, .int .i64 0, .int .i64 0, .int .i64 0, .int .i64 0, .slice none 0 0, .int .i64 0, .int .i64 0, .int .i64 0, .int .i64 0, .int .i64 0, .int .i64 0, .int .i64 0, .int .i64 0, .int .i64 0, .int .i64 0, .int .i64 0, .int .i64 0, .int .i64 0, .int .i64 0, .int .i64 0, .int .i64 0, .slice none 0 0, .slice none 0 0, .slice none 0 0])
  obtain ⟨X0, hX0⟩ : ∃ X0, X0 = w.alloc (.cells C 35) := ⟨_, rfl⟩
  have hb0 : Below w.heap.size w X0 := by rw [hX0]; exact below_new _ _
  have hrow0 : X0.heap[w.heap.size]? = some (.cells C 35 (0, 0)) := by rw [hX0]; exact new_obj _ _
  have HROW := Lib.hid (show ∀ X : World, Below X0.heap.size X0 X → X.heap[w.heap.size]? = some (.cells C 35 (0, 0)) from fun X h => (h.block w.heap.size (Array.getElem?_eq_some_iff.1 hrow0).1).trans hrow0)
  have HAT := Lib.hid (show ∀ X : World, Below X0.heap.size X0 X → EvAt X X.heap.size a from fun X h => (hat.below (hb0.trans (h.mono hb0.size))).more (hb0.trans (h.mono hb0.size)).size)
  have HRD := Lib.hid (show ∀ X : World, Below X0.heap.size X0 X → Ready X from fun X h => hr.below (hb0.trans (h.mono hb0.size)))
  have HW := Lib.hid (And.intro wf hb0)
  have HVV := Lib.hid hv
  have HWK := Lib.hid (wakes_any X0 (HRD.out X0 (Below.refl _ _)))
  rw [hv]
  clear hC hv hb0 hrow0 hat wf hr
  go_enter Tryz.func4, Tryz.ntmps4
  go_wp2_with fail
  rw [← hX0]
  clear hX0
  refine HWK.out.mono ?_
  rintro e X1 ⟨rfl, hb⟩
  have HX1 := Lib.hid hb
  obtain ⟨X2, hX2⟩ : ∃ X, X = X1.alloc (.cells C 35) := ⟨_, rfl⟩
  have hb2 : Below X1.heap.size X1 X2 := by rw [hX2]; exact below_new _ _
  have HX2 := Lib.hid (HX1.out.trans (hb2.mono HX1.out.size))
  have HFW := Lib.hid (few_any X2 (some ⟨X1.heap.size, 0, none⟩) 1 [a] 1 (evs_one (by rw [hX2, HC.out.2.2]; exact new_obj _ _) (HAT.out X2 HX2.out)) (fun e he => by rw [List.mem_singleton.1 he]; exact HW.out.1) (by simp))
  have hrow1 := HROW.out X1 hb
  clear hb hb2 HWK
  go_wp2_with (first | ((with_reducible refine wpList_at 11 rfl ?_); refine wpList_load_row_g (by rfl) 35 (.tmp 1) rfl w.heap.size rfl 35 C (0, 0) _ hrow1 Tryz.underlying35 rfl HC.out.1 ?_) | ((with_reducible refine wpList_at 12 rfl ?_); refine wpList_buildSlice_g rfl 44 35 1 #[(0, .tmp 11)] rfl C HIE.out.choose _ Tryz.underlying44 HIE.out.choose_spec.1 HIE.out.choose_spec.2.1 (by rw [HIE.out.choose_spec.2.2]; decide) (by rw [HIE.out.choose_spec.2.2]; decide) (by rw [HIE.out.choose_spec.2.2, Array.toList_map]; exact hfc) ?_))
  rw [← hX2]
  clear hX2 hrow1
  refine HFW.out.mono ?_
  rintro e X3 ⟨⟨few, rfl, hfew⟩, hb⟩
  have HX3 := Lib.hid (HX2.out.trans (hb.mono HX2.out.size))
  clear hb HFW
  cases few with
  | false =>
    clear hfew
    go_wp2_with fail
    go_ret
    exact ⟨rfl, HW.out.2.trans (HX3.out.mono HW.out.2.size)⟩
  | true =>
  have HES : Hid (EvS a) := Lib.hid (by
    obtain ⟨h1, h2, h3⟩ := (hfew rfl).2 a (by simp)
    exact ⟨HW.out.1.r (Nat.le_trans h1 (by decide)) (Nat.le_trans h2 (by decide)), HW.out.1.act.l (by decide), Nat.le_trans h1 (by decide), Nat.le_trans h2 (by decide)⟩)
  clear hfew
  have HF := Lib.hid (fmtEv_any a X3 (HRD.out X3 HX3.out) (HAT.out X3 HX3.out) HES.out.l HES.out.r HES.out.sz HES.out.bl)
  rw [HVV.out] at HF
  have hrow3 := HROW.out X3 HX3.out
  go_wp2_with ((with_reducible refine wpList_at 16 rfl ?_); refine wpList_load_row_g (by rfl) 35 (.tmp 1) rfl w.heap.size rfl 35 C (0, 0) _ hrow3 Tryz.underlying35 rfl HC.out.1 ?_)
  refine HF.out.mono ?_
  rintro e X4 ⟨hf, hb⟩
  have HX4 := Lib.hid (HX3.out.trans (hb.mono HX3.out.size))
  have HA := Lib.hid (text51_any a X4 (HAT.out X4 HX4.out) HES.out.l HES.out.r HES.out.sz HES.out.bl)
  rw [HVV.out] at HA
  have HFF := Lib.hid hf
  have hrow4 := HROW.out X4 HX4.out
  clear hb hrow3 HF hf
  rcases HFF.out.three with ⟨hok, hlen, rfl⟩ | ⟨cc, hcc, rfl⟩
  · have HOK := Lib.hid (And.intro hok hlen)
    obtain ⟨t, ht⟩ : ∃ t, t = evT a.con := ⟨_, rfl⟩
    rw [← ht] at HFF HA HOK ⊢
    have HT := Lib.hid ht
    obtain ⟨S1, hS1⟩ : ∃ S, S = bs t := ⟨_, rfl⟩
    rw [← hS1] at HFF ⊢
    have HS1 := Lib.hid hS1
    clear hok hlen ht hS1
    go_wp2_with ((with_reducible refine wpList_at 21 rfl ?_); refine wpList_load_row_g (by rfl) 35 (.tmp 1) rfl w.heap.size rfl 35 C (0, 0) _ hrow4 Tryz.underlying35 rfl HC.out.1 ?_)
    refine HA.out.mono ?_
    rintro e X5 ⟨hf, hb⟩
    have HX5 := Lib.hid (HX4.out.trans (hb.mono HX4.out.size))
    have he := HFF.out.both hf
    subst he
    have HP := Lib.hid (parseEv_any t X5 (HRD.out X5 HX5.out))
    rw [← HS1.out] at HP
    clear hb hf hrow4 HA
    go_wp2_with fail
    refine HP.out.mono ?_
    rintro e X6 hret
    obtain ⟨b, c1, rfl, hatb, hsb, hb, hrd⟩ := retPe_uni hret
    have HX6 := Lib.hid (HX5.out.trans (hb.mono HX5.out.size))
    have hva : VEv a.con := HES.out.r.vev HOK.out.1
    obtain ⟨hc1, hcon⟩ : c1 = 0 ∧ a.con = b.con := by
      have h := ReadE.same (s := t) (a := a) (c := 0) (.inl ⟨rfl, HOK.out.1, hva, HT.out, HOK.out.2⟩) hrd
      exact h
    subst hc1
    obtain ⟨D, hD⟩ : ∃ D, D = (evCs b).toArray := ⟨_, rfl⟩
    have hvb : evV b = .agg D := by rw [hD]; rfl
    have HD := Lib.hid (And.intro (show (Tryz.prog.info? 35).map (·.size) = some D.size by rw [hD]; exact ev_size) (And.intro (show D.size = 28 by rw [hD]; rfl) (And.intro hD (And.intro (show D.all (·.oneCell') = true by rw [hD]; exact evCs_one _) (show (#[.int .i64 0, .int .i64 0, .int .i64 0, .int .i64 0, .int .i64 0, .int .i64 0, .int .i64 0, .int .i64 0, .slice none 0 0, .int .i64 0, .int .i64 0, .int .i64 0, .int .i64 0, .int .i64 0, .int .i64 0, .int .i64 0, .int .i64 0, .int .i64 0, .int .i64 0, .int .i64 0, .int .i64 0, .int .i64 0, .int .i64 0, .int .i64 0, .int .i64 0, .slice none 0 0, .slice none 0 0, .slice none 0 0] : Array Value).size = D.size by rw [hD]; rfl)))))
    have hfd := fill_ev D HD.out.2.1 (.agg #[.int .i64 0, .int .i64 0, .int .i64 0, .int .i64 0, .int .i64 0, .int .i64 0, .int .i64 0, .int .i64 0, .slice none 0 0, .int .i64 0, .int .i64 0, .int .i64 0, .int .i64 0, .int .i64 0, .int .i64 0, .int .i64 0, .int .i64 0, .int .i64 0, .int .i64 0, .int .i64 0, .int .i64 0, .int .i64 0, .int .i64 0, .int .i64 0, .int .i64 0, .slice none 0 0, .slice none 0 0, .slice none 0 0])
    have hoyd := new_obj X6 (.cells #[.int .i64 0, .int .i64 0, .int .i64 0, .int .i64 0, .int .i64 0, .int .i64 0, .int .i64 0, .int .i64 0, .slice none 0 0, .int .i64 0, .int .i64 0, .int .i64 0, .int .i64 0, .int .i64 0, .int .i64 0, .int .i64 0, .int .i64 0, .int .i64 0, .int .i64 0, .int .i64 0, .int .i64 0, .int .i64 0, .int .i64 0, .int .i64 0, .int .i64 0, .slice none 0 0, .slice none 0 0, .slice none 0 0] 35)
    have hsrd := World.setRow_alloc_new X6 #[.int .i64 0, .int .i64 0, .int .i64 0, .int .i64 0, .int .i64 0, .int .i64 0, .int .i64 0, .int .i64 0, .slice none 0 0, .int .i64 0, .int .i64 0, .int .i64 0, .int .i64 0, .int .i64 0, .int .i64 0, .int .i64 0, .int .i64 0, .int .i64 0, .int .i64 0, .int .i64 0, .int .i64 0, .int .i64 0, .int .i64 0, .int .i64 0, .int .i64 0, .slice none 0 0, .slice none 0 0, .slice none 0 0] D 35
    obtain ⟨X7, hX7⟩ : ∃ Z, Z = X6.alloc (.cells D 35) := ⟨_, rfl⟩
    have hb7 : Below X6.heap.size X6 X7 := by rw [hX7]; exact below_new _ _
    have hrwd : X7.heap[X6.heap.size]? = some (.cells D 35 (0, 0)) := by rw [hX7]; exact new_obj _ _
    have HX7 := Lib.hid (HX6.out.trans (hb7.mono HX6.out.size))
    have hrow7 := HROW.out X7 HX7.out
    have HON := Lib.hid (one_any b a X7 X7.heap.size X7.heap.size (hatb.next hb7) (HAT.out X7 HX7.out) (Nat.le_refl _) (Nat.le_refl _) hsb.l)
    unfold RetOne at HON
    rw [tb_true hcon.symm, HVV.out, hvb] at HON
    have HB := Lib.hid (And.intro (show EvAt X7 X7.heap.size b from hatb.next hb7) (And.intro hsb (And.intro hcon hrwd)))
    rw [← hX7] at hsrd
    rw [hvb]
    clear hret hatb hsb hb hrd hva hcon hD hvb hX7 hb7 HP
    go_wp2_with (first | (refine wpList_store_row rfl 35 (.tmp 7) (.tmp 40) rfl X6.heap.size D rfl rfl 35 _ hoyd HD.out.1 HD.out.2.2.2.2 HD.out.2.2.2.1 ?_; rw [hsrd]) | ((with_reducible refine wpList_at 45 rfl ?_); refine wpList_load_row_g (by rfl) 35 (.tmp 7) rfl X6.heap.size rfl 35 D (0, 0) _ hrwd Tryz.underlying35 rfl HD.out.1 ?_) | ((with_reducible refine wpList_at 46 rfl ?_); refine wpList_load_row_g (by rfl) 35 (.tmp 1) rfl w.heap.size rfl 35 C (0, 0) _ hrow7 Tryz.underlying35 rfl HC.out.1 ?_))
    clear hoyd hsrd hrwd hrow7
    refine HON.out.mono ?_
    rintro e X8 ⟨rfl, hb⟩
    have HX8 := Lib.hid (HX7.out.trans (hb.mono HX7.out.size))
    have hrow8 := HROW.out X8 HX8.out
    have hrwd : X8.heap[X6.heap.size]? = some (.cells D 35 (0, 0)) := (hb.block X6.heap.size (Array.getElem?_eq_some_iff.1 HB.out.2.2.2).1).trans HB.out.2.2.2
    obtain ⟨X9, hX9⟩ : ∃ Z, Z = X8.alloc (.cells D 35) := ⟨_, rfl⟩
    have hb9 : Below X8.heap.size X8 X9 := by rw [hX9]; exact below_new _ _
    have hs9 : X9.heap.size = X8.heap.size + 1 := by rw [hX9]; simp
    have HX9 := Lib.hid (HX8.out.trans (hb9.mono HX8.out.size))
    have hrow9 := HROW.out X9 HX9.out
    obtain ⟨Y, hY⟩ : ∃ Z, Z = X9.alloc (.cells C 35) := ⟨_, rfl⟩
    have hb10 : Below X9.heap.size X9 Y := by rw [hY]; exact below_new _ _
    have HY := Lib.hid (HX9.out.trans (hb10.mono HX9.out.size))
    have h89 : Below X8.heap.size X8 Y := hb9.trans (hb10.mono hb9.size)
    have hr8 : Y.heap[X8.heap.size]? = some (.cells (evCs b).toArray 35 (0, 0)) := by
      rw [hb10.block X8.heap.size (by rw [hs9]; exact Nat.lt_succ_self _), hX9, HD.out.2.2.1]
      exact new_obj _ _
    have hr9 : Y.heap[X9.heap.size]? = some (.cells (evCs a).toArray 35 (0, 0)) := by
      rw [hY, HC.out.2.2]
      exact new_obj _ _
    have HEQ := Lib.hid (equal_any Y (some ⟨X8.heap.size, 0, none⟩) (some ⟨X9.heap.size, 0, none⟩) 1 1 [b] [a] Y.heap.size Y.heap.size (evs_one hr8 ((HB.out.1.next hb).next h89)) (evs_one hr9 (HAT.out Y HY.out)) (Nat.le_refl _) (Nat.le_refl _) (fun e he => by rw [List.mem_singleton.1 he]; exact HB.out.2.1.l) (by simp))
    rw [tb_true (show [b].map EvM.con = [a].map EvM.con by simp [HB.out.2.2.1])] at HEQ
    have HEND := Lib.hid (HW.out.2.trans (HY.out.mono HW.out.2.size))
    have HQ := Lib.hid (And.intro hX9 (And.intro hs9 hY))
    clear hb hb9 hs9 hb10 h89 hr8 hr9 HON
    go_wp2_with (first | ((with_reducible refine wpList_at 50 rfl ?_); refine wpList_load_row_g (by rfl) 35 (.tmp 7) rfl X6.heap.size rfl 35 D (0, 0) _ hrwd Tryz.underlying35 rfl HD.out.1 ?_) | (((with_reducible refine wpList_at 51 rfl ?_); refine wpList_buildSlice_g rfl 44 35 1 #[(0, .tmp 50)] rfl D HIE.out.choose _ Tryz.underlying44 HIE.out.choose_spec.1 HIE.out.choose_spec.2.1 (by rw [HIE.out.choose_spec.2.2]; decide) (by rw [HIE.out.choose_spec.2.2]; decide) (by rw [HIE.out.choose_spec.2.2, Array.toList_map]; exact hfd) ?_); rw [← hX9]) | ((with_reducible refine wpList_at 52 rfl ?_); refine wpList_load_row_g (by rfl) 35 (.tmp 1) rfl w.heap.size rfl 35 C (0, 0) _ hrow9 Tryz.underlying35 rfl HC.out.1 ?_) | (((with_reducible refine wpList_at 53 rfl ?_); refine wpList_buildSlice_g rfl 44 35 1 #[(0, .tmp 52)] rfl C HIE.out.choose _ Tryz.underlying44 HIE.out.choose_spec.1 HIE.out.choose_spec.2.1 (by rw [HIE.out.choose_spec.2.2]; decide) (by rw [HIE.out.choose_spec.2.2]; decide) (by rw [HIE.out.choose_spec.2.2, Array.toList_map]; exact hfc) ?_); rw [← hY]))
    clear hrwd hrow8 hrow9 hX9 hY
    rw [← HQ.out.1, ← HQ.out.2.1, ← HQ.out.2.2]
    refine HEQ.out.mono ?_
    rintro e Y2 ⟨rfl, hb⟩
    have HY2 := Lib.hid hb
    clear hb HEQ
    go_wp2_with fail
    go_ret
    exact ⟨rfl, HEND.out.trans (HY2.out.mono HEND.out.size)⟩
  · have e1 : (cc == 0) = false := by simpa using hcc
    have e2 : (cc != 0) = true := by simpa using hcc
    clear hcc
    go_wp2_with ((with_reducible refine wpList_at 21 rfl ?_); refine wpList_load_row_g (by rfl) 35 (.tmp 1) rfl w.heap.size rfl 35 C (0, 0) _ hrow4 Tryz.underlying35 rfl HC.out.1 ?_)
    refine HA.out.mono ?_
    rintro e X5 ⟨hf, hb⟩
    have HX5 := Lib.hid (HX4.out.trans (hb.mono HX4.out.size))
    have he := HFF.out.both hf
    subst he
    clear hb hf hrow4 HA
    go_wp2_with fail
    go_ret
    exact ⟨rfl, HW.out.2.trans (HX5.out.mono HW.out.2.size)⟩
end
end Go.Proofs.YtakdkiggaalimaaGreatDoor
