/-
  What ConfigParameters wants: the configurations that differ from the default in one parameter; the reference's Set; Parse at their texts (printed by genprm6.py).
-/
import Derived.Test.YtloacoalmfaceaaGreatDoorOpn6
namespace Go.Proofs.YtloacoalmfaceaaGreatDoor
open Go.RowKit Go.Maps Go.Shelf

def parX (b k : Nat) (n : Int) : Cfg := ⟨1, some ⟨b, 0, none⟩, [0], 1, none, [], 0, none, [], 0, none, [], 0, defPs.set k n⟩
theorem cfg_size15 : (Tryz.prog.info? 27).map (·.size) = some 15 := by kernel_rfl
set_option maxRecDepth 100000 in
theorem refSet_0 (b : Nat) (n : Int) (w : World) : Calls Tryz.prog 17 #[.agg #[.int .i64 1, .slice (some ⟨b, 0, none⟩) 1 1, .slice none 0 0, .slice none 0 0, .slice none 0 0, .int .i64 2, .int .i64 10, .int .i64 12, .int .i64 20, .int .i64 30, .int .i64 4, .int .i64 10, .int .i64 50, .int .i64 1, .int .i64 8], .int .i64 0, .int .i64 n] w fun e w' => e = .returned (.agg #[.int .i64 1, .slice (some ⟨b, 0, none⟩) 1 1, .slice none 0 0, .slice none 0 0, .slice none 0 0, .int .i64 n, .int .i64 10, .int .i64 12, .int .i64 20, .int .i64 30, .int .i64 4, .int .i64 10, .int .i64 50, .int .i64 1, .int .i64 8]) ∧ Below w.heap.size w w' := by
  go_enter Tryz.func17, Tryz.ntmps17
  go_wp2_with fail
  exact bodyPost_ret (results_cell_row Tryz.results17 _ _ (w.heap.size + 1) 27 _ (0, 0) _ (by rfl) (heap_alloc2_new w _ _) Tryz.underlying27 rfl cfg_size15) rfl ⟨rfl, ((Below.refl _ _).alloc (Nat.le_refl _) _).alloc (by simp) _⟩
set_option maxRecDepth 100000 in
theorem refSet_1 (b : Nat) (n : Int) (w : World) : Calls Tryz.prog 17 #[.agg #[.int .i64 1, .slice (some ⟨b, 0, none⟩) 1 1, .slice none 0 0, .slice none 0 0, .slice none 0 0, .int .i64 2, .int .i64 10, .int .i64 12, .int .i64 20, .int .i64 30, .int .i64 4, .int .i64 10, .int .i64 50, .int .i64 1, .int .i64 8], .int .i64 1, .int .i64 n] w fun e w' => e = .returned (.agg #[.int .i64 1, .slice (some ⟨b, 0, none⟩) 1 1, .slice none 0 0, .slice none 0 0, .slice none 0 0, .int .i64 2, .int .i64 n, .int .i64 12, .int .i64 20, .int .i64 30, .int .i64 4, .int .i64 10, .int .i64 50, .int .i64 1, .int .i64 8]) ∧ Below w.heap.size w w' := by
  go_enter Tryz.func17, Tryz.ntmps17
  go_wp2_with fail
  exact bodyPost_ret (results_cell_row Tryz.results17 _ _ (w.heap.size + 1) 27 _ (0, 0) _ (by rfl) (heap_alloc2_new w _ _) Tryz.underlying27 rfl cfg_size15) rfl ⟨rfl, ((Below.refl _ _).alloc (Nat.le_refl _) _).alloc (by simp) _⟩
set_option maxRecDepth 100000 in
theorem refSet_2 (b : Nat) (n : Int) (w : World) : Calls Tryz.prog 17 #[.agg #[.int .i64 1, .slice (some ⟨b, 0, none⟩) 1 1, .slice none 0 0, .slice none 0 0, .slice none 0 0, .int .i64 2, .int .i64 10, .int .i64 12, .int .i64 20, .int .i64 30, .int .i64 4, .int .i64 10, .int .i64 50, .int .i64 1, .int .i64 8], .int .i64 2, .int .i64 n] w fun e w' => e = .returned (.agg #[.int .i64 1, .slice (some ⟨b, 0, none⟩) 1 1, .slice none 0 0, .slice none 0 0, .slice none 0 0, .int .i64 2, .int .i64 10, .int .i64 n, .int .i64 20, .int .i64 30, .int .i64 4, .int .i64 10, .int .i64 50, .int .i64 1, .int .i64 8]) ∧ Below w.heap.size w w' := by
  go_enter Tryz.func17, Tryz.ntmps17
  go_wp2_with fail
  exact bodyPost_ret (results_cell_row Tryz.results17 _ _ (w.heap.size + 1) 27 _ (0, 0) _ (by rfl) (heap_alloc2_new w _ _) Tryz.underlying27 rfl cfg_size15) rfl ⟨rfl, ((Below.refl _ _).alloc (Nat.le_refl _) _).alloc (by simp) _⟩
set_option maxRecDepth 100000 in
theorem refSet_3 (b : Nat) (n : Int) (w : World) : Calls Tryz.prog 17 #[.agg #[.int .i64 1, .slice (some ⟨b, 0, none⟩) 1 1, .slice none 0 0, .slice none 0 0, .slice none 0 0, .int .i64 2, .int .i64 10, .int .i64 12, .int .i64 20, .int .i64 30, .int .i64 4, .int .i64 10, .int .i64 50, .int .i64 1, .int .i64 8], .int .i64 3, .int .i64 n] w fun e w' => e = .returned (.agg #[.int .i64 1, .slice (some ⟨b, 0, none⟩) 1 1, .slice none 0 0, .slice none 0 0, .slice none 0 0, .int .i64 2, .int .i64 10, .int .i64 12, .int .i64 n, .int .i64 30, .int .i64 4, .int .i64 10, .int .i64 50, .int .i64 1, .int .i64 8]) ∧ Below w.heap.size w w' := by
  go_enter Tryz.func17, Tryz.ntmps17
  go_wp2_with fail
  exact bodyPost_ret (results_cell_row Tryz.results17 _ _ (w.heap.size + 1) 27 _ (0, 0) _ (by rfl) (heap_alloc2_new w _ _) Tryz.underlying27 rfl cfg_size15) rfl ⟨rfl, ((Below.refl _ _).alloc (Nat.le_refl _) _).alloc (by simp) _⟩
set_option maxRecDepth 100000 in
theorem refSet_4 (b : Nat) (n : Int) (w : World) : Calls Tryz.prog 17 #[.agg #[.int .i64 1, .slice (some ⟨b, 0, none⟩) 1 1, .slice none 0 0, .slice none 0 0, .slice none 0 0, .int .i64 2, .int .i64 10, .int .i64 12, .int .i64 20, .int .i64 30, .int .i64 4, .int .i64 10, .int .i64 50, .int .i64 1, .int .i64 8], .int .i64 4, .int .i64 n] w fun e w' => e = .returned (.agg #[.int .i64 1, .slice (some ⟨b, 0, none⟩) 1 1, .slice none 0 0, .slice none 0 0, .slice none 0 0, .int .i64 2, .int .i64 10, .int .i64 12, .int .i64 20, .int .i64 n, .int .i64 4, .int .i64 10, .int .i64 50, .int .i64 1, .int .i64 8]) ∧ Below w.heap.size w w' := by
  go_enter Tryz.func17, Tryz.ntmps17
  go_wp2_with fail
  exact bodyPost_ret (results_cell_row Tryz.results17 _ _ (w.heap.size + 1) 27 _ (0, 0) _ (by rfl) (heap_alloc2_new w _ _) Tryz.underlying27 rfl cfg_size15) rfl ⟨rfl, ((Below.refl _ _).alloc (Nat.le_refl _) _).alloc (by simp) _⟩
set_option maxRecDepth 100000 in
theorem refSet_5 (b : Nat) (n : Int) (w : World) : Calls Tryz.prog 17 #[.agg #[.int .i64 1, .slice (some ⟨b, 0, none⟩) 1 1, .slice none 0 0, .slice none 0 0, .slice none 0 0, .int .i64 2, .int .i64 10, .int .i64 12, .int .i64 20, .int .i64 30, .int .i64 4, .int .i64 10, .int .i64 50, .int .i64 1, .int .i64 8], .int .i64 5, .int .i64 n] w fun e w' => e = .returned (.agg #[.int .i64 1, .slice (some ⟨b, 0, none⟩) 1 1, .slice none 0 0, .slice none 0 0, .slice none 0 0, .int .i64 2, .int .i64 10, .int .i64 12, .int .i64 20, .int .i64 30, .int .i64 n, .int .i64 10, .int .i64 50, .int .i64 1, .int .i64 8]) ∧ Below w.heap.size w w' := by
  go_enter Tryz.func17, Tryz.ntmps17
  go_wp2_with fail
  exact bodyPost_ret (results_cell_row Tryz.results17 _ _ (w.heap.size + 1) 27 _ (0, 0) _ (by rfl) (heap_alloc2_new w _ _) Tryz.underlying27 rfl cfg_size15) rfl ⟨rfl, ((Below.refl _ _).alloc (Nat.le_refl _) _).alloc (by simp) _⟩
set_option maxRecDepth 100000 in
theorem refSet_6 (b : Nat) (n : Int) (w : World) : Calls Tryz.prog 17 #[.agg #[.int .i64 1, .slice (some ⟨b, 0, none⟩) 1 1, .slice none 0 0, .slice none 0 0, .slice none 0 0, .int .i64 2, .int .i64 10, .int .i64 12, .int .i64 20, .int .i64 30, .int .i64 4, .int .i64 10, .int .i64 50, .int .i64 1, .int .i64 8], .int .i64 6, .int .i64 n] w fun e w' => e = .returned (.agg #[.int .i64 1, .slice (some ⟨b, 0, none⟩) 1 1, .slice none 0 0, .slice none 0 0, .slice none 0 0, .int .i64 2, .int .i64 10, .int .i64 12, .int .i64 20, .int .i64 30, .int .i64 4, .int .i64 n, .int .i64 50, .int .i64 1, .int .i64 8]) ∧ Below w.heap.size w w' := by
  go_enter Tryz.func17, Tryz.ntmps17
  go_wp2_with fail
  exact bodyPost_ret (results_cell_row Tryz.results17 _ _ (w.heap.size + 1) 27 _ (0, 0) _ (by rfl) (heap_alloc2_new w _ _) Tryz.underlying27 rfl cfg_size15) rfl ⟨rfl, ((Below.refl _ _).alloc (Nat.le_refl _) _).alloc (by simp) _⟩
set_option maxRecDepth 100000 in
theorem refSet_7 (b : Nat) (n : Int) (w : World) : Calls Tryz.prog 17 #[.agg #[.int .i64 1, .slice (some ⟨b, 0, none⟩) 1 1, .slice none 0 0, .slice none 0 0, .slice none 0 0, .int .i64 2, .int .i64 10, .int .i64 12, .int .i64 20, .int .i64 30, .int .i64 4, .int .i64 10, .int .i64 50, .int .i64 1, .int .i64 8], .int .i64 7, .int .i64 n] w fun e w' => e = .returned (.agg #[.int .i64 1, .slice (some ⟨b, 0, none⟩) 1 1, .slice none 0 0, .slice none 0 0, .slice none 0 0, .int .i64 2, .int .i64 10, .int .i64 12, .int .i64 20, .int .i64 30, .int .i64 4, .int .i64 10, .int .i64 n, .int .i64 1, .int .i64 8]) ∧ Below w.heap.size w w' := by
  go_enter Tryz.func17, Tryz.ntmps17
  go_wp2_with fail
  exact bodyPost_ret (results_cell_row Tryz.results17 _ _ (w.heap.size + 1) 27 _ (0, 0) _ (by rfl) (heap_alloc2_new w _ _) Tryz.underlying27 rfl cfg_size15) rfl ⟨rfl, ((Below.refl _ _).alloc (Nat.le_refl _) _).alloc (by simp) _⟩
set_option maxRecDepth 100000 in
theorem refSet_8 (b : Nat) (n : Int) (w : World) : Calls Tryz.prog 17 #[.agg #[.int .i64 1, .slice (some ⟨b, 0, none⟩) 1 1, .slice none 0 0, .slice none 0 0, .slice none 0 0, .int .i64 2, .int .i64 10, .int .i64 12, .int .i64 20, .int .i64 30, .int .i64 4, .int .i64 10, .int .i64 50, .int .i64 1, .int .i64 8], .int .i64 8, .int .i64 n] w fun e w' => e = .returned (.agg #[.int .i64 1, .slice (some ⟨b, 0, none⟩) 1 1, .slice none 0 0, .slice none 0 0, .slice none 0 0, .int .i64 2, .int .i64 10, .int .i64 12, .int .i64 20, .int .i64 30, .int .i64 4, .int .i64 10, .int .i64 50, .int .i64 n, .int .i64 8]) ∧ Below w.heap.size w w' := by
  go_enter Tryz.func17, Tryz.ntmps17
  go_wp2_with fail
  exact bodyPost_ret (results_cell_row Tryz.results17 _ _ (w.heap.size + 1) 27 _ (0, 0) _ (by rfl) (heap_alloc2_new w _ _) Tryz.underlying27 rfl cfg_size15) rfl ⟨rfl, ((Below.refl _ _).alloc (Nat.le_refl _) _).alloc (by simp) _⟩
set_option maxRecDepth 100000 in
theorem refSet_9 (b : Nat) (n : Int) (w : World) : Calls Tryz.prog 17 #[.agg #[.int .i64 1, .slice (some ⟨b, 0, none⟩) 1 1, .slice none 0 0, .slice none 0 0, .slice none 0 0, .int .i64 2, .int .i64 10, .int .i64 12, .int .i64 20, .int .i64 30, .int .i64 4, .int .i64 10, .int .i64 50, .int .i64 1, .int .i64 8], .int .i64 9, .int .i64 n] w fun e w' => e = .returned (.agg #[.int .i64 1, .slice (some ⟨b, 0, none⟩) 1 1, .slice none 0 0, .slice none 0 0, .slice none 0 0, .int .i64 2, .int .i64 10, .int .i64 12, .int .i64 20, .int .i64 30, .int .i64 4, .int .i64 10, .int .i64 50, .int .i64 1, .int .i64 n]) ∧ Below w.heap.size w w' := by
  go_enter Tryz.func17, Tryz.ntmps17
  go_wp2_with fail
  exact bodyPost_ret (results_cell_row Tryz.results17 _ _ (w.heap.size + 1) 27 _ (0, 0) _ (by rfl) (heap_alloc2_new w _ _) Tryz.underlying27 rfl cfg_size15) rfl ⟨rfl, ((Below.refl _ _).alloc (Nat.le_refl _) _).alloc (by simp) _⟩
theorem refSet_any (b k : Nat) (hk : k < 10) (n : Int) (w : World) : Calls Tryz.prog 17 #[.agg #[.int .i64 1, .slice (some ⟨b, 0, none⟩) 1 1, .slice none 0 0, .slice none 0 0, .slice none 0 0, .int .i64 2, .int .i64 10, .int .i64 12, .int .i64 20, .int .i64 30, .int .i64 4, .int .i64 10, .int .i64 50, .int .i64 1, .int .i64 8], .int .i64 (k : Int), .int .i64 n] w fun e w' => e = .returned (.agg (parX b k n).cells.toArray) ∧ Below w.heap.size w w' :=
  ten_cases (P := fun k => Calls Tryz.prog 17 #[.agg #[.int .i64 1, .slice (some ⟨b, 0, none⟩) 1 1, .slice none 0 0, .slice none 0 0, .slice none 0 0, .int .i64 2, .int .i64 10, .int .i64 12, .int .i64 20, .int .i64 30, .int .i64 4, .int .i64 10, .int .i64 50, .int .i64 1, .int .i64 8], .int .i64 (k : Int), .int .i64 n] w fun e w' => e = .returned (.agg (parX b k n).cells.toArray) ∧ Below w.heap.size w w') (refSet_0 b n w) (refSet_1 b n w) (refSet_2 b n w) (refSet_3 b n w) (refSet_4 b n w) (refSet_5 b n w) (refSet_6 b n w) (refSet_7 b n w) (refSet_8 b n w) (refSet_9 b n w) k hk
def lnsP (k : Nat) (n : Int) : List Ln := [.cen 1, .node 0] ++ (if defPs[k]? = some n then [] else [.par k n])
theorem parLs_set (n : Int) : ∀ k, k < 10 → parLs (defPs.set k n) 10 = if defPs[k]? = some n then [] else [parW k n] := by
  refine ten_cases ?_ ?_ ?_ ?_ ?_ ?_ ?_ ?_ ?_ ?_ <;>
    (simp only [parLs, defPs, List.set_cons_zero, List.set_cons_succ, List.getElem?_cons_zero, List.getElem?_cons_succ, Option.some.injEq, if_true, List.nil_append, List.append_nil]; try (split <;> rfl))
theorem set_same {k : Nat} {n : Int} (h : defPs[k]? = some n) : defPs.set k n = defPs := by
  apply List.ext_getElem?
  intro i
  by_cases e : i = k
  · subst e
    rw [List.getElem?_set_self (List.getElem?_eq_some_iff.1 h).1, h]
  · rw [List.getElem?_set_ne (Ne.symm e)]
theorem rest_par (b : Nat) {k : Nat} (hk : k < 10) (n : Int) : restT ((lnsP k n).map Ln.lst) 0 = textC (parX b k n) := by
  have h : textC (parX b k n) = lineT [wCentres, dec 1] ++ (lineT (nodeW 0) ++ ((parLs (defPs.set k n) 10).map lineT).flatten) := by
    unfold textC linesC
    show (([wCentres, dec 1] :: ([nodeW 0] ++ ([] ++ ([] ++ ([] ++ parLs (defPs.set k n) 10))))).map lineT).flatten = _
    simp
  rw [h, parLs_set n k hk]
  unfold lnsP
  by_cases e : defPs[k]? = some n
  · rw [if_pos e, if_pos e]; rfl
  · rw [if_neg e, if_neg e]; rfl
theorem k_par (b : Nat) (k : Nat) (n : Int) : kfold (lnsP k n) (kOf defCfg) = kOf (parX b k n) := by
  unfold lnsP
  by_cases e : defPs[k]? = some n
  · rw [if_pos e]
    have : kOf (parX b k n) = ⟨1, [0], [], [], [], defPs⟩ := by
      show (⟨1, [0], [], [], [], defPs.set k n⟩ : Kon) = _
      rw [set_same e]
    rw [this]
    rfl
  · rw [if_neg e]; rfl
/-- the content is that of such a configuration. -/
structure Px (k : Nat) (n : Int) (c : Cfg) : Prop where
  cen : c.cen = 1
  ds : c.ds = [0]
  es : c.es = []
  us : c.us = []
  pl : c.pl = []
  ps : c.ps = defPs.set k n
theorem px_of {b k : Nat} {n : Int} {c : Cfg} (h : kOf c = kOf (parX b k n)) : Px k n c := by
  have h : kOf c = ⟨1, [0], [], [], [], defPs.set k n⟩ := h
  unfold kOf at h
  injection h with h1 h2 h3 h4 h5 h6
  exact ⟨h1, h2, h3, h4, by simpa using h5, h6⟩
theorem px_self (b k : Nat) (n : Int) : Px k n (parX b k n) := ⟨rfl, rfl, rfl, rfl, rfl, rfl⟩
theorem Px.problem {k : Nat} {n : Int} {c d : Cfg} (h : Px k n c) (g : Px k n d) : problem c = problem d := by
  unfold Go.Proofs.YtloacoalmfaceaaGreatDoor.problem
  rw [h.cen, h.ds, h.es, h.us, h.pl, h.ps, g.cen, g.ds, g.es, g.us, g.pl, g.ps]
theorem Px.text {k : Nat} {n : Int} {c d : Cfg} (h : Px k n c) (g : Px k n d) : textC c = textC d := by
  unfold textC linesC
  rw [h.cen, h.ds, h.es, h.us, h.pl, h.ps, g.cen, g.ds, g.es, g.us, g.pl, g.ps]
theorem Px.same {k : Nat} {n : Int} {c d : Cfg} (h : Px k n c) (g : Px k n d) : SameCfg c d := by
  refine ⟨by rw [h.ps, g.ps], by rw [h.cen, g.cen], by rw [h.ds, g.ds], by rw [h.es, g.es], by rw [h.us, g.us], by rw [h.pl, g.pl], fun i p q hp => ?_⟩
  rw [h.pl] at hp
  simp at hp
theorem Px.short {k : Nat} {n : Int} {c : Cfg} (h : Px k n c) : Short c ∧ ∀ p ∈ c.pl, (∀ z ∈ p.kinds, (Lit.int .i64 z).wf = true) ∧ (Lit.int .i64 p.urg).wf = true ∧ p.code.size ≤ 9223372036854775807 := by
  refine ⟨?_, fun p hp => by rw [h.pl] at hp; cases hp⟩
  unfold Short
  rw [h.ds, h.es, h.us, h.pl]
  decide
theorem fit_par {b k : Nat} (hk : k < 10) {n : Int} (h0 : 0 ≤ n) (h1 : n < 1000000000000000000) : ∀ cb, Fit cb ((lnsP k n).map Ln.lst) (prevOf (lnsP k n)) defCfg := by
  have hv : ∀ l ∈ lnsP k n, l.Val := by
    intro l hl
    unfold lnsP at hl
    rcases List.mem_append.1 hl with hl | hl
    · simp only [List.mem_cons, List.mem_nil_iff, or_false] at hl
      rcases hl with rfl | rfl <;> (show _ ∧ _; decide)
    · split at hl
      · cases hl
      · rw [List.mem_singleton.1 hl]
        exact ⟨hk, h0, h1⟩
  refine fit_of (lnsP k n) (fun l hl => val_ok (hv l hl)) (fun l hl => val_nl (hv l hl)) (fun i l hl => ?_) (by unfold lnsP; split <;> simp) (fun c hc => (px_of (b := b) (hc.trans (k_par b k n))).short)
  unfold lnsP at hl ⊢
  split at hl
  · rename_i e
    rw [if_pos e]
    match i, hl with
    | 0, hl => cases hl; rfl
    | 1, hl => cases hl; rfl
    | m + 2, hl => simp at hl
  · rename_i e
    rw [if_neg e]
    match i, hl with
    | 0, hl => cases hl; rfl
    | 1, hl => cases hl; rfl
    | 2, hl =>
      cases hl
      show inP (6 + k) 2 = true
      unfold inP
      simp
      omega
    | m + 3, hl => simp at hl
theorem parse_par (b : Nat) {k : Nat} (hk : k < 10) (n : Int) (hp : problem (parX b k n) = 0) (w : World) (hr : Rdy w) :
    Calls Tryz.prog 13 #[.string (bs (textC (parX b k n)))] w fun e w' => ∃ c, e = .returned (.tuple #[.agg c.cells.toArray, .int .i64 0, .int .i64 0]) ∧ SameCfg c (parX b k n) ∧ CfgAt w' w'.heap.size c ∧ CfgSz c ∧ Below w.heap.size w w' := by
  have hf := fine_of hp
  have hn := hf.par (k := k) hk (z := n) (by show (defPs.set k n)[k]? = some n; exact List.getElem?_set_self (show k < defPs.length from hk))
  have h := parse_lines w hr ((lnsP k n).map Ln.lst) (prevOf (lnsP k n)) (fit_par (b := b) hk (by omega) (by omega)) (by rw [rest_par b hk n]; exact text_le hf (px_self b k n).short.1) (by unfold lnsP; split <;> simp)
  rw [rest_par b hk n] at h
  refine h.mono ?_
  rintro e w' ⟨c, hre, hca, hcz, hb, he, _⟩
  have hx := px_of (b := b) ((reach_k hre).trans (k_par b k n))
  exact ⟨c, he ⟨by rw [hx.problem (px_self b k n)]; exact hp, by rw [hx.text (px_self b k n), rest_par b hk n]⟩, hx.same (px_self b k n), hca, hcz, hb⟩
theorem def_bad : problem defCfg ≠ 0 := by
  rw [prob_1 (c := defCfg) (by show ¬ ((1 : Int) ≤ 0 ∧ (0 : Int) ≤ 9); decide)]
  decide
theorem parse_empty (w : World) (hr : Rdy w) : Calls Tryz.prog 13 #[.string ⟨#[]⟩] w fun e w' => e = .returned (.tuple #[.agg #[.int .i64 0, .slice none 0 0, .slice none 0 0, .slice none 0 0, .slice none 0 0, .int .i64 0, .int .i64 0, .int .i64 0, .int .i64 0, .int .i64 0, .int .i64 0, .int .i64 0, .int .i64 0, .int .i64 0, .int .i64 0], .int .i64 0, .int .i64 2]) ∧ Below w.heap.size w w' := by
  have hfit : ∀ cb, Fit cb [] (fun _ => 0) defCfg := by
    intro cb
    refine ⟨?_, ?_, rfl, ?_, ?_⟩
    · intro i l hl
      cases hl
    · intro l hl
      cases hl
    · intro i l hl
      cases hl
    · intro c hc
      have hc : c = defCfg := hc
      rw [hc]
      exact ⟨by unfold Short; decide, (fun p hp => by cases hp)⟩
  have h := parse_lines w hr [] (fun _ => 0) hfit (by decide) (by decide)
  refine h.mono ?_
  rintro e w' ⟨c, hre, hca, hcz, hb, _, he⟩
  have hc : c = defCfg := hre
  exact ⟨he (fun q => def_bad (by rw [← hc]; exact q.1)), hb⟩
end Go.Proofs.YtloacoalmfaceaaGreatDoor
