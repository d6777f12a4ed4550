/-
  samaritanref12.more at an answer: a line of more than two bytes (printed by genpqma.py, split).
-/
import Derived.Test.YtbbklideciappaaGreatDoorPqMc
namespace Go.Proofs.YtbbklideciappaaGreatDoor
open Go.RowKit Go.Maps

set_option maxRecDepth 100000 in
set_option maxHeartbeats 32000000 in
theorem more_ans_long (w : World) (p : Prot) (k : Nat) (h : ProtAt w w.heap.size p) (hc : CntLe p k) (hk : k ≤ 1000000000) (hn : NilOk p) (s : ByteArray) (hs : s.size ≤ 1000000000) (hs2 : 2 < s.size) (x : List UInt8) (hx : s.data.toList = 45 :: 32 :: x) (init : List Ques) (q : Ques) (hq : p.qs = init ++ [q]) :
    Calls Tryz.prog 32 #[.agg #[.string p.name, .int .i64 p.ver, .slice p.qA p.qs.length p.qc], .string s] w (RetMo p k s.data.toList w) := by
  obtain ⟨F1, F2⟩ := fresh33 w (.string p.name) (.int .i64 p.ver) (.slice p.qA p.qs.length p.qc) (.string ⟨#[]⟩) (.int .i64 0) (.slice none 0 0) 24 24
  have F3 := two_free w #[.string p.name, .int .i64 p.ver, .slice p.qA p.qs.length p.qc] #[.string ⟨#[]⟩, .int .i64 0, .slice none 0 0] 24 24
  obtain ⟨W0, hW0⟩ : ∃ W0, W0 = (w.alloc (.cells #[.string p.name, .int .i64 p.ver, .slice p.qA p.qs.length p.qc] 24)).alloc (.cells #[.string ⟨#[]⟩, .int .i64 0, .slice none 0 0] 24) := ⟨_, rfl⟩
  rw [← hW0] at F1 F2 F3
  have hb0 : Below w.heap.size w W0 := by rw [hW0]; exact ((Below.refl _ _).alloc (Nat.le_refl _) _).alloc (by simp) _
  have hz0 : w.heap.size + 1 < W0.heap.size := by rw [hW0]; simp
  have f0 := F1 0 (.string p.name) rfl
  have f1 := F1 1 (.int .i64 p.ver) rfl
  have f2 := F1 2 (.slice p.qA p.qs.length p.qc) rfl
  have r0 := F2 0 (.string ⟨#[]⟩) rfl
  have r1 := F2 1 (.int .i64 0) rfl
  have r2 := F2 2 (.slice none 0 0) rfl
  have t2 := (F3 2).1
  have u0 := (F3 0).2
  have u1 := (F3 1).2
  have u2 := (F3 2).2
  have HB := Lib.hid hb0
  have hnz : ¬ w.heap.size = w.heap.size + 1 := by omega
  have hnz' : ¬ w.heap.size + 1 = w.heap.size := by omega
  have HH := Lib.hid (And.intro h (And.intro hc (And.intro hk (And.intro hn (And.intro hq hx)))))
  have HROWS := Lib.hid (show RecsAt cellsQ W0 w.heap.size p.qA p.qs from RecsAt.below h.row hb0)
  have HANS := Lib.hid (show RecsAt cellsA W0 w.heap.size q.aA q.ans from RecsAt.below (h.ans q (by rw [hq]; simp)) hb0)
  have hsz : x.length + 2 = s.size := by rw [← size_len s, hx]; rfl
  have d1 : decide ((2 : Int) < (s.size : Int)) = true := decide_eq_true (by omega)
  have d2 : decide ((s.size : Int) < 2) = false := decide_eq_false (by omega)
  have h2' : (2 : Int) ≤ (s.size : Int) := by omega
  obtain ⟨P2, hP2⟩ : ∃ T, s.extract 0 2 = T := ⟨_, rfl⟩
  obtain ⟨T, hT⟩ : ∃ T, s.extract 2 s.size = T := ⟨_, rfl⟩
  have hPd : P2.data.toList = [45, 32] := by rw [← hP2, take_ext, hx]; rfl
  have hTd : T = bs x := by rw [← hT, bs_of (s.extract 2 s.size), drop_ext, hx]; rfl
  have e2 : (P2.toList == [63, 32]) = false := eq_lit.trans (decide_eq_false (by rw [hPd]; decide))
  have e1 : (P2.toList == [45, 32]) = true := eq_lit.trans (decide_eq_true hPd)
  have e1' : (P2.toList != [45, 32]) = false := by unfold bne; rw [e1]; rfl
  have HSD := Lib.hid (fun W => said_any T (by rw [hTd, bs_size]; omega) W)
  rw [show T.data.toList = x by rw [hTd, bs_data]] at HSD
  obtain ⟨n, hn1⟩ : ∃ n, n = p.qs.length := ⟨_, rfl⟩
  obtain ⟨m, hm⟩ : ∃ m, m = init.length := ⟨_, rfl⟩
  have hnm : n = m + 1 := by rw [hn1, hm, hq]; simp
  have hnl : n ≤ 1000000000 := by have := hc.1; omega
  have hql : q.ans.length ≤ 1000000000 := by have := hc.2 q (by rw [hq]; simp); omega
  have HNM := Lib.hid (And.intro hn1 hm)
  have hw1 : IntKind.i64.wrap ((n : Int) - 1) = (m : Int) := by rw [IntWalk.i64_in _ (by omega)]; omega
  have hw2 : (n : Int) - 1 = (m : Int) := by omega
  have hw3 : decide ((m : Int) < 0) = false := decide_eq_false (by omega)
  have hw4 : (m : Int) < (n : Int) := by omega
  rw [← hn1] at hW0 f2
  rw [← hn1]
  clear F1 F2 F3 hb0 h hc hn hx hsz hPd hTd hq hn1 hm hnm
  go_enter Tryz.func32, Tryz.ntmps32
  go_wp2_with fail
  rw [← hW0]
  clear hW0
  refine (HSD.out _).mono ?_
  rintro e W1 ⟨hcase, hb1⟩
  obtain ⟨⟨at_, an, au, ac⟩, b, rfl, hab⟩ : ∃ a b, e = .returned (.tuple #[ansV a, .bool b]) ∧ ((b = true ∧ IsAns x a) ∨ (b = false ∧ ∀ a', ¬ IsAns x a')) := by
    rcases hcase with ⟨a, h1, rfl⟩ | ⟨h1, a, rfl⟩
    · exact ⟨a, true, rfl, .inl ⟨rfl, h1⟩⟩
    · exact ⟨a, false, rfl, .inr ⟨rfl, h1⟩⟩
  unfold ansV
  dsimp only
  have HAB := Lib.hid hab
  have HB1 := Lib.hid hb1
  have hz1 : w.heap.size + 1 < W1.heap.size := Nat.lt_of_lt_of_le hz0 hb1.size
  have f01 := (HB1.out.cell (p := ⟨w.heap.size, 0, none⟩) (Nat.lt_of_succ_lt hz0)).trans f0
  have f11 := (HB1.out.cell (p := ⟨w.heap.size, 1, none⟩) (Nat.lt_of_succ_lt hz0)).trans f1
  have f21 := (HB1.out.cell (p := ⟨w.heap.size, 2, none⟩) (Nat.lt_of_succ_lt hz0)).trans f2
  have t21 := (HB1.out.frozen (p := ⟨w.heap.size, 2, none⟩) (Nat.lt_of_succ_lt hz0)).trans t2
  have r01 := (HB1.out.cell (p := ⟨w.heap.size + 1, 0, none⟩) hz0).trans r0
  have r11 := (HB1.out.cell (p := ⟨w.heap.size + 1, 1, none⟩) hz0).trans r1
  have r21 := (HB1.out.cell (p := ⟨w.heap.size + 1, 2, none⟩) hz0).trans r2
  have u01 := (HB1.out.frozen (p := ⟨w.heap.size + 1, 0, none⟩) hz0).trans u0
  have u11 := (HB1.out.frozen (p := ⟨w.heap.size + 1, 1, none⟩) hz0).trans u1
  have u21 := (HB1.out.frozen (p := ⟨w.heap.size + 1, 2, none⟩) hz0).trans u2
  clear hcase hab hb1 r0 r1 r2 u0 u1 u2 f0 f1 f2 t2
  have hbA := below_new W1 (.cells #[.string at_, .int .i64 an, .int .i64 au, .string ac] 45)
  have hlA := lt_new W1 (.cells #[.string at_, .int .i64 an, .int .i64 au, .string ac] 45)
  obtain ⟨a0, a1, a2, a3⟩ := fresh4 W1 (.string at_) (.int .i64 an) (.int .i64 au) (.string ac) 45
  have hbE := below_new (W1.alloc (.cells #[.string at_, .int .i64 an, .int .i64 au, .string ac] 45)) (.cells #[] 43)
  have HE := Lib.hid (OwnR.lit (cs := cellsQ) (s := 2) (w := W1.alloc (.cells #[.string at_, .int .i64 an, .int .i64 au, .string ac] 45)) cellsQ_len (W1.alloc (.cells #[.string at_, .int .i64 an, .int .i64 au, .string ac] 45)).heap.size 43 [] (n := W1.heap.size + 1) (by simp) (by simp) (by decide) #[] rfl)
  have HB3 := Lib.hid (show Below W1.heap.size W1 ((W1.alloc (.cells #[.string at_, .int .i64 an, .int .i64 au, .string ac] 45)).alloc (.cells #[] 43)) from hbA.trans (hbE.mono hbA.size))
  have HLE := Lib.hid (show (W1.alloc (.cells #[.string at_, .int .i64 an, .int .i64 au, .string ac] 45)).heap.size ≤ ((W1.alloc (.cells #[.string at_, .int .i64 an, .int .i64 au, .string ac] 45)).alloc (.cells #[] 43)).heap.size from hbE.size)
  have HBA := Lib.hid hbA
  have HBE := Lib.hid hbE
  have hne1 : ¬ w.heap.size = W1.heap.size := by omega
  have hne2 : ¬ w.heap.size = W1.heap.size + 1 := by omega
  have hlt1 : w.heap.size < W1.heap.size := by omega
  clear hbA hbE
  go_wp2_with (refine wpList_append_recs _ rfl cellsQ_len (.tmp 56) (.tmp 58) 22 rfl 43 Tryz.underlying22 ques_info rfl (by decide) (by decide) (W1.alloc (.cells #[.string at_, .int .i64 an, .int .i64 au, .string ac] 45)).heap.size _ [] rfl HE.out w.heap.size p.qA n p.qc p.qs rfl HNM.out.1 HH.out.2.2.2.1.1.1 (RecsAt.below HROWS.out ((HB1.out.trans (HB3.out.mono HB1.out.size)).mono HB.out.size)) (fun y _ => cellsQ_one y) (by have := HNM.out.1; simp; omega) HLE.out ?_; intro v8 W4 hown8 hg8; rw [List.nil_append] at hown8; (have HB4 := Lib.hid (show Below (W1.alloc (.cells #[.string at_, .int .i64 an, .int .i64 au, .string ac] 45)).heap.size (W1.alloc (.cells #[.string at_, .int .i64 an, .int .i64 au, .string ac] 45)) W4 from HBE.out.grown hg8 HBE.out.size (fun j hj => HE.out.ge_base j hj))); (obtain ⟨g, c8, rfl, hgb, hgl⟩ := own_some hown8 (by rw [HH.out.2.2.2.2.1]; simp)); rw [← HNM.out.1] at hown8 ⊢; (have HO8 := Lib.hid hown8); (have c2 := (HB4.out.cell (p := ⟨w.heap.size, 2, none⟩) (Nat.lt_trans hlt1 hlA)).trans ((HBA.out.cell (p := ⟨w.heap.size, 2, none⟩) hlt1).trans f21)); (have c2f := (HB4.out.frozen (p := ⟨w.heap.size, 2, none⟩) (Nat.lt_trans hlt1 hlA)).trans ((HBA.out.frozen (p := ⟨w.heap.size, 2, none⟩) hlt1).trans t21)); clear hown8 hg8)
  obtain ⟨A0, hA0⟩ : ∃ A, A = (W1.alloc (.cells #[.string at_, .int .i64 an, .int .i64 au, .string ac] 45)).heap.size := ⟨_, rfl⟩
  have hA1 : A0 = W1.heap.size + 1 := by rw [hA0]; simp
  rw [← hA0] at hgb HO8 HB4 hlA
  have k0 := ((HB4.out.cell (p := ⟨W1.heap.size, 0, none⟩) hlA).trans a0)
  have k1 := ((HB4.out.cell (p := ⟨W1.heap.size, 1, none⟩) hlA).trans a1)
  have k2 := ((HB4.out.cell (p := ⟨W1.heap.size, 2, none⟩) hlA).trans a2)
  have k3 := ((HB4.out.cell (p := ⟨W1.heap.size, 3, none⟩) hlA).trans a3)
  have hgn : ¬ g = w.heap.size := by omega
  have hgn1 : ¬ g = w.heap.size + 1 := by omega
  have hgn2 : ¬ g = W1.heap.size := by omega
  have HW4 := Lib.hid (show Below W1.heap.size W1 W4 from HBA.out.trans (HB4.out.mono (by omega)))
  have f04 := (HW4.out.cell (p := ⟨w.heap.size, 0, none⟩) hlt1).trans f01
  have f14 := (HW4.out.cell (p := ⟨w.heap.size, 1, none⟩) hlt1).trans f11
  have r04 := (HW4.out.cell (p := ⟨w.heap.size + 1, 0, none⟩) hz1).trans r01
  have r14 := (HW4.out.cell (p := ⟨w.heap.size + 1, 1, none⟩) hz1).trans r11
  have r24 := (HW4.out.cell (p := ⟨w.heap.size + 1, 2, none⟩) hz1).trans r21
  have u04 := (HW4.out.frozen (p := ⟨w.heap.size + 1, 0, none⟩) hz1).trans u01
  have u14 := (HW4.out.frozen (p := ⟨w.heap.size + 1, 1, none⟩) hz1).trans u11
  have u24 := (HW4.out.frozen (p := ⟨w.heap.size + 1, 2, none⟩) hz1).trans u21
  have hlen4 : W4.heap.size = (W4.setCell ⟨w.heap.size, 2, none⟩ (.slice (some ⟨g, 0, none⟩) n c8)).heap.size := by simp
  obtain ⟨W5, hW5⟩ : ∃ W5, W5 = W4.setCell ⟨w.heap.size, 2, none⟩ (.slice (some ⟨g, 0, none⟩) n c8) := ⟨_, rfl⟩
  rw [← hW5] at hlen4 ⊢
  have x2 : W5.cell? ⟨w.heap.size, 2, none⟩ = some (.slice (some ⟨g, 0, none⟩) n c8) := by rw [hW5]; exact World.cell?_setCell_same _ _ _ (by rw [c2])
  have oth : ∀ (b j : Nat), b ≠ w.heap.size ∨ j ≠ 2 → W5.cell? ⟨b, j, none⟩ = W4.cell? ⟨b, j, none⟩ := fun b j hbj => by
    rw [hW5]
    exact World.cell?_setCell_other _ _ _ _ (by intro e; injection e with e e'; rcases hbj with q | q <;> omega)
  have othf : ∀ (b j : Nat), W5.frozen? ⟨b, j, none⟩ = W4.frozen? ⟨b, j, none⟩ := fun b j => by rw [hW5]; simp
  have x0 := (oth w.heap.size 0 (.inr (by omega))).trans f04
  have x1 := (oth w.heap.size 1 (.inr (by omega))).trans f14
  have y0 := (oth W1.heap.size 0 (.inl (by omega))).trans k0
  have y1 := (oth W1.heap.size 1 (.inl (by omega))).trans k1
  have y2 := (oth W1.heap.size 2 (.inl (by omega))).trans k2
  have y3 := (oth W1.heap.size 3 (.inl (by omega))).trans k3
  have z0 := (oth (w.heap.size + 1) 0 (.inl (by omega))).trans r04
  have z1 := (oth (w.heap.size + 1) 1 (.inl (by omega))).trans r14
  have z2 := (oth (w.heap.size + 1) 2 (.inl (by omega))).trans r24
  have vv0 := (othf (w.heap.size + 1) 0).trans u04
  have vv1 := (othf (w.heap.size + 1) 1).trans u14
  have vv2 := (othf (w.heap.size + 1) 2).trans u24
  have HO5 := Lib.hid (show OwnR cellsQ 2 W5 A0 43 (.slice (some ⟨g, 0, none⟩) n c8) p.qs from by rw [hW5]; exact own_set HO8.out (by omega) 2 _)
  have HW5 := Lib.hid (show Below w.heap.size w W5 from by rw [hW5]; exact ((HB.out.trans ((HB1.out.trans (HW4.out.mono HB1.out.size)).mono HB.out.size))).setCell (p := ⟨w.heap.size, 2, none⟩) (Nat.le_refl _) _)
  have hg5 : g < W5.heap.size := by omega
  have hz5 : w.heap.size + 1 < W5.heap.size := by have := HW4.out.size; omega
  have ha5 : W1.heap.size < W5.heap.size := by have := HB4.out.size; omega
  have hrow5 : W5.cell? ⟨g, m * 2 + 1, none⟩ = some (.slice q.aA q.ans.length q.ac) ∧ W5.frozen? ⟨g, m * 2 + 1, none⟩ = false := by
    have hO : W5.ownsRow A0 43 2 (.slice (some ⟨g, 0, none⟩) n c8) n (p.qs.flatMap cellsQ) := by
      have h1 : W5.ownsRow A0 43 2 (.slice (some ⟨g, 0, none⟩) n c8) p.qs.length (p.qs.flatMap cellsQ) := HO5.out
      rwa [← HNM.out.1] at h1
    have h1 : (p.qs.flatMap cellsQ)[m * 2 + 1]? = some (.slice q.aA q.ans.length q.ac) := flat_at cellsQ_len (show p.qs[m]? = some q by rw [HH.out.2.2.2.2.1, HNM.out.2]; simp) (j := 1) rfl
    have hlt9 : m * 2 + 1 < n * 2 := by omega
    exact ⟨(World.ownsRow.cellAt hO _ hlt9).trans h1, World.ownsRow.frozenAt hO _⟩
  obtain ⟨hrow5, hfro5⟩ := hrow5
  clear hW5 oth othf c2 c2f a0 a1 a2 a3 k0 k1 k2 k3 f04 f14 r04 r14 r24 u04 u14 u24 f01 f11 f21 t21 r01 r11 r21 u01 u11 u21 hlen4 HE HLE HBE
  refine wp_region_held_drew (S := fun Y => Y.cell? ⟨w.heap.size, 2, none⟩ = some (.slice (some ⟨g, 0, none⟩) n c8) ∧ Y.cell? ⟨W1.heap.size, 0, none⟩ = some (.string at_) ∧ Y.cell? ⟨W1.heap.size, 1, none⟩ = some (.int .i64 an) ∧ Y.cell? ⟨W1.heap.size, 2, none⟩ = some (.int .i64 au) ∧ Y.cell? ⟨W1.heap.size, 3, none⟩ = some (.string ac)) (by kernel_rfl) ⟨x2, y0, y1, y2, y3⟩ (fun hHeld => ?_)
  have HD0 := Lib.hid (show Below W5.heap.size W5 W5.drew from (Below.refl _ _).drew)
  obtain ⟨U0, hU0⟩ : ∃ U, U = W5.drew := ⟨_, rfl⟩
  rw [← hU0] at HD0 hHeld ⊢
  clear hU0
  refine wpAnyH_take (i := 0) (v := .pointer (some ⟨w.heap.size, 2, none⟩)) rfl (by kernel_rfl) (by kernel_rfl) (by kernel_rfl) (fun _ _ _ h => h) (Or.inl ⟨by rfl, ?_⟩) (by assumption) ?_
  · intro w hSw
    go_simp
  show wpAnyH _ _ _ _ _ _ _ (Act.put _ (some 61) _) _
  simp only [Act.put, List.setIfInBounds_toArray, List.set_cons_zero, List.set_cons_succ]
  refine wpAnyH_take (i := 1) (v := .slice (some ⟨g, 0, none⟩) n c8) rfl (by kernel_rfl) (by kernel_rfl) (by kernel_rfl) (fun _ _ _ h => h) (Or.inl ⟨by rfl, ?_⟩) (by assumption) ?_
  · intro w hSw
    obtain ⟨s0, s1, s2, s3, s4⟩ := hSw
    go_simp
  show wpAnyH _ _ _ _ _ _ _ (Act.put _ (some 62) _) _
  simp only [Act.put, List.setIfInBounds_toArray, List.set_cons_zero, List.set_cons_succ]
  refine wpAnyH_take (i := 2) (v := .int .i64 (m : Int)) rfl (by kernel_rfl) (by kernel_rfl) (by kernel_rfl) (fun _ _ _ h => h) (Or.inl ⟨by rfl, ?_⟩) (by assumption) ?_
  · intro w hSw
    go_simp
  show wpAnyH _ _ _ _ _ _ _ (Act.put _ (some 63) _) _
  simp only [Act.put, List.setIfInBounds_toArray, List.set_cons_zero, List.set_cons_succ]
  refine wpAnyH_take (i := 4) (v := .pointer (some ⟨w.heap.size, 2, none⟩)) rfl (by kernel_rfl) (by kernel_rfl) (by kernel_rfl) (fun _ _ _ h => h) (Or.inl ⟨by rfl, ?_⟩) (by assumption) ?_
  · intro w hSw
    go_simp
  show wpAnyH _ _ _ _ _ _ _ (Act.put _ (some 65) _) _
  simp only [Act.put, List.setIfInBounds_toArray, List.set_cons_zero, List.set_cons_succ]
  refine wpAnyH_take (i := 5) (v := .slice (some ⟨g, 0, none⟩) n c8) rfl (by kernel_rfl) (by kernel_rfl) (by kernel_rfl) (fun _ _ _ h => h) (Or.inl ⟨by rfl, ?_⟩) (by assumption) ?_
  · intro w hSw
    obtain ⟨s0, s1, s2, s3, s4⟩ := hSw
    go_simp
  show wpAnyH _ _ _ _ _ _ _ (Act.put _ (some 66) _) _
  simp only [Act.put, List.setIfInBounds_toArray, List.set_cons_zero, List.set_cons_succ]
  refine wpAnyH_take (i := 6) (v := .int .i64 (m : Int)) rfl (by kernel_rfl) (by kernel_rfl) (by kernel_rfl) (fun _ _ _ h => h) (Or.inl ⟨by rfl, ?_⟩) (by assumption) ?_
  · intro w hSw
    go_simp
  show wpAnyH _ _ _ _ _ _ _ (Act.put _ (some 67) _) _
  simp only [Act.put, List.setIfInBounds_toArray, List.set_cons_zero, List.set_cons_succ]
  refine wpAnyH_take (i := 7) (v := .pointer (some ⟨g, m * 2, none⟩)) rfl (by kernel_rfl) (by kernel_rfl) (by kernel_rfl) (fun _ _ _ h => h) (Or.inl ⟨by rfl, ?_⟩) (by assumption) ?_
  · intro w hSw
    go_simp
  show wpAnyH _ _ _ _ _ _ _ (Act.put _ (some 68) _) _
  simp only [Act.put, List.setIfInBounds_toArray, List.set_cons_zero, List.set_cons_succ]
  refine wpAnyH_take (i := 8) (v := .pointer (some ⟨g, m * 2 + 1, none⟩)) rfl (by kernel_rfl) (by kernel_rfl) (by kernel_rfl) (fun _ _ _ h => h) (Or.inl ⟨by rfl, ?_⟩) (by assumption) ?_
  · intro w hSw
    go_simp
  show wpAnyH _ _ _ _ _ _ _ (Act.put _ (some 69) _) _
  simp only [Act.put, List.setIfInBounds_toArray, List.set_cons_zero, List.set_cons_succ]
  refine wpAnyH_take (i := 11) (v := .agg #[.string at_, .int .i64 an, .int .i64 au, .string ac]) rfl (by kernel_rfl) (by kernel_rfl) (by kernel_rfl) (fun _ _ _ h => h) (Or.inl ⟨by rfl, ?_⟩) (by assumption) ?_
  · intro w hSw
    obtain ⟨s0, s1, s2, s3, s4⟩ := hSw
    go_simp
  show wpAnyH _ _ _ _ _ _ _ (Act.put _ (some 72) _) _
  simp only [Act.put, List.setIfInBounds_toArray, List.set_cons_zero, List.set_cons_succ]
  refine wpAnyH_ready (rs := [3, 9, 12]) (by kernel_rfl) (by simp) ?_
  refine AllReadyH.cons rfl (fun K hK => ?_) (AllReadyH.cons rfl (fun K hK => ?_) (AllReadyH.cons rfl (fun K hK => ?_) AllReadyH.nil))
  · have HE1 := Lib.hid (OwnR.lit (cs := cellsA) (s := 4) (w := U0) cellsA_len W5.heap.size 45 [] (n := U0.heap.size) rfl HD0.out.size (by decide) #[] rfl)
    have hst := below_new U0 (.cells #[] 45)
    go_simp
    refine hK.out _ _ ⟨(hst.cell (p := ⟨w.heap.size, 2, none⟩) (Nat.lt_of_lt_of_le (Nat.lt_of_succ_lt hz5) HD0.out.size)).trans hHeld.1, (hst.cell (p := ⟨W1.heap.size, 0, none⟩) (Nat.lt_of_lt_of_le ha5 HD0.out.size)).trans hHeld.2.1, (hst.cell (p := ⟨W1.heap.size, 1, none⟩) (Nat.lt_of_lt_of_le ha5 HD0.out.size)).trans hHeld.2.2.1, (hst.cell (p := ⟨W1.heap.size, 2, none⟩) (Nat.lt_of_lt_of_le ha5 HD0.out.size)).trans hHeld.2.2.2.1, (hst.cell (p := ⟨W1.heap.size, 3, none⟩) (Nat.lt_of_lt_of_le ha5 HD0.out.size)).trans hHeld.2.2.2.2⟩ (fun hHeld => ?_)
    clear hK K
    obtain ⟨U1, hU⟩ : ∃ U, U = U0.alloc (.cells #[] 45) := ⟨_, rfl⟩
    rw [← hU] at HE1 hst hHeld ⊢
    have HD1 := Lib.hid (HD0.out.trans (hst.mono HD0.out.size))
    have hlE := (show U0.heap.size < U1.heap.size by rw [hU]; exact lt_new _ _)
    clear hU hst
    refine wpAnyH_ready (rs := [9, 12]) (by kernel_rfl) (by simp) ?_
    refine AllReadyH.cons rfl (fun K hK => ?_) (AllReadyH.cons rfl (fun K hK => ?_) AllReadyH.nil)
    · have cr := (HD1.out.cell (p := ⟨g, m * 2 + 1, none⟩) hg5).trans hrow5
      go_simp
      refine hK.out _ _ hHeld (fun hHeld => ?_)
      clear hK K cr
      refine wpAnyH_ready (rs := [10, 12]) (by kernel_rfl) (by simp) ?_
      refine AllReadyH.cons rfl (fun K hK => ?_) (AllReadyH.cons rfl (fun K hK => ?_) AllReadyH.nil)
      · refine step_append_recs (cs := cellsA) (s := 4) U1 (by rfl) cellsA_len (.tmp 64) (.tmp 70) 41 (by rfl) 45 Tryz.underlying41 answ_info rfl (by decide) (by decide) W5.heap.size _ [] rfl HE1.out w.heap.size q.aA q.ans.length q.ac q.ans rfl rfl (HH.out.2.2.2.1.1.2 q (by rw [HH.out.2.2.2.2.1]; simp)) (RecsAt.below (HH.out.1.ans q (by rw [HH.out.2.2.2.2.1]; simp)) (HW5.out.trans (HD1.out.mono HW5.out.size))) (fun y _ => cellsA_one y) (by simp; omega) HD1.out.size ?_
        intro v1 U2 hown1 hg1
        rw [List.nil_append] at hown1
        have HD2 := Lib.hid (HD1.out.grown hg1 HD1.out.size (fun j hj => HE1.out.ge_base j hj))
        have hoS := Only.of_grown hg1 (fun j e => e)
        have hno1 : ¬ _ = some w.heap.size := fun e => by have h1 := HE1.out.ge_base _ e; omega
        have hno2 : ¬ _ = some W1.heap.size := fun e => by have h1 := HE1.out.ge_base _ e; omega
        have HSH := Lib.hid (show _ ∧ _ ∧ _ ∧ _ ∧ _ from ⟨(hoS.cell (a := ⟨w.heap.size, 2, none⟩) (Nat.lt_of_lt_of_le (Nat.lt_of_succ_lt hz5) HD1.out.size) hno1).trans hHeld.1, (hoS.cell (a := ⟨W1.heap.size, 0, none⟩) (Nat.lt_of_lt_of_le ha5 HD1.out.size) hno2).trans hHeld.2.1, (hoS.cell (a := ⟨W1.heap.size, 1, none⟩) (Nat.lt_of_lt_of_le ha5 HD1.out.size) hno2).trans hHeld.2.2.1, (hoS.cell (a := ⟨W1.heap.size, 2, none⟩) (Nat.lt_of_lt_of_le ha5 HD1.out.size) hno2).trans hHeld.2.2.2.1, (hoS.cell (a := ⟨W1.heap.size, 3, none⟩) (Nat.lt_of_lt_of_le ha5 HD1.out.size) hno2).trans hHeld.2.2.2.2⟩)
        have HA2 := Lib.hid hown1
        clear hown1 hg1 hoS hno1 hno2
        refine hK.out _ _ HSH.out (fun hHeld => ?_)
        clear hK K HSH
        show wpAnyH _ _ _ _ _ _ _ (Act.put _ (some 71) _) _
        simp only [Act.put, List.setIfInBounds_toArray, List.set_cons_zero, List.set_cons_succ]
        refine wpAnyH_ready (rs := [12]) (by kernel_rfl) (by simp) ?_
        refine AllReadyH.cons rfl (fun K hK => ?_) AllReadyH.nil
        have HN3 := Lib.hid (new_obj U2 (.cells #[.string at_, .int .i64 an, .int .i64 au, .string ac] 45))
        have hst := below_new U2 (.cells #[.string at_, .int .i64 an, .int .i64 au, .string ac] 45)
        go_simp
        refine hK.out _ _ ⟨(hst.cell (p := ⟨w.heap.size, 2, none⟩) (Nat.lt_of_lt_of_le (Nat.lt_of_succ_lt hz5) HD2.out.size)).trans hHeld.1, (hst.cell (p := ⟨W1.heap.size, 0, none⟩) (Nat.lt_of_lt_of_le ha5 HD2.out.size)).trans hHeld.2.1, (hst.cell (p := ⟨W1.heap.size, 1, none⟩) (Nat.lt_of_lt_of_le ha5 HD2.out.size)).trans hHeld.2.2.1, (hst.cell (p := ⟨W1.heap.size, 2, none⟩) (Nat.lt_of_lt_of_le ha5 HD2.out.size)).trans hHeld.2.2.2.1, (hst.cell (p := ⟨W1.heap.size, 3, none⟩) (Nat.lt_of_lt_of_le ha5 HD2.out.size)).trans hHeld.2.2.2.2⟩ (fun hHeld => ?_)
        clear hK K
        obtain ⟨U3, hU⟩ : ∃ U, U = U2.alloc (.cells #[.string at_, .int .i64 an, .int .i64 au, .string ac] 45) := ⟨_, rfl⟩
        rw [← hU] at HN3 hst hHeld ⊢
        have HD3 := Lib.hid (HD2.out.trans (hst.mono HD2.out.size))
        have hlN := (show U2.heap.size < U3.heap.size by rw [hU]; exact lt_new _ _)
        have HA3 := Lib.hid (HA2.out.kept_new hst)
        clear hU hst
        refine wpAnyH_ready (rs := [13]) (by kernel_rfl) (by simp) ?_
        refine AllReadyH.cons rfl (fun K hK => ?_) AllReadyH.nil
        refine step_append_recs (cs := cellsA) (s := 4) U3 (by rfl) cellsA_len (.tmp 71) (.tmp 73) 41 (by rfl) 45 Tryz.underlying41 answ_info rfl (by decide) (by decide) W5.heap.size _ q.ans rfl HA3.out U3.heap.size (some ⟨U2.heap.size, 0, none⟩) 1 1 [⟨at_, an, au, ac⟩] rfl rfl (fun e => by cases e) (recs_row HN3.out rfl hlN) (fun y _ => cellsA_one y) (by simp; omega) HD3.out.size ?_
        intro v2 U4 hown2 hg2
        have HD4 := Lib.hid (HD3.out.grown hg2 HD3.out.size (fun j hj => HA3.out.ge_base j hj))
        have hoS := Only.of_grown hg2 (fun j e => e)
        have hno1 : ¬ _ = some w.heap.size := fun e => by have h1 := HA3.out.ge_base _ e; omega
        have hno2 : ¬ _ = some W1.heap.size := fun e => by have h1 := HA3.out.ge_base _ e; omega
        have HSH := Lib.hid (show _ ∧ _ ∧ _ ∧ _ ∧ _ from ⟨(hoS.cell (a := ⟨w.heap.size, 2, none⟩) (Nat.lt_of_lt_of_le (Nat.lt_of_succ_lt hz5) HD3.out.size) hno1).trans hHeld.1, (hoS.cell (a := ⟨W1.heap.size, 0, none⟩) (Nat.lt_of_lt_of_le ha5 HD3.out.size) hno2).trans hHeld.2.1, (hoS.cell (a := ⟨W1.heap.size, 1, none⟩) (Nat.lt_of_lt_of_le ha5 HD3.out.size) hno2).trans hHeld.2.2.1, (hoS.cell (a := ⟨W1.heap.size, 2, none⟩) (Nat.lt_of_lt_of_le ha5 HD3.out.size) hno2).trans hHeld.2.2.2.1, (hoS.cell (a := ⟨W1.heap.size, 3, none⟩) (Nat.lt_of_lt_of_le ha5 HD3.out.size) hno2).trans hHeld.2.2.2.2⟩)
        obtain ⟨A9, c9, rfl, _⟩ := OwnR.sl hown2
        have HO := Lib.hid hown2
        clear hown2 hg2 hoS hno1 hno2
        refine hK.out _ _ HSH.out (fun hHeld => ?_)
        clear hK K HSH
        show wpAnyH _ _ _ _ _ _ _ (Act.put _ (some 74) _) _
        simp only [Act.put, List.setIfInBounds_toArray, List.set_cons_zero, List.set_cons_succ]
        refine wpAnyH_take (i := 14) (v := .pointer (some ⟨g, m * 2, none⟩)) rfl (by kernel_rfl) (by kernel_rfl) (by kernel_rfl) (fun _ _ _ h => h) (Or.inl ⟨by rfl, ?_⟩) (by assumption) ?_
        · intro w hSw
          go_simp
        show wpAnyH _ _ _ _ _ _ _ (Act.put _ (some 75) _) _
        simp only [Act.put, List.setIfInBounds_toArray, List.set_cons_zero, List.set_cons_succ]
        refine wpAnyH_take (i := 15) (v := .pointer (some ⟨g, m * 2 + 1, none⟩)) rfl (by kernel_rfl) (by kernel_rfl) (by kernel_rfl) (fun _ _ _ h => h) (Or.inl ⟨by rfl, ?_⟩) (by assumption) ?_
        · intro w hSw
          go_simp
        show wpAnyH _ _ _ _ _ _ _ (Act.put _ (some 76) _) _
        simp only [Act.put, List.setIfInBounds_toArray, List.set_cons_zero, List.set_cons_succ]
        refine wpAnyH_ready (rs := [16]) (by kernel_rfl) (by simp) ?_
        refine AllReadyH.cons rfl (fun K hK => ?_) AllReadyH.nil
        obtain ⟨n9, hn9⟩ : ∃ n, n = (q.ans ++ [(⟨at_, an, au, ac⟩ : Ans)]).length := ⟨_, rfl⟩
        rw [← hn9] at HO ⊢
        clear hn9
        have x04 := (HD4.out.cell (p := ⟨w.heap.size, 0, none⟩) (Nat.lt_of_succ_lt hz5)).trans x0
        have x14 := (HD4.out.cell (p := ⟨w.heap.size, 1, none⟩) (Nat.lt_of_succ_lt hz5)).trans x1
        have x24 := (HD4.out.cell (p := ⟨w.heap.size, 2, none⟩) (Nat.lt_of_succ_lt hz5)).trans x2
        have z04 := (HD4.out.cell (p := ⟨w.heap.size + 1, 0, none⟩) hz5).trans z0
        have z14 := (HD4.out.cell (p := ⟨w.heap.size + 1, 1, none⟩) hz5).trans z1
        have z24 := (HD4.out.cell (p := ⟨w.heap.size + 1, 2, none⟩) hz5).trans z2
        have vv04 := (HD4.out.frozen (p := ⟨w.heap.size + 1, 0, none⟩) hz5).trans vv0
        have vv14 := (HD4.out.frozen (p := ⟨w.heap.size + 1, 1, none⟩) hz5).trans vv1
        have vv24 := (HD4.out.frozen (p := ⟨w.heap.size + 1, 2, none⟩) hz5).trans vv2
        have hrow54 := (HD4.out.cell (p := ⟨g, m * 2 + 1, none⟩) hg5).trans hrow5
        have hfro54 := (HD4.out.frozen (p := ⟨g, m * 2 + 1, none⟩) hg5).trans hfro5
        have hO8 : U4.ownsRow A0 43 2 (.slice (some ⟨g, 0, none⟩) n c8) n (p.qs.flatMap cellsQ) := by
          have h1 : U4.ownsRow A0 43 2 (.slice (some ⟨g, 0, none⟩) n c8) p.qs.length (p.qs.flatMap cellsQ) := HO5.out.kept_new HD4.out
          rwa [← HNM.out.1] at h1
        have hst1 := (World.ownsRow.stored hO8 (m * 2 + 1) (.slice A9 n9 c9)).1
        have HQ9 := Lib.hid (show OwnR cellsQ 2 (U4.setCell ⟨g, m * 2 + 1, none⟩ (.slice A9 n9 c9)) A0 43 (.slice (some ⟨g, 0, none⟩) n c8) (init ++ [⟨q.text, A9, q.ans ++ [⟨at_, an, au, ac⟩], c9⟩]) from by
          have e1 : (p.qs.flatMap cellsQ).set (m * 2 + 1) (.slice A9 n9 c9) = (init ++ [(⟨q.text, A9, q.ans ++ [⟨at_, an, au, ac⟩], c9⟩ : Ques)]).flatMap cellsQ := by
            rw [HH.out.2.2.2.2.1, HNM.out.2]
            exact flat_set cellsQ_len (by have := (OwnR.caps HO.out).1; simp [cellsQ, this])
          rw [e1] at hst1
          have e2 : n = (init ++ [(⟨q.text, A9, q.ans ++ [⟨at_, an, au, ac⟩], c9⟩ : Ques)]).length := by rw [HNM.out.1, HH.out.2.2.2.2.1]; simp
          unfold OwnR
          rw [← e2]
          exact hst1)
        have HN9 := Lib.hid (own_set HO.out hg5 (m * 2 + 1) (.slice A9 n9 c9))
        have HW9 := Lib.hid ((HW5.out.trans (HD4.out.mono HW5.out.size)).setCell (p := ⟨g, m * 2 + 1, none⟩) (show w.heap.size ≤ g by omega) (.slice A9 n9 c9))
        clear hO8 hst1
        go_simp
        refine hK.out _ _ ⟨(World.cell?_setCell_other _ _ _ _ (by intro e; injection e with e _; omega)).trans hHeld.1, (World.cell?_setCell_other _ _ _ _ (by intro e; injection e with e _; omega)).trans hHeld.2.1, (World.cell?_setCell_other _ _ _ _ (by intro e; injection e with e _; omega)).trans hHeld.2.2.1, (World.cell?_setCell_other _ _ _ _ (by intro e; injection e with e _; omega)).trans hHeld.2.2.2.1, (World.cell?_setCell_other _ _ _ _ (by intro e; injection e with e _; omega)).trans hHeld.2.2.2.2⟩ (fun _ => ?_)
        clear hK K hHeld
        refine wpAnyH_done (by kernel_rfl) ?_ _
        go_wp2_with fail
        refine bodyPost_ret (v := .tuple #[protV p.name p.ver (some ⟨g, 0, none⟩) n c8, .bool b]) (by simp [results, Tryz.results32, go_sem, z04, z14, z24, protV]) rfl ?_
        exact fin_ans HH.out.1 HH.out.2.1 HH.out.2.2.2.1 HH.out.2.2.2.2.1 HH.out.2.2.2.2.2 HNM.out.1 (by have h1 := HB.out.size; have h2 := HB1.out.size; omega) HW5.out.size HAB.out (own_set (own_set (own_set HQ9.out (b := w.heap.size + 1) (by omega) 0 _) (b := w.heap.size + 1) (by omega) 1 _) (b := w.heap.size + 1) (by omega) 2 _) (own_set (own_set (own_set HN9.out (b := w.heap.size + 1) hz5 0 _) (b := w.heap.size + 1) hz5 1 _) (b := w.heap.size + 1) hz5 2 _) (below_set3 HW9.out (b := w.heap.size + 1) (Nat.le_succ _) _ _ _)
      · have HN2 := Lib.hid (new_obj U1 (.cells #[.string at_, .int .i64 an, .int .i64 au, .string ac] 45))
        have hst := below_new U1 (.cells #[.string at_, .int .i64 an, .int .i64 au, .string ac] 45)
        go_simp
        refine hK.out _ _ ⟨(hst.cell (p := ⟨w.heap.size, 2, none⟩) (Nat.lt_of_lt_of_le (Nat.lt_of_succ_lt hz5) HD1.out.size)).trans hHeld.1, (hst.cell (p := ⟨W1.heap.size, 0, none⟩) (Nat.lt_of_lt_of_le ha5 HD1.out.size)).trans hHeld.2.1, (hst.cell (p := ⟨W1.heap.size, 1, none⟩) (Nat.lt_of_lt_of_le ha5 HD1.out.size)).trans hHeld.2.2.1, (hst.cell (p := ⟨W1.heap.size, 2, none⟩) (Nat.lt_of_lt_of_le ha5 HD1.out.size)).trans hHeld.2.2.2.1, (hst.cell (p := ⟨W1.heap.size, 3, none⟩) (Nat.lt_of_lt_of_le ha5 HD1.out.size)).trans hHeld.2.2.2.2⟩ (fun hHeld => ?_)
        clear hK K
        obtain ⟨U2, hU⟩ : ∃ U, U = U1.alloc (.cells #[.string at_, .int .i64 an, .int .i64 au, .string ac] 45) := ⟨_, rfl⟩
        rw [← hU] at HN2 hst hHeld ⊢
        have HD2 := Lib.hid (HD1.out.trans (hst.mono HD1.out.size))
        have hlN := (show U1.heap.size < U2.heap.size by rw [hU]; exact lt_new _ _)
        have HE2 := Lib.hid (HE1.out.kept_new hst)
        have hne : U0.heap.size ≠ U1.heap.size := by omega
        replace hlE := Nat.lt_of_lt_of_le hlE hst.size
        clear hU hst
        refine wpAnyH_ready (rs := [10]) (by kernel_rfl) (by simp) ?_
        refine AllReadyH.cons rfl (fun K hK => ?_) AllReadyH.nil
        refine step_append_recs (cs := cellsA) (s := 4) U2 (by rfl) cellsA_len (.tmp 64) (.tmp 70) 41 (by rfl) 45 Tryz.underlying41 answ_info rfl (by decide) (by decide) W5.heap.size _ [] rfl HE2.out w.heap.size q.aA q.ans.length q.ac q.ans rfl rfl (HH.out.2.2.2.1.1.2 q (by rw [HH.out.2.2.2.2.1]; simp)) (RecsAt.below (HH.out.1.ans q (by rw [HH.out.2.2.2.2.1]; simp)) (HW5.out.trans (HD2.out.mono HW5.out.size))) (fun y _ => cellsA_one y) (by simp; omega) HD2.out.size ?_
        intro v1 U3 hown1 hg1
        rw [List.nil_append] at hown1
        have HD3 := Lib.hid (HD2.out.grown hg1 HD2.out.size (fun j hj => HE2.out.ge_base j hj))
        have hoS := Only.of_grown hg1 (fun j e => e)
        have hno1 : ¬ _ = some w.heap.size := fun e => by have h1 := HE2.out.ge_base _ e; omega
        have hno2 : ¬ _ = some W1.heap.size := fun e => by have h1 := HE2.out.ge_base _ e; omega
        have HSH := Lib.hid (show _ ∧ _ ∧ _ ∧ _ ∧ _ from ⟨(hoS.cell (a := ⟨w.heap.size, 2, none⟩) (Nat.lt_of_lt_of_le (Nat.lt_of_succ_lt hz5) HD2.out.size) hno1).trans hHeld.1, (hoS.cell (a := ⟨W1.heap.size, 0, none⟩) (Nat.lt_of_lt_of_le ha5 HD2.out.size) hno2).trans hHeld.2.1, (hoS.cell (a := ⟨W1.heap.size, 1, none⟩) (Nat.lt_of_lt_of_le ha5 HD2.out.size) hno2).trans hHeld.2.2.1, (hoS.cell (a := ⟨W1.heap.size, 2, none⟩) (Nat.lt_of_lt_of_le ha5 HD2.out.size) hno2).trans hHeld.2.2.2.1, (hoS.cell (a := ⟨W1.heap.size, 3, none⟩) (Nat.lt_of_lt_of_le ha5 HD2.out.size) hno2).trans hHeld.2.2.2.2⟩)
        have HA3 := Lib.hid hown1
        have HN3 := Lib.hid ((hg1.block U1.heap.size hlN (fun e => by injection e with e; exact hne e.symm)).trans HN2.out)
        replace hlN := Nat.lt_of_lt_of_le hlN hg1.size
        clear hown1 hg1 hoS hno1 hno2
        refine hK.out _ _ HSH.out (fun hHeld => ?_)
        clear hK K HSH
        show wpAnyH _ _ _ _ _ _ _ (Act.put _ (some 71) _) _
        simp only [Act.put, List.setIfInBounds_toArray, List.set_cons_zero, List.set_cons_succ]
        refine wpAnyH_ready (rs := [13]) (by kernel_rfl) (by simp) ?_
        refine AllReadyH.cons rfl (fun K hK => ?_) AllReadyH.nil
        refine step_append_recs (cs := cellsA) (s := 4) U3 (by rfl) cellsA_len (.tmp 71) (.tmp 73) 41 (by rfl) 45 Tryz.underlying41 answ_info rfl (by decide) (by decide) W5.heap.size _ q.ans rfl HA3.out U3.heap.size (some ⟨U1.heap.size, 0, none⟩) 1 1 [⟨at_, an, au, ac⟩] rfl rfl (fun e => by cases e) (recs_row HN3.out rfl hlN) (fun y _ => cellsA_one y) (by simp; omega) HD3.out.size ?_
        intro v2 U4 hown2 hg2
        have HD4 := Lib.hid (HD3.out.grown hg2 HD3.out.size (fun j hj => HA3.out.ge_base j hj))
        have hoS := Only.of_grown hg2 (fun j e => e)
        have hno1 : ¬ _ = some w.heap.size := fun e => by have h1 := HA3.out.ge_base _ e; omega
        have hno2 : ¬ _ = some W1.heap.size := fun e => by have h1 := HA3.out.ge_base _ e; omega
        have HSH := Lib.hid (show _ ∧ _ ∧ _ ∧ _ ∧ _ from ⟨(hoS.cell (a := ⟨w.heap.size, 2, none⟩) (Nat.lt_of_lt_of_le (Nat.lt_of_succ_lt hz5) HD3.out.size) hno1).trans hHeld.1, (hoS.cell (a := ⟨W1.heap.size, 0, none⟩) (Nat.lt_of_lt_of_le ha5 HD3.out.size) hno2).trans hHeld.2.1, (hoS.cell (a := ⟨W1.heap.size, 1, none⟩) (Nat.lt_of_lt_of_le ha5 HD3.out.size) hno2).trans hHeld.2.2.1, (hoS.cell (a := ⟨W1.heap.size, 2, none⟩) (Nat.lt_of_lt_of_le ha5 HD3.out.size) hno2).trans hHeld.2.2.2.1, (hoS.cell (a := ⟨W1.heap.size, 3, none⟩) (Nat.lt_of_lt_of_le ha5 HD3.out.size) hno2).trans hHeld.2.2.2.2⟩)
        obtain ⟨A9, c9, rfl, _⟩ := OwnR.sl hown2
        have HO := Lib.hid hown2
        clear hown2 hg2 hoS hno1 hno2
        refine hK.out _ _ HSH.out (fun hHeld => ?_)
        clear hK K HSH
        show wpAnyH _ _ _ _ _ _ _ (Act.put _ (some 74) _) _
        simp only [Act.put, List.setIfInBounds_toArray, List.set_cons_zero, List.set_cons_succ]
        refine wpAnyH_take (i := 14) (v := .pointer (some ⟨g, m * 2, none⟩)) rfl (by kernel_rfl) (by kernel_rfl) (by kernel_rfl) (fun _ _ _ h => h) (Or.inl ⟨by rfl, ?_⟩) (by assumption) ?_
        · intro w hSw
          go_simp
        show wpAnyH _ _ _ _ _ _ _ (Act.put _ (some 75) _) _
        simp only [Act.put, List.setIfInBounds_toArray, List.set_cons_zero, List.set_cons_succ]
        refine wpAnyH_take (i := 15) (v := .pointer (some ⟨g, m * 2 + 1, none⟩)) rfl (by kernel_rfl) (by kernel_rfl) (by kernel_rfl) (fun _ _ _ h => h) (Or.inl ⟨by rfl, ?_⟩) (by assumption) ?_
        · intro w hSw
          go_simp
        show wpAnyH _ _ _ _ _ _ _ (Act.put _ (some 76) _) _
        simp only [Act.put, List.setIfInBounds_toArray, List.set_cons_zero, List.set_cons_succ]
        refine wpAnyH_ready (rs := [16]) (by kernel_rfl) (by simp) ?_
        refine AllReadyH.cons rfl (fun K hK => ?_) AllReadyH.nil
        obtain ⟨n9, hn9⟩ : ∃ n, n = (q.ans ++ [(⟨at_, an, au, ac⟩ : Ans)]).length := ⟨_, rfl⟩
        rw [← hn9] at HO ⊢
        clear hn9
        have x04 := (HD4.out.cell (p := ⟨w.heap.size, 0, none⟩) (Nat.lt_of_succ_lt hz5)).trans x0
        have x14 := (HD4.out.cell (p := ⟨w.heap.size, 1, none⟩) (Nat.lt_of_succ_lt hz5)).trans x1
        have x24 := (HD4.out.cell (p := ⟨w.heap.size, 2, none⟩) (Nat.lt_of_succ_lt hz5)).trans x2
        have z04 := (HD4.out.cell (p := ⟨w.heap.size + 1, 0, none⟩) hz5).trans z0
        have z14 := (HD4.out.cell (p := ⟨w.heap.size + 1, 1, none⟩) hz5).trans z1
        have z24 := (HD4.out.cell (p := ⟨w.heap.size + 1, 2, none⟩) hz5).trans z2
        have vv04 := (HD4.out.frozen (p := ⟨w.heap.size + 1, 0, none⟩) hz5).trans vv0
        have vv14 := (HD4.out.frozen (p := ⟨w.heap.size + 1, 1, none⟩) hz5).trans vv1
        have vv24 := (HD4.out.frozen (p := ⟨w.heap.size + 1, 2, none⟩) hz5).trans vv2
        have hrow54 := (HD4.out.cell (p := ⟨g, m * 2 + 1, none⟩) hg5).trans hrow5
        have hfro54 := (HD4.out.frozen (p := ⟨g, m * 2 + 1, none⟩) hg5).trans hfro5
        have hO8 : U4.ownsRow A0 43 2 (.slice (some ⟨g, 0, none⟩) n c8) n (p.qs.flatMap cellsQ) := by
          have h1 : U4.ownsRow A0 43 2 (.slice (some ⟨g, 0, none⟩) n c8) p.qs.length (p.qs.flatMap cellsQ) := HO5.out.kept_new HD4.out
          rwa [← HNM.out.1] at h1
        have hst1 := (World.ownsRow.stored hO8 (m * 2 + 1) (.slice A9 n9 c9)).1
        have HQ9 := Lib.hid (show OwnR cellsQ 2 (U4.setCell ⟨g, m * 2 + 1, none⟩ (.slice A9 n9 c9)) A0 43 (.slice (some ⟨g, 0, none⟩) n c8) (init ++ [⟨q.text, A9, q.ans ++ [⟨at_, an, au, ac⟩], c9⟩]) from by
          have e1 : (p.qs.flatMap cellsQ).set (m * 2 + 1) (.slice A9 n9 c9) = (init ++ [(⟨q.text, A9, q.ans ++ [⟨at_, an, au, ac⟩], c9⟩ : Ques)]).flatMap cellsQ := by
            rw [HH.out.2.2.2.2.1, HNM.out.2]
            exact flat_set cellsQ_len (by have := (OwnR.caps HO.out).1; simp [cellsQ, this])
          rw [e1] at hst1
          have e2 : n = (init ++ [(⟨q.text, A9, q.ans ++ [⟨at_, an, au, ac⟩], c9⟩ : Ques)]).length := by rw [HNM.out.1, HH.out.2.2.2.2.1]; simp
          unfold OwnR
          rw [← e2]
          exact hst1)
        have HN9 := Lib.hid (own_set HO.out hg5 (m * 2 + 1) (.slice A9 n9 c9))
        have HW9 := Lib.hid ((HW5.out.trans (HD4.out.mono HW5.out.size)).setCell (p := ⟨g, m * 2 + 1, none⟩) (show w.heap.size ≤ g by omega) (.slice A9 n9 c9))
        clear hO8 hst1
        go_simp
        refine hK.out _ _ ⟨(World.cell?_setCell_other _ _ _ _ (by intro e; injection e with e _; omega)).trans hHeld.1, (World.cell?_setCell_other _ _ _ _ (by intro e; injection e with e _; omega)).trans hHeld.2.1, (World.cell?_setCell_other _ _ _ _ (by intro e; injection e with e _; omega)).trans hHeld.2.2.1, (World.cell?_setCell_other _ _ _ _ (by intro e; injection e with e _; omega)).trans hHeld.2.2.2.1, (World.cell?_setCell_other _ _ _ _ (by intro e; injection e with e _; omega)).trans hHeld.2.2.2.2⟩ (fun _ => ?_)
        clear hK K hHeld
        refine wpAnyH_done (by kernel_rfl) ?_ _
        go_wp2_with fail
        refine bodyPost_ret (v := .tuple #[protV p.name p.ver (some ⟨g, 0, none⟩) n c8, .bool b]) (by simp [results, Tryz.results32, go_sem, z04, z14, z24, protV]) rfl ?_
        exact fin_ans HH.out.1 HH.out.2.1 HH.out.2.2.2.1 HH.out.2.2.2.2.1 HH.out.2.2.2.2.2 HNM.out.1 (by have h1 := HB.out.size; have h2 := HB1.out.size; omega) HW5.out.size HAB.out (own_set (own_set (own_set HQ9.out (b := w.heap.size + 1) (by omega) 0 _) (b := w.heap.size + 1) (by omega) 1 _) (b := w.heap.size + 1) (by omega) 2 _) (own_set (own_set (own_set HN9.out (b := w.heap.size + 1) hz5 0 _) (b := w.heap.size + 1) hz5 1 _) (b := w.heap.size + 1) hz5 2 _) (below_set3 HW9.out (b := w.heap.size + 1) (Nat.le_succ _) _ _ _)
    · have HN2 := Lib.hid (new_obj U1 (.cells #[.string at_, .int .i64 an, .int .i64 au, .string ac] 45))
      have hst := below_new U1 (.cells #[.string at_, .int .i64 an, .int .i64 au, .string ac] 45)
      go_simp
      refine hK.out _ _ ⟨(hst.cell (p := ⟨w.heap.size, 2, none⟩) (Nat.lt_of_lt_of_le (Nat.lt_of_succ_lt hz5) HD1.out.size)).trans hHeld.1, (hst.cell (p := ⟨W1.heap.size, 0, none⟩) (Nat.lt_of_lt_of_le ha5 HD1.out.size)).trans hHeld.2.1, (hst.cell (p := ⟨W1.heap.size, 1, none⟩) (Nat.lt_of_lt_of_le ha5 HD1.out.size)).trans hHeld.2.2.1, (hst.cell (p := ⟨W1.heap.size, 2, none⟩) (Nat.lt_of_lt_of_le ha5 HD1.out.size)).trans hHeld.2.2.2.1, (hst.cell (p := ⟨W1.heap.size, 3, none⟩) (Nat.lt_of_lt_of_le ha5 HD1.out.size)).trans hHeld.2.2.2.2⟩ (fun hHeld => ?_)
      clear hK K
      obtain ⟨U2, hU⟩ : ∃ U, U = U1.alloc (.cells #[.string at_, .int .i64 an, .int .i64 au, .string ac] 45) := ⟨_, rfl⟩
      rw [← hU] at HN2 hst hHeld ⊢
      have HD2 := Lib.hid (HD1.out.trans (hst.mono HD1.out.size))
      have hlN := (show U1.heap.size < U2.heap.size by rw [hU]; exact lt_new _ _)
      have HE2 := Lib.hid (HE1.out.kept_new hst)
      have hne : U0.heap.size ≠ U1.heap.size := by omega
      replace hlE := Nat.lt_of_lt_of_le hlE hst.size
      clear hU hst
      refine wpAnyH_ready (rs := [9]) (by kernel_rfl) (by simp) ?_
      refine AllReadyH.cons rfl (fun K hK => ?_) AllReadyH.nil
      have cr := (HD2.out.cell (p := ⟨g, m * 2 + 1, none⟩) hg5).trans hrow5
      go_simp
      refine hK.out _ _ hHeld (fun hHeld => ?_)
      clear hK K cr
      refine wpAnyH_ready (rs := [10]) (by kernel_rfl) (by simp) ?_
      refine AllReadyH.cons rfl (fun K hK => ?_) AllReadyH.nil
      refine step_append_recs (cs := cellsA) (s := 4) U2 (by rfl) cellsA_len (.tmp 64) (.tmp 70) 41 (by rfl) 45 Tryz.underlying41 answ_info rfl (by decide) (by decide) W5.heap.size _ [] rfl HE2.out w.heap.size q.aA q.ans.length q.ac q.ans rfl rfl (HH.out.2.2.2.1.1.2 q (by rw [HH.out.2.2.2.2.1]; simp)) (RecsAt.below (HH.out.1.ans q (by rw [HH.out.2.2.2.2.1]; simp)) (HW5.out.trans (HD2.out.mono HW5.out.size))) (fun y _ => cellsA_one y) (by simp; omega) HD2.out.size ?_
      intro v1 U3 hown1 hg1
      rw [List.nil_append] at hown1
      have HD3 := Lib.hid (HD2.out.grown hg1 HD2.out.size (fun j hj => HE2.out.ge_base j hj))
      have hoS := Only.of_grown hg1 (fun j e => e)
      have hno1 : ¬ _ = some w.heap.size := fun e => by have h1 := HE2.out.ge_base _ e; omega
      have hno2 : ¬ _ = some W1.heap.size := fun e => by have h1 := HE2.out.ge_base _ e; omega
      have HSH := Lib.hid (show _ ∧ _ ∧ _ ∧ _ ∧ _ from ⟨(hoS.cell (a := ⟨w.heap.size, 2, none⟩) (Nat.lt_of_lt_of_le (Nat.lt_of_succ_lt hz5) HD2.out.size) hno1).trans hHeld.1, (hoS.cell (a := ⟨W1.heap.size, 0, none⟩) (Nat.lt_of_lt_of_le ha5 HD2.out.size) hno2).trans hHeld.2.1, (hoS.cell (a := ⟨W1.heap.size, 1, none⟩) (Nat.lt_of_lt_of_le ha5 HD2.out.size) hno2).trans hHeld.2.2.1, (hoS.cell (a := ⟨W1.heap.size, 2, none⟩) (Nat.lt_of_lt_of_le ha5 HD2.out.size) hno2).trans hHeld.2.2.2.1, (hoS.cell (a := ⟨W1.heap.size, 3, none⟩) (Nat.lt_of_lt_of_le ha5 HD2.out.size) hno2).trans hHeld.2.2.2.2⟩)
      have HA3 := Lib.hid hown1
      have HN3 := Lib.hid ((hg1.block U1.heap.size hlN (fun e => by injection e with e; exact hne e.symm)).trans HN2.out)
      replace hlN := Nat.lt_of_lt_of_le hlN hg1.size
      clear hown1 hg1 hoS hno1 hno2
      refine hK.out _ _ HSH.out (fun hHeld => ?_)
      clear hK K HSH
      show wpAnyH _ _ _ _ _ _ _ (Act.put _ (some 71) _) _
      simp only [Act.put, List.setIfInBounds_toArray, List.set_cons_zero, List.set_cons_succ]
      refine wpAnyH_ready (rs := [13]) (by kernel_rfl) (by simp) ?_
      refine AllReadyH.cons rfl (fun K hK => ?_) AllReadyH.nil
      refine step_append_recs (cs := cellsA) (s := 4) U3 (by rfl) cellsA_len (.tmp 71) (.tmp 73) 41 (by rfl) 45 Tryz.underlying41 answ_info rfl (by decide) (by decide) W5.heap.size _ q.ans rfl HA3.out U3.heap.size (some ⟨U1.heap.size, 0, none⟩) 1 1 [⟨at_, an, au, ac⟩] rfl rfl (fun e => by cases e) (recs_row HN3.out rfl hlN) (fun y _ => cellsA_one y) (by simp; omega) HD3.out.size ?_
      intro v2 U4 hown2 hg2
      have HD4 := Lib.hid (HD3.out.grown hg2 HD3.out.size (fun j hj => HA3.out.ge_base j hj))
      have hoS := Only.of_grown hg2 (fun j e => e)
      have hno1 : ¬ _ = some w.heap.size := fun e => by have h1 := HA3.out.ge_base _ e; omega
      have hno2 : ¬ _ = some W1.heap.size := fun e => by have h1 := HA3.out.ge_base _ e; omega
      have HSH := Lib.hid (show _ ∧ _ ∧ _ ∧ _ ∧ _ from ⟨(hoS.cell (a := ⟨w.heap.size, 2, none⟩) (Nat.lt_of_lt_of_le (Nat.lt_of_succ_lt hz5) HD3.out.size) hno1).trans hHeld.1, (hoS.cell (a := ⟨W1.heap.size, 0, none⟩) (Nat.lt_of_lt_of_le ha5 HD3.out.size) hno2).trans hHeld.2.1, (hoS.cell (a := ⟨W1.heap.size, 1, none⟩) (Nat.lt_of_lt_of_le ha5 HD3.out.size) hno2).trans hHeld.2.2.1, (hoS.cell (a := ⟨W1.heap.size, 2, none⟩) (Nat.lt_of_lt_of_le ha5 HD3.out.size) hno2).trans hHeld.2.2.2.1, (hoS.cell (a := ⟨W1.heap.size, 3, none⟩) (Nat.lt_of_lt_of_le ha5 HD3.out.size) hno2).trans hHeld.2.2.2.2⟩)
      obtain ⟨A9, c9, rfl, _⟩ := OwnR.sl hown2
      have HO := Lib.hid hown2
      clear hown2 hg2 hoS hno1 hno2
      refine hK.out _ _ HSH.out (fun hHeld => ?_)
      clear hK K HSH
      show wpAnyH _ _ _ _ _ _ _ (Act.put _ (some 74) _) _
      simp only [Act.put, List.setIfInBounds_toArray, List.set_cons_zero, List.set_cons_succ]
      refine wpAnyH_take (i := 14) (v := .pointer (some ⟨g, m * 2, none⟩)) rfl (by kernel_rfl) (by kernel_rfl) (by kernel_rfl) (fun _ _ _ h => h) (Or.inl ⟨by rfl, ?_⟩) (by assumption) ?_
      · intro w hSw
        go_simp
      show wpAnyH _ _ _ _ _ _ _ (Act.put _ (some 75) _) _
      simp only [Act.put, List.setIfInBounds_toArray, List.set_cons_zero, List.set_cons_succ]
      refine wpAnyH_take (i := 15) (v := .pointer (some ⟨g, m * 2 + 1, none⟩)) rfl (by kernel_rfl) (by kernel_rfl) (by kernel_rfl) (fun _ _ _ h => h) (Or.inl ⟨by rfl, ?_⟩) (by assumption) ?_
      · intro w hSw
        go_simp
      show wpAnyH _ _ _ _ _ _ _ (Act.put _ (some 76) _) _
      simp only [Act.put, List.setIfInBounds_toArray, List.set_cons_zero, List.set_cons_succ]
      refine wpAnyH_ready (rs := [16]) (by kernel_rfl) (by simp) ?_
      refine AllReadyH.cons rfl (fun K hK => ?_) AllReadyH.nil
      obtain ⟨n9, hn9⟩ : ∃ n, n = (q.ans ++ [(⟨at_, an, au, ac⟩ : Ans)]).length := ⟨_, rfl⟩
      rw [← hn9] at HO ⊢
      clear hn9
      have x04 := (HD4.out.cell (p := ⟨w.heap.size, 0, none⟩) (Nat.lt_of_succ_lt hz5)).trans x0
      have x14 := (HD4.out.cell (p := ⟨w.heap.size, 1, none⟩) (Nat.lt_of_succ_lt hz5)).trans x1
      have x24 := (HD4.out.cell (p := ⟨w.heap.size, 2, none⟩) (Nat.lt_of_succ_lt hz5)).trans x2
      have z04 := (HD4.out.cell (p := ⟨w.heap.size + 1, 0, none⟩) hz5).trans z0
      have z14 := (HD4.out.cell (p := ⟨w.heap.size + 1, 1, none⟩) hz5).trans z1
      have z24 := (HD4.out.cell (p := ⟨w.heap.size + 1, 2, none⟩) hz5).trans z2
      have vv04 := (HD4.out.frozen (p := ⟨w.heap.size + 1, 0, none⟩) hz5).trans vv0
      have vv14 := (HD4.out.frozen (p := ⟨w.heap.size + 1, 1, none⟩) hz5).trans vv1
      have vv24 := (HD4.out.frozen (p := ⟨w.heap.size + 1, 2, none⟩) hz5).trans vv2
      have hrow54 := (HD4.out.cell (p := ⟨g, m * 2 + 1, none⟩) hg5).trans hrow5
      have hfro54 := (HD4.out.frozen (p := ⟨g, m * 2 + 1, none⟩) hg5).trans hfro5
      have hO8 : U4.ownsRow A0 43 2 (.slice (some ⟨g, 0, none⟩) n c8) n (p.qs.flatMap cellsQ) := by
        have h1 : U4.ownsRow A0 43 2 (.slice (some ⟨g, 0, none⟩) n c8) p.qs.length (p.qs.flatMap cellsQ) := HO5.out.kept_new HD4.out
        rwa [← HNM.out.1] at h1
      have hst1 := (World.ownsRow.stored hO8 (m * 2 + 1) (.slice A9 n9 c9)).1
      have HQ9 := Lib.hid (show OwnR cellsQ 2 (U4.setCell ⟨g, m * 2 + 1, none⟩ (.slice A9 n9 c9)) A0 43 (.slice (some ⟨g, 0, none⟩) n c8) (init ++ [⟨q.text, A9, q.ans ++ [⟨at_, an, au, ac⟩], c9⟩]) from by
        have e1 : (p.qs.flatMap cellsQ).set (m * 2 + 1) (.slice A9 n9 c9) = (init ++ [(⟨q.text, A9, q.ans ++ [⟨at_, an, au, ac⟩], c9⟩ : Ques)]).flatMap cellsQ := by
          rw [HH.out.2.2.2.2.1, HNM.out.2]
          exact flat_set cellsQ_len (by have := (OwnR.caps HO.out).1; simp [cellsQ, this])
        rw [e1] at hst1
        have e2 : n = (init ++ [(⟨q.text, A9, q.ans ++ [⟨at_, an, au, ac⟩], c9⟩ : Ques)]).length := by rw [HNM.out.1, HH.out.2.2.2.2.1]; simp
        unfold OwnR
        rw [← e2]
        exact hst1)
      have HN9 := Lib.hid (own_set HO.out hg5 (m * 2 + 1) (.slice A9 n9 c9))
      have HW9 := Lib.hid ((HW5.out.trans (HD4.out.mono HW5.out.size)).setCell (p := ⟨g, m * 2 + 1, none⟩) (show w.heap.size ≤ g by omega) (.slice A9 n9 c9))
      clear hO8 hst1
      go_simp
      refine hK.out _ _ ⟨(World.cell?_setCell_other _ _ _ _ (by intro e; injection e with e _; omega)).trans hHeld.1, (World.cell?_setCell_other _ _ _ _ (by intro e; injection e with e _; omega)).trans hHeld.2.1, (World.cell?_setCell_other _ _ _ _ (by intro e; injection e with e _; omega)).trans hHeld.2.2.1, (World.cell?_setCell_other _ _ _ _ (by intro e; injection e with e _; omega)).trans hHeld.2.2.2.1, (World.cell?_setCell_other _ _ _ _ (by intro e; injection e with e _; omega)).trans hHeld.2.2.2.2⟩ (fun _ => ?_)
      clear hK K hHeld
      refine wpAnyH_done (by kernel_rfl) ?_ _
      go_wp2_with fail
      refine bodyPost_ret (v := .tuple #[protV p.name p.ver (some ⟨g, 0, none⟩) n c8, .bool b]) (by simp [results, Tryz.results32, go_sem, z04, z14, z24, protV]) rfl ?_
      exact fin_ans HH.out.1 HH.out.2.1 HH.out.2.2.2.1 HH.out.2.2.2.2.1 HH.out.2.2.2.2.2 HNM.out.1 (by have h1 := HB.out.size; have h2 := HB1.out.size; omega) HW5.out.size HAB.out (own_set (own_set (own_set HQ9.out (b := w.heap.size + 1) (by omega) 0 _) (b := w.heap.size + 1) (by omega) 1 _) (b := w.heap.size + 1) (by omega) 2 _) (own_set (own_set (own_set HN9.out (b := w.heap.size + 1) hz5 0 _) (b := w.heap.size + 1) hz5 1 _) (b := w.heap.size + 1) hz5 2 _) (below_set3 HW9.out (b := w.heap.size + 1) (Nat.le_succ _) _ _ _)
  · have cr := (HD0.out.cell (p := ⟨g, m * 2 + 1, none⟩) hg5).trans hrow5
    go_simp
    refine hK.out _ _ hHeld (fun hHeld => ?_)
    clear hK K cr
    refine wpAnyH_ready (rs := [3, 12]) (by kernel_rfl) (by simp) ?_
    refine AllReadyH.cons rfl (fun K hK => ?_) (AllReadyH.cons rfl (fun K hK => ?_) AllReadyH.nil)
    · have HE1 := Lib.hid (OwnR.lit (cs := cellsA) (s := 4) (w := U0) cellsA_len W5.heap.size 45 [] (n := U0.heap.size) rfl HD0.out.size (by decide) #[] rfl)
      have hst := below_new U0 (.cells #[] 45)
      go_simp
      refine hK.out _ _ ⟨(hst.cell (p := ⟨w.heap.size, 2, none⟩) (Nat.lt_of_lt_of_le (Nat.lt_of_succ_lt hz5) HD0.out.size)).trans hHeld.1, (hst.cell (p := ⟨W1.heap.size, 0, none⟩) (Nat.lt_of_lt_of_le ha5 HD0.out.size)).trans hHeld.2.1, (hst.cell (p := ⟨W1.heap.size, 1, none⟩) (Nat.lt_of_lt_of_le ha5 HD0.out.size)).trans hHeld.2.2.1, (hst.cell (p := ⟨W1.heap.size, 2, none⟩) (Nat.lt_of_lt_of_le ha5 HD0.out.size)).trans hHeld.2.2.2.1, (hst.cell (p := ⟨W1.heap.size, 3, none⟩) (Nat.lt_of_lt_of_le ha5 HD0.out.size)).trans hHeld.2.2.2.2⟩ (fun hHeld => ?_)
      clear hK K
      obtain ⟨U1, hU⟩ : ∃ U, U = U0.alloc (.cells #[] 45) := ⟨_, rfl⟩
      rw [← hU] at HE1 hst hHeld ⊢
      have HD1 := Lib.hid (HD0.out.trans (hst.mono HD0.out.size))
      have hlE := (show U0.heap.size < U1.heap.size by rw [hU]; exact lt_new _ _)
      clear hU hst
      refine wpAnyH_ready (rs := [10, 12]) (by kernel_rfl) (by simp) ?_
      refine AllReadyH.cons rfl (fun K hK => ?_) (AllReadyH.cons rfl (fun K hK => ?_) AllReadyH.nil)
      · refine step_append_recs (cs := cellsA) (s := 4) U1 (by rfl) cellsA_len (.tmp 64) (.tmp 70) 41 (by rfl) 45 Tryz.underlying41 answ_info rfl (by decide) (by decide) W5.heap.size _ [] rfl HE1.out w.heap.size q.aA q.ans.length q.ac q.ans rfl rfl (HH.out.2.2.2.1.1.2 q (by rw [HH.out.2.2.2.2.1]; simp)) (RecsAt.below (HH.out.1.ans q (by rw [HH.out.2.2.2.2.1]; simp)) (HW5.out.trans (HD1.out.mono HW5.out.size))) (fun y _ => cellsA_one y) (by simp; omega) HD1.out.size ?_
        intro v1 U2 hown1 hg1
        rw [List.nil_append] at hown1
        have HD2 := Lib.hid (HD1.out.grown hg1 HD1.out.size (fun j hj => HE1.out.ge_base j hj))
        have hoS := Only.of_grown hg1 (fun j e => e)
        have hno1 : ¬ _ = some w.heap.size := fun e => by have h1 := HE1.out.ge_base _ e; omega
        have hno2 : ¬ _ = some W1.heap.size := fun e => by have h1 := HE1.out.ge_base _ e; omega
        have HSH := Lib.hid (show _ ∧ _ ∧ _ ∧ _ ∧ _ from ⟨(hoS.cell (a := ⟨w.heap.size, 2, none⟩) (Nat.lt_of_lt_of_le (Nat.lt_of_succ_lt hz5) HD1.out.size) hno1).trans hHeld.1, (hoS.cell (a := ⟨W1.heap.size, 0, none⟩) (Nat.lt_of_lt_of_le ha5 HD1.out.size) hno2).trans hHeld.2.1, (hoS.cell (a := ⟨W1.heap.size, 1, none⟩) (Nat.lt_of_lt_of_le ha5 HD1.out.size) hno2).trans hHeld.2.2.1, (hoS.cell (a := ⟨W1.heap.size, 2, none⟩) (Nat.lt_of_lt_of_le ha5 HD1.out.size) hno2).trans hHeld.2.2.2.1, (hoS.cell (a := ⟨W1.heap.size, 3, none⟩) (Nat.lt_of_lt_of_le ha5 HD1.out.size) hno2).trans hHeld.2.2.2.2⟩)
        have HA2 := Lib.hid hown1
        clear hown1 hg1 hoS hno1 hno2
        refine hK.out _ _ HSH.out (fun hHeld => ?_)
        clear hK K HSH
        show wpAnyH _ _ _ _ _ _ _ (Act.put _ (some 71) _) _
        simp only [Act.put, List.setIfInBounds_toArray, List.set_cons_zero, List.set_cons_succ]
        refine wpAnyH_ready (rs := [12]) (by kernel_rfl) (by simp) ?_
        refine AllReadyH.cons rfl (fun K hK => ?_) AllReadyH.nil
        have HN3 := Lib.hid (new_obj U2 (.cells #[.string at_, .int .i64 an, .int .i64 au, .string ac] 45))
        have hst := below_new U2 (.cells #[.string at_, .int .i64 an, .int .i64 au, .string ac] 45)
        go_simp
        refine hK.out _ _ ⟨(hst.cell (p := ⟨w.heap.size, 2, none⟩) (Nat.lt_of_lt_of_le (Nat.lt_of_succ_lt hz5) HD2.out.size)).trans hHeld.1, (hst.cell (p := ⟨W1.heap.size, 0, none⟩) (Nat.lt_of_lt_of_le ha5 HD2.out.size)).trans hHeld.2.1, (hst.cell (p := ⟨W1.heap.size, 1, none⟩) (Nat.lt_of_lt_of_le ha5 HD2.out.size)).trans hHeld.2.2.1, (hst.cell (p := ⟨W1.heap.size, 2, none⟩) (Nat.lt_of_lt_of_le ha5 HD2.out.size)).trans hHeld.2.2.2.1, (hst.cell (p := ⟨W1.heap.size, 3, none⟩) (Nat.lt_of_lt_of_le ha5 HD2.out.size)).trans hHeld.2.2.2.2⟩ (fun hHeld => ?_)
        clear hK K
        obtain ⟨U3, hU⟩ : ∃ U, U = U2.alloc (.cells #[.string at_, .int .i64 an, .int .i64 au, .string ac] 45) := ⟨_, rfl⟩
        rw [← hU] at HN3 hst hHeld ⊢
        have HD3 := Lib.hid (HD2.out.trans (hst.mono HD2.out.size))
        have hlN := (show U2.heap.size < U3.heap.size by rw [hU]; exact lt_new _ _)
        have HA3 := Lib.hid (HA2.out.kept_new hst)
        clear hU hst
        refine wpAnyH_ready (rs := [13]) (by kernel_rfl) (by simp) ?_
        refine AllReadyH.cons rfl (fun K hK => ?_) AllReadyH.nil
        refine step_append_recs (cs := cellsA) (s := 4) U3 (by rfl) cellsA_len (.tmp 71) (.tmp 73) 41 (by rfl) 45 Tryz.underlying41 answ_info rfl (by decide) (by decide) W5.heap.size _ q.ans rfl HA3.out U3.heap.size (some ⟨U2.heap.size, 0, none⟩) 1 1 [⟨at_, an, au, ac⟩] rfl rfl (fun e => by cases e) (recs_row HN3.out rfl hlN) (fun y _ => cellsA_one y) (by simp; omega) HD3.out.size ?_
        intro v2 U4 hown2 hg2
        have HD4 := Lib.hid (HD3.out.grown hg2 HD3.out.size (fun j hj => HA3.out.ge_base j hj))
        have hoS := Only.of_grown hg2 (fun j e => e)
        have hno1 : ¬ _ = some w.heap.size := fun e => by have h1 := HA3.out.ge_base _ e; omega
        have hno2 : ¬ _ = some W1.heap.size := fun e => by have h1 := HA3.out.ge_base _ e; omega
        have HSH := Lib.hid (show _ ∧ _ ∧ _ ∧ _ ∧ _ from ⟨(hoS.cell (a := ⟨w.heap.size, 2, none⟩) (Nat.lt_of_lt_of_le (Nat.lt_of_succ_lt hz5) HD3.out.size) hno1).trans hHeld.1, (hoS.cell (a := ⟨W1.heap.size, 0, none⟩) (Nat.lt_of_lt_of_le ha5 HD3.out.size) hno2).trans hHeld.2.1, (hoS.cell (a := ⟨W1.heap.size, 1, none⟩) (Nat.lt_of_lt_of_le ha5 HD3.out.size) hno2).trans hHeld.2.2.1, (hoS.cell (a := ⟨W1.heap.size, 2, none⟩) (Nat.lt_of_lt_of_le ha5 HD3.out.size) hno2).trans hHeld.2.2.2.1, (hoS.cell (a := ⟨W1.heap.size, 3, none⟩) (Nat.lt_of_lt_of_le ha5 HD3.out.size) hno2).trans hHeld.2.2.2.2⟩)
        obtain ⟨A9, c9, rfl, _⟩ := OwnR.sl hown2
        have HO := Lib.hid hown2
        clear hown2 hg2 hoS hno1 hno2
        refine hK.out _ _ HSH.out (fun hHeld => ?_)
        clear hK K HSH
        show wpAnyH _ _ _ _ _ _ _ (Act.put _ (some 74) _) _
        simp only [Act.put, List.setIfInBounds_toArray, List.set_cons_zero, List.set_cons_succ]
        refine wpAnyH_take (i := 14) (v := .pointer (some ⟨g, m * 2, none⟩)) rfl (by kernel_rfl) (by kernel_rfl) (by kernel_rfl) (fun _ _ _ h => h) (Or.inl ⟨by rfl, ?_⟩) (by assumption) ?_
        · intro w hSw
          go_simp
        show wpAnyH _ _ _ _ _ _ _ (Act.put _ (some 75) _) _
        simp only [Act.put, List.setIfInBounds_toArray, List.set_cons_zero, List.set_cons_succ]
        refine wpAnyH_take (i := 15) (v := .pointer (some ⟨g, m * 2 + 1, none⟩)) rfl (by kernel_rfl) (by kernel_rfl) (by kernel_rfl) (fun _ _ _ h => h) (Or.inl ⟨by rfl, ?_⟩) (by assumption) ?_
        · intro w hSw
          go_simp
        show wpAnyH _ _ _ _ _ _ _ (Act.put _ (some 76) _) _
        simp only [Act.put, List.setIfInBounds_toArray, List.set_cons_zero, List.set_cons_succ]
        refine wpAnyH_ready (rs := [16]) (by kernel_rfl) (by simp) ?_
        refine AllReadyH.cons rfl (fun K hK => ?_) AllReadyH.nil
        obtain ⟨n9, hn9⟩ : ∃ n, n = (q.ans ++ [(⟨at_, an, au, ac⟩ : Ans)]).length := ⟨_, rfl⟩
        rw [← hn9] at HO ⊢
        clear hn9
        have x04 := (HD4.out.cell (p := ⟨w.heap.size, 0, none⟩) (Nat.lt_of_succ_lt hz5)).trans x0
        have x14 := (HD4.out.cell (p := ⟨w.heap.size, 1, none⟩) (Nat.lt_of_succ_lt hz5)).trans x1
        have x24 := (HD4.out.cell (p := ⟨w.heap.size, 2, none⟩) (Nat.lt_of_succ_lt hz5)).trans x2
        have z04 := (HD4.out.cell (p := ⟨w.heap.size + 1, 0, none⟩) hz5).trans z0
        have z14 := (HD4.out.cell (p := ⟨w.heap.size + 1, 1, none⟩) hz5).trans z1
        have z24 := (HD4.out.cell (p := ⟨w.heap.size + 1, 2, none⟩) hz5).trans z2
        have vv04 := (HD4.out.frozen (p := ⟨w.heap.size + 1, 0, none⟩) hz5).trans vv0
        have vv14 := (HD4.out.frozen (p := ⟨w.heap.size + 1, 1, none⟩) hz5).trans vv1
        have vv24 := (HD4.out.frozen (p := ⟨w.heap.size + 1, 2, none⟩) hz5).trans vv2
        have hrow54 := (HD4.out.cell (p := ⟨g, m * 2 + 1, none⟩) hg5).trans hrow5
        have hfro54 := (HD4.out.frozen (p := ⟨g, m * 2 + 1, none⟩) hg5).trans hfro5
        have hO8 : U4.ownsRow A0 43 2 (.slice (some ⟨g, 0, none⟩) n c8) n (p.qs.flatMap cellsQ) := by
          have h1 : U4.ownsRow A0 43 2 (.slice (some ⟨g, 0, none⟩) n c8) p.qs.length (p.qs.flatMap cellsQ) := HO5.out.kept_new HD4.out
          rwa [← HNM.out.1] at h1
        have hst1 := (World.ownsRow.stored hO8 (m * 2 + 1) (.slice A9 n9 c9)).1
        have HQ9 := Lib.hid (show OwnR cellsQ 2 (U4.setCell ⟨g, m * 2 + 1, none⟩ (.slice A9 n9 c9)) A0 43 (.slice (some ⟨g, 0, none⟩) n c8) (init ++ [⟨q.text, A9, q.ans ++ [⟨at_, an, au, ac⟩], c9⟩]) from by
          have e1 : (p.qs.flatMap cellsQ).set (m * 2 + 1) (.slice A9 n9 c9) = (init ++ [(⟨q.text, A9, q.ans ++ [⟨at_, an, au, ac⟩], c9⟩ : Ques)]).flatMap cellsQ := by
            rw [HH.out.2.2.2.2.1, HNM.out.2]
            exact flat_set cellsQ_len (by have := (OwnR.caps HO.out).1; simp [cellsQ, this])
          rw [e1] at hst1
          have e2 : n = (init ++ [(⟨q.text, A9, q.ans ++ [⟨at_, an, au, ac⟩], c9⟩ : Ques)]).length := by rw [HNM.out.1, HH.out.2.2.2.2.1]; simp
          unfold OwnR
          rw [← e2]
          exact hst1)
        have HN9 := Lib.hid (own_set HO.out hg5 (m * 2 + 1) (.slice A9 n9 c9))
        have HW9 := Lib.hid ((HW5.out.trans (HD4.out.mono HW5.out.size)).setCell (p := ⟨g, m * 2 + 1, none⟩) (show w.heap.size ≤ g by omega) (.slice A9 n9 c9))
        clear hO8 hst1
        go_simp
        refine hK.out _ _ ⟨(World.cell?_setCell_other _ _ _ _ (by intro e; injection e with e _; omega)).trans hHeld.1, (World.cell?_setCell_other _ _ _ _ (by intro e; injection e with e _; omega)).trans hHeld.2.1, (World.cell?_setCell_other _ _ _ _ (by intro e; injection e with e _; omega)).trans hHeld.2.2.1, (World.cell?_setCell_other _ _ _ _ (by intro e; injection e with e _; omega)).trans hHeld.2.2.2.1, (World.cell?_setCell_other _ _ _ _ (by intro e; injection e with e _; omega)).trans hHeld.2.2.2.2⟩ (fun _ => ?_)
        clear hK K hHeld
        refine wpAnyH_done (by kernel_rfl) ?_ _
        go_wp2_with fail
        refine bodyPost_ret (v := .tuple #[protV p.name p.ver (some ⟨g, 0, none⟩) n c8, .bool b]) (by simp [results, Tryz.results32, go_sem, z04, z14, z24, protV]) rfl ?_
        exact fin_ans HH.out.1 HH.out.2.1 HH.out.2.2.2.1 HH.out.2.2.2.2.1 HH.out.2.2.2.2.2 HNM.out.1 (by have h1 := HB.out.size; have h2 := HB1.out.size; omega) HW5.out.size HAB.out (own_set (own_set (own_set HQ9.out (b := w.heap.size + 1) (by omega) 0 _) (b := w.heap.size + 1) (by omega) 1 _) (b := w.heap.size + 1) (by omega) 2 _) (own_set (own_set (own_set HN9.out (b := w.heap.size + 1) hz5 0 _) (b := w.heap.size + 1) hz5 1 _) (b := w.heap.size + 1) hz5 2 _) (below_set3 HW9.out (b := w.heap.size + 1) (Nat.le_succ _) _ _ _)
      · have HN2 := Lib.hid (new_obj U1 (.cells #[.string at_, .int .i64 an, .int .i64 au, .string ac] 45))
        have hst := below_new U1 (.cells #[.string at_, .int .i64 an, .int .i64 au, .string ac] 45)
        go_simp
        refine hK.out _ _ ⟨(hst.cell (p := ⟨w.heap.size, 2, none⟩) (Nat.lt_of_lt_of_le (Nat.lt_of_succ_lt hz5) HD1.out.size)).trans hHeld.1, (hst.cell (p := ⟨W1.heap.size, 0, none⟩) (Nat.lt_of_lt_of_le ha5 HD1.out.size)).trans hHeld.2.1, (hst.cell (p := ⟨W1.heap.size, 1, none⟩) (Nat.lt_of_lt_of_le ha5 HD1.out.size)).trans hHeld.2.2.1, (hst.cell (p := ⟨W1.heap.size, 2, none⟩) (Nat.lt_of_lt_of_le ha5 HD1.out.size)).trans hHeld.2.2.2.1, (hst.cell (p := ⟨W1.heap.size, 3, none⟩) (Nat.lt_of_lt_of_le ha5 HD1.out.size)).trans hHeld.2.2.2.2⟩ (fun hHeld => ?_)
        clear hK K
        obtain ⟨U2, hU⟩ : ∃ U, U = U1.alloc (.cells #[.string at_, .int .i64 an, .int .i64 au, .string ac] 45) := ⟨_, rfl⟩
        rw [← hU] at HN2 hst hHeld ⊢
        have HD2 := Lib.hid (HD1.out.trans (hst.mono HD1.out.size))
        have hlN := (show U1.heap.size < U2.heap.size by rw [hU]; exact lt_new _ _)
        have HE2 := Lib.hid (HE1.out.kept_new hst)
        have hne : U0.heap.size ≠ U1.heap.size := by omega
        replace hlE := Nat.lt_of_lt_of_le hlE hst.size
        clear hU hst
        refine wpAnyH_ready (rs := [10]) (by kernel_rfl) (by simp) ?_
        refine AllReadyH.cons rfl (fun K hK => ?_) AllReadyH.nil
        refine step_append_recs (cs := cellsA) (s := 4) U2 (by rfl) cellsA_len (.tmp 64) (.tmp 70) 41 (by rfl) 45 Tryz.underlying41 answ_info rfl (by decide) (by decide) W5.heap.size _ [] rfl HE2.out w.heap.size q.aA q.ans.length q.ac q.ans rfl rfl (HH.out.2.2.2.1.1.2 q (by rw [HH.out.2.2.2.2.1]; simp)) (RecsAt.below (HH.out.1.ans q (by rw [HH.out.2.2.2.2.1]; simp)) (HW5.out.trans (HD2.out.mono HW5.out.size))) (fun y _ => cellsA_one y) (by simp; omega) HD2.out.size ?_
        intro v1 U3 hown1 hg1
        rw [List.nil_append] at hown1
        have HD3 := Lib.hid (HD2.out.grown hg1 HD2.out.size (fun j hj => HE2.out.ge_base j hj))
        have hoS := Only.of_grown hg1 (fun j e => e)
        have hno1 : ¬ _ = some w.heap.size := fun e => by have h1 := HE2.out.ge_base _ e; omega
        have hno2 : ¬ _ = some W1.heap.size := fun e => by have h1 := HE2.out.ge_base _ e; omega
        have HSH := Lib.hid (show _ ∧ _ ∧ _ ∧ _ ∧ _ from ⟨(hoS.cell (a := ⟨w.heap.size, 2, none⟩) (Nat.lt_of_lt_of_le (Nat.lt_of_succ_lt hz5) HD2.out.size) hno1).trans hHeld.1, (hoS.cell (a := ⟨W1.heap.size, 0, none⟩) (Nat.lt_of_lt_of_le ha5 HD2.out.size) hno2).trans hHeld.2.1, (hoS.cell (a := ⟨W1.heap.size, 1, none⟩) (Nat.lt_of_lt_of_le ha5 HD2.out.size) hno2).trans hHeld.2.2.1, (hoS.cell (a := ⟨W1.heap.size, 2, none⟩) (Nat.lt_of_lt_of_le ha5 HD2.out.size) hno2).trans hHeld.2.2.2.1, (hoS.cell (a := ⟨W1.heap.size, 3, none⟩) (Nat.lt_of_lt_of_le ha5 HD2.out.size) hno2).trans hHeld.2.2.2.2⟩)
        have HA3 := Lib.hid hown1
        have HN3 := Lib.hid ((hg1.block U1.heap.size hlN (fun e => by injection e with e; exact hne e.symm)).trans HN2.out)
        replace hlN := Nat.lt_of_lt_of_le hlN hg1.size
        clear hown1 hg1 hoS hno1 hno2
        refine hK.out _ _ HSH.out (fun hHeld => ?_)
        clear hK K HSH
        show wpAnyH _ _ _ _ _ _ _ (Act.put _ (some 71) _) _
        simp only [Act.put, List.setIfInBounds_toArray, List.set_cons_zero, List.set_cons_succ]
        refine wpAnyH_ready (rs := [13]) (by kernel_rfl) (by simp) ?_
        refine AllReadyH.cons rfl (fun K hK => ?_) AllReadyH.nil
        refine step_append_recs (cs := cellsA) (s := 4) U3 (by rfl) cellsA_len (.tmp 71) (.tmp 73) 41 (by rfl) 45 Tryz.underlying41 answ_info rfl (by decide) (by decide) W5.heap.size _ q.ans rfl HA3.out U3.heap.size (some ⟨U1.heap.size, 0, none⟩) 1 1 [⟨at_, an, au, ac⟩] rfl rfl (fun e => by cases e) (recs_row HN3.out rfl hlN) (fun y _ => cellsA_one y) (by simp; omega) HD3.out.size ?_
        intro v2 U4 hown2 hg2
        have HD4 := Lib.hid (HD3.out.grown hg2 HD3.out.size (fun j hj => HA3.out.ge_base j hj))
        have hoS := Only.of_grown hg2 (fun j e => e)
        have hno1 : ¬ _ = some w.heap.size := fun e => by have h1 := HA3.out.ge_base _ e; omega
        have hno2 : ¬ _ = some W1.heap.size := fun e => by have h1 := HA3.out.ge_base _ e; omega
        have HSH := Lib.hid (show _ ∧ _ ∧ _ ∧ _ ∧ _ from ⟨(hoS.cell (a := ⟨w.heap.size, 2, none⟩) (Nat.lt_of_lt_of_le (Nat.lt_of_succ_lt hz5) HD3.out.size) hno1).trans hHeld.1, (hoS.cell (a := ⟨W1.heap.size, 0, none⟩) (Nat.lt_of_lt_of_le ha5 HD3.out.size) hno2).trans hHeld.2.1, (hoS.cell (a := ⟨W1.heap.size, 1, none⟩) (Nat.lt_of_lt_of_le ha5 HD3.out.size) hno2).trans hHeld.2.2.1, (hoS.cell (a := ⟨W1.heap.size, 2, none⟩) (Nat.lt_of_lt_of_le ha5 HD3.out.size) hno2).trans hHeld.2.2.2.1, (hoS.cell (a := ⟨W1.heap.size, 3, none⟩) (Nat.lt_of_lt_of_le ha5 HD3.out.size) hno2).trans hHeld.2.2.2.2⟩)
        obtain ⟨A9, c9, rfl, _⟩ := OwnR.sl hown2
        have HO := Lib.hid hown2
        clear hown2 hg2 hoS hno1 hno2
        refine hK.out _ _ HSH.out (fun hHeld => ?_)
        clear hK K HSH
        show wpAnyH _ _ _ _ _ _ _ (Act.put _ (some 74) _) _
        simp only [Act.put, List.setIfInBounds_toArray, List.set_cons_zero, List.set_cons_succ]
        refine wpAnyH_take (i := 14) (v := .pointer (some ⟨g, m * 2, none⟩)) rfl (by kernel_rfl) (by kernel_rfl) (by kernel_rfl) (fun _ _ _ h => h) (Or.inl ⟨by rfl, ?_⟩) (by assumption) ?_
        · intro w hSw
          go_simp
        show wpAnyH _ _ _ _ _ _ _ (Act.put _ (some 75) _) _
        simp only [Act.put, List.setIfInBounds_toArray, List.set_cons_zero, List.set_cons_succ]
        refine wpAnyH_take (i := 15) (v := .pointer (some ⟨g, m * 2 + 1, none⟩)) rfl (by kernel_rfl) (by kernel_rfl) (by kernel_rfl) (fun _ _ _ h => h) (Or.inl ⟨by rfl, ?_⟩) (by assumption) ?_
        · intro w hSw
          go_simp
        show wpAnyH _ _ _ _ _ _ _ (Act.put _ (some 76) _) _
        simp only [Act.put, List.setIfInBounds_toArray, List.set_cons_zero, List.set_cons_succ]
        refine wpAnyH_ready (rs := [16]) (by kernel_rfl) (by simp) ?_
        refine AllReadyH.cons rfl (fun K hK => ?_) AllReadyH.nil
        obtain ⟨n9, hn9⟩ : ∃ n, n = (q.ans ++ [(⟨at_, an, au, ac⟩ : Ans)]).length := ⟨_, rfl⟩
        rw [← hn9] at HO ⊢
        clear hn9
        have x04 := (HD4.out.cell (p := ⟨w.heap.size, 0, none⟩) (Nat.lt_of_succ_lt hz5)).trans x0
        have x14 := (HD4.out.cell (p := ⟨w.heap.size, 1, none⟩) (Nat.lt_of_succ_lt hz5)).trans x1
        have x24 := (HD4.out.cell (p := ⟨w.heap.size, 2, none⟩) (Nat.lt_of_succ_lt hz5)).trans x2
        have z04 := (HD4.out.cell (p := ⟨w.heap.size + 1, 0, none⟩) hz5).trans z0
        have z14 := (HD4.out.cell (p := ⟨w.heap.size + 1, 1, none⟩) hz5).trans z1
        have z24 := (HD4.out.cell (p := ⟨w.heap.size + 1, 2, none⟩) hz5).trans z2
        have vv04 := (HD4.out.frozen (p := ⟨w.heap.size + 1, 0, none⟩) hz5).trans vv0
        have vv14 := (HD4.out.frozen (p := ⟨w.heap.size + 1, 1, none⟩) hz5).trans vv1
        have vv24 := (HD4.out.frozen (p := ⟨w.heap.size + 1, 2, none⟩) hz5).trans vv2
        have hrow54 := (HD4.out.cell (p := ⟨g, m * 2 + 1, none⟩) hg5).trans hrow5
        have hfro54 := (HD4.out.frozen (p := ⟨g, m * 2 + 1, none⟩) hg5).trans hfro5
        have hO8 : U4.ownsRow A0 43 2 (.slice (some ⟨g, 0, none⟩) n c8) n (p.qs.flatMap cellsQ) := by
          have h1 : U4.ownsRow A0 43 2 (.slice (some ⟨g, 0, none⟩) n c8) p.qs.length (p.qs.flatMap cellsQ) := HO5.out.kept_new HD4.out
          rwa [← HNM.out.1] at h1
        have hst1 := (World.ownsRow.stored hO8 (m * 2 + 1) (.slice A9 n9 c9)).1
        have HQ9 := Lib.hid (show OwnR cellsQ 2 (U4.setCell ⟨g, m * 2 + 1, none⟩ (.slice A9 n9 c9)) A0 43 (.slice (some ⟨g, 0, none⟩) n c8) (init ++ [⟨q.text, A9, q.ans ++ [⟨at_, an, au, ac⟩], c9⟩]) from by
          have e1 : (p.qs.flatMap cellsQ).set (m * 2 + 1) (.slice A9 n9 c9) = (init ++ [(⟨q.text, A9, q.ans ++ [⟨at_, an, au, ac⟩], c9⟩ : Ques)]).flatMap cellsQ := by
            rw [HH.out.2.2.2.2.1, HNM.out.2]
            exact flat_set cellsQ_len (by have := (OwnR.caps HO.out).1; simp [cellsQ, this])
          rw [e1] at hst1
          have e2 : n = (init ++ [(⟨q.text, A9, q.ans ++ [⟨at_, an, au, ac⟩], c9⟩ : Ques)]).length := by rw [HNM.out.1, HH.out.2.2.2.2.1]; simp
          unfold OwnR
          rw [← e2]
          exact hst1)
        have HN9 := Lib.hid (own_set HO.out hg5 (m * 2 + 1) (.slice A9 n9 c9))
        have HW9 := Lib.hid ((HW5.out.trans (HD4.out.mono HW5.out.size)).setCell (p := ⟨g, m * 2 + 1, none⟩) (show w.heap.size ≤ g by omega) (.slice A9 n9 c9))
        clear hO8 hst1
        go_simp
        refine hK.out _ _ ⟨(World.cell?_setCell_other _ _ _ _ (by intro e; injection e with e _; omega)).trans hHeld.1, (World.cell?_setCell_other _ _ _ _ (by intro e; injection e with e _; omega)).trans hHeld.2.1, (World.cell?_setCell_other _ _ _ _ (by intro e; injection e with e _; omega)).trans hHeld.2.2.1, (World.cell?_setCell_other _ _ _ _ (by intro e; injection e with e _; omega)).trans hHeld.2.2.2.1, (World.cell?_setCell_other _ _ _ _ (by intro e; injection e with e _; omega)).trans hHeld.2.2.2.2⟩ (fun _ => ?_)
        clear hK K hHeld
        refine wpAnyH_done (by kernel_rfl) ?_ _
        go_wp2_with fail
        refine bodyPost_ret (v := .tuple #[protV p.name p.ver (some ⟨g, 0, none⟩) n c8, .bool b]) (by simp [results, Tryz.results32, go_sem, z04, z14, z24, protV]) rfl ?_
        exact fin_ans HH.out.1 HH.out.2.1 HH.out.2.2.2.1 HH.out.2.2.2.2.1 HH.out.2.2.2.2.2 HNM.out.1 (by have h1 := HB.out.size; have h2 := HB1.out.size; omega) HW5.out.size HAB.out (own_set (own_set (own_set HQ9.out (b := w.heap.size + 1) (by omega) 0 _) (b := w.heap.size + 1) (by omega) 1 _) (b := w.heap.size + 1) (by omega) 2 _) (own_set (own_set (own_set HN9.out (b := w.heap.size + 1) hz5 0 _) (b := w.heap.size + 1) hz5 1 _) (b := w.heap.size + 1) hz5 2 _) (below_set3 HW9.out (b := w.heap.size + 1) (Nat.le_succ _) _ _ _)
    · have HN1 := Lib.hid (new_obj U0 (.cells #[.string at_, .int .i64 an, .int .i64 au, .string ac] 45))
      have hst := below_new U0 (.cells #[.string at_, .int .i64 an, .int .i64 au, .string ac] 45)
      go_simp
      refine hK.out _ _ ⟨(hst.cell (p := ⟨w.heap.size, 2, none⟩) (Nat.lt_of_lt_of_le (Nat.lt_of_succ_lt hz5) HD0.out.size)).trans hHeld.1, (hst.cell (p := ⟨W1.heap.size, 0, none⟩) (Nat.lt_of_lt_of_le ha5 HD0.out.size)).trans hHeld.2.1, (hst.cell (p := ⟨W1.heap.size, 1, none⟩) (Nat.lt_of_lt_of_le ha5 HD0.out.size)).trans hHeld.2.2.1, (hst.cell (p := ⟨W1.heap.size, 2, none⟩) (Nat.lt_of_lt_of_le ha5 HD0.out.size)).trans hHeld.2.2.2.1, (hst.cell (p := ⟨W1.heap.size, 3, none⟩) (Nat.lt_of_lt_of_le ha5 HD0.out.size)).trans hHeld.2.2.2.2⟩ (fun hHeld => ?_)
      clear hK K
      obtain ⟨U1, hU⟩ : ∃ U, U = U0.alloc (.cells #[.string at_, .int .i64 an, .int .i64 au, .string ac] 45) := ⟨_, rfl⟩
      rw [← hU] at HN1 hst hHeld ⊢
      have HD1 := Lib.hid (HD0.out.trans (hst.mono HD0.out.size))
      have hlN := (show U0.heap.size < U1.heap.size by rw [hU]; exact lt_new _ _)
      clear hU hst
      refine wpAnyH_ready (rs := [3]) (by kernel_rfl) (by simp) ?_
      refine AllReadyH.cons rfl (fun K hK => ?_) AllReadyH.nil
      have HE2 := Lib.hid (OwnR.lit (cs := cellsA) (s := 4) (w := U1) cellsA_len W5.heap.size 45 [] (n := U1.heap.size) rfl HD1.out.size (by decide) #[] rfl)
      have hst := below_new U1 (.cells #[] 45)
      go_simp
      refine hK.out _ _ ⟨(hst.cell (p := ⟨w.heap.size, 2, none⟩) (Nat.lt_of_lt_of_le (Nat.lt_of_succ_lt hz5) HD1.out.size)).trans hHeld.1, (hst.cell (p := ⟨W1.heap.size, 0, none⟩) (Nat.lt_of_lt_of_le ha5 HD1.out.size)).trans hHeld.2.1, (hst.cell (p := ⟨W1.heap.size, 1, none⟩) (Nat.lt_of_lt_of_le ha5 HD1.out.size)).trans hHeld.2.2.1, (hst.cell (p := ⟨W1.heap.size, 2, none⟩) (Nat.lt_of_lt_of_le ha5 HD1.out.size)).trans hHeld.2.2.2.1, (hst.cell (p := ⟨W1.heap.size, 3, none⟩) (Nat.lt_of_lt_of_le ha5 HD1.out.size)).trans hHeld.2.2.2.2⟩ (fun hHeld => ?_)
      clear hK K
      obtain ⟨U2, hU⟩ : ∃ U, U = U1.alloc (.cells #[] 45) := ⟨_, rfl⟩
      rw [← hU] at HE2 hst hHeld ⊢
      have HD2 := Lib.hid (HD1.out.trans (hst.mono HD1.out.size))
      have hlE := (show U1.heap.size < U2.heap.size by rw [hU]; exact lt_new _ _)
      have HN2 := Lib.hid ((hst.block U0.heap.size hlN).trans HN1.out)
      have hne : U1.heap.size ≠ U0.heap.size := by omega
      replace hlN := Nat.lt_of_lt_of_le hlN hst.size
      clear hU hst
      refine wpAnyH_ready (rs := [10]) (by kernel_rfl) (by simp) ?_
      refine AllReadyH.cons rfl (fun K hK => ?_) AllReadyH.nil
      refine step_append_recs (cs := cellsA) (s := 4) U2 (by rfl) cellsA_len (.tmp 64) (.tmp 70) 41 (by rfl) 45 Tryz.underlying41 answ_info rfl (by decide) (by decide) W5.heap.size _ [] rfl HE2.out w.heap.size q.aA q.ans.length q.ac q.ans rfl rfl (HH.out.2.2.2.1.1.2 q (by rw [HH.out.2.2.2.2.1]; simp)) (RecsAt.below (HH.out.1.ans q (by rw [HH.out.2.2.2.2.1]; simp)) (HW5.out.trans (HD2.out.mono HW5.out.size))) (fun y _ => cellsA_one y) (by simp; omega) HD2.out.size ?_
      intro v1 U3 hown1 hg1
      rw [List.nil_append] at hown1
      have HD3 := Lib.hid (HD2.out.grown hg1 HD2.out.size (fun j hj => HE2.out.ge_base j hj))
      have hoS := Only.of_grown hg1 (fun j e => e)
      have hno1 : ¬ _ = some w.heap.size := fun e => by have h1 := HE2.out.ge_base _ e; omega
      have hno2 : ¬ _ = some W1.heap.size := fun e => by have h1 := HE2.out.ge_base _ e; omega
      have HSH := Lib.hid (show _ ∧ _ ∧ _ ∧ _ ∧ _ from ⟨(hoS.cell (a := ⟨w.heap.size, 2, none⟩) (Nat.lt_of_lt_of_le (Nat.lt_of_succ_lt hz5) HD2.out.size) hno1).trans hHeld.1, (hoS.cell (a := ⟨W1.heap.size, 0, none⟩) (Nat.lt_of_lt_of_le ha5 HD2.out.size) hno2).trans hHeld.2.1, (hoS.cell (a := ⟨W1.heap.size, 1, none⟩) (Nat.lt_of_lt_of_le ha5 HD2.out.size) hno2).trans hHeld.2.2.1, (hoS.cell (a := ⟨W1.heap.size, 2, none⟩) (Nat.lt_of_lt_of_le ha5 HD2.out.size) hno2).trans hHeld.2.2.2.1, (hoS.cell (a := ⟨W1.heap.size, 3, none⟩) (Nat.lt_of_lt_of_le ha5 HD2.out.size) hno2).trans hHeld.2.2.2.2⟩)
      have HA3 := Lib.hid hown1
      have HN3 := Lib.hid ((hg1.block U0.heap.size hlN (fun e => by injection e with e; exact hne e.symm)).trans HN2.out)
      replace hlN := Nat.lt_of_lt_of_le hlN hg1.size
      clear hown1 hg1 hoS hno1 hno2
      refine hK.out _ _ HSH.out (fun hHeld => ?_)
      clear hK K HSH
      show wpAnyH _ _ _ _ _ _ _ (Act.put _ (some 71) _) _
      simp only [Act.put, List.setIfInBounds_toArray, List.set_cons_zero, List.set_cons_succ]
      refine wpAnyH_ready (rs := [13]) (by kernel_rfl) (by simp) ?_
      refine AllReadyH.cons rfl (fun K hK => ?_) AllReadyH.nil
      refine step_append_recs (cs := cellsA) (s := 4) U3 (by rfl) cellsA_len (.tmp 71) (.tmp 73) 41 (by rfl) 45 Tryz.underlying41 answ_info rfl (by decide) (by decide) W5.heap.size _ q.ans rfl HA3.out U3.heap.size (some ⟨U0.heap.size, 0, none⟩) 1 1 [⟨at_, an, au, ac⟩] rfl rfl (fun e => by cases e) (recs_row HN3.out rfl hlN) (fun y _ => cellsA_one y) (by simp; omega) HD3.out.size ?_
      intro v2 U4 hown2 hg2
      have HD4 := Lib.hid (HD3.out.grown hg2 HD3.out.size (fun j hj => HA3.out.ge_base j hj))
      have hoS := Only.of_grown hg2 (fun j e => e)
      have hno1 : ¬ _ = some w.heap.size := fun e => by have h1 := HA3.out.ge_base _ e; omega
      have hno2 : ¬ _ = some W1.heap.size := fun e => by have h1 := HA3.out.ge_base _ e; omega
      have HSH := Lib.hid (show _ ∧ _ ∧ _ ∧ _ ∧ _ from ⟨(hoS.cell (a := ⟨w.heap.size, 2, none⟩) (Nat.lt_of_lt_of_le (Nat.lt_of_succ_lt hz5) HD3.out.size) hno1).trans hHeld.1, (hoS.cell (a := ⟨W1.heap.size, 0, none⟩) (Nat.lt_of_lt_of_le ha5 HD3.out.size) hno2).trans hHeld.2.1, (hoS.cell (a := ⟨W1.heap.size, 1, none⟩) (Nat.lt_of_lt_of_le ha5 HD3.out.size) hno2).trans hHeld.2.2.1, (hoS.cell (a := ⟨W1.heap.size, 2, none⟩) (Nat.lt_of_lt_of_le ha5 HD3.out.size) hno2).trans hHeld.2.2.2.1, (hoS.cell (a := ⟨W1.heap.size, 3, none⟩) (Nat.lt_of_lt_of_le ha5 HD3.out.size) hno2).trans hHeld.2.2.2.2⟩)
      obtain ⟨A9, c9, rfl, _⟩ := OwnR.sl hown2
      have HO := Lib.hid hown2
      clear hown2 hg2 hoS hno1 hno2
      refine hK.out _ _ HSH.out (fun hHeld => ?_)
      clear hK K HSH
      show wpAnyH _ _ _ _ _ _ _ (Act.put _ (some 74) _) _
      simp only [Act.put, List.setIfInBounds_toArray, List.set_cons_zero, List.set_cons_succ]
      refine wpAnyH_take (i := 14) (v := .pointer (some ⟨g, m * 2, none⟩)) rfl (by kernel_rfl) (by kernel_rfl) (by kernel_rfl) (fun _ _ _ h => h) (Or.inl ⟨by rfl, ?_⟩) (by assumption) ?_
      · intro w hSw
        go_simp
      show wpAnyH _ _ _ _ _ _ _ (Act.put _ (some 75) _) _
      simp only [Act.put, List.setIfInBounds_toArray, List.set_cons_zero, List.set_cons_succ]
      refine wpAnyH_take (i := 15) (v := .pointer (some ⟨g, m * 2 + 1, none⟩)) rfl (by kernel_rfl) (by kernel_rfl) (by kernel_rfl) (fun _ _ _ h => h) (Or.inl ⟨by rfl, ?_⟩) (by assumption) ?_
      · intro w hSw
        go_simp
      show wpAnyH _ _ _ _ _ _ _ (Act.put _ (some 76) _) _
      simp only [Act.put, List.setIfInBounds_toArray, List.set_cons_zero, List.set_cons_succ]
      refine wpAnyH_ready (rs := [16]) (by kernel_rfl) (by simp) ?_
      refine AllReadyH.cons rfl (fun K hK => ?_) AllReadyH.nil
      obtain ⟨n9, hn9⟩ : ∃ n, n = (q.ans ++ [(⟨at_, an, au, ac⟩ : Ans)]).length := ⟨_, rfl⟩
      rw [← hn9] at HO ⊢
      clear hn9
      have x04 := (HD4.out.cell (p := ⟨w.heap.size, 0, none⟩) (Nat.lt_of_succ_lt hz5)).trans x0
      have x14 := (HD4.out.cell (p := ⟨w.heap.size, 1, none⟩) (Nat.lt_of_succ_lt hz5)).trans x1
      have x24 := (HD4.out.cell (p := ⟨w.heap.size, 2, none⟩) (Nat.lt_of_succ_lt hz5)).trans x2
      have z04 := (HD4.out.cell (p := ⟨w.heap.size + 1, 0, none⟩) hz5).trans z0
      have z14 := (HD4.out.cell (p := ⟨w.heap.size + 1, 1, none⟩) hz5).trans z1
      have z24 := (HD4.out.cell (p := ⟨w.heap.size + 1, 2, none⟩) hz5).trans z2
      have vv04 := (HD4.out.frozen (p := ⟨w.heap.size + 1, 0, none⟩) hz5).trans vv0
      have vv14 := (HD4.out.frozen (p := ⟨w.heap.size + 1, 1, none⟩) hz5).trans vv1
      have vv24 := (HD4.out.frozen (p := ⟨w.heap.size + 1, 2, none⟩) hz5).trans vv2
      have hrow54 := (HD4.out.cell (p := ⟨g, m * 2 + 1, none⟩) hg5).trans hrow5
      have hfro54 := (HD4.out.frozen (p := ⟨g, m * 2 + 1, none⟩) hg5).trans hfro5
      have hO8 : U4.ownsRow A0 43 2 (.slice (some ⟨g, 0, none⟩) n c8) n (p.qs.flatMap cellsQ) := by
        have h1 : U4.ownsRow A0 43 2 (.slice (some ⟨g, 0, none⟩) n c8) p.qs.length (p.qs.flatMap cellsQ) := HO5.out.kept_new HD4.out
        rwa [← HNM.out.1] at h1
      have hst1 := (World.ownsRow.stored hO8 (m * 2 + 1) (.slice A9 n9 c9)).1
      have HQ9 := Lib.hid (show OwnR cellsQ 2 (U4.setCell ⟨g, m * 2 + 1, none⟩ (.slice A9 n9 c9)) A0 43 (.slice (some ⟨g, 0, none⟩) n c8) (init ++ [⟨q.text, A9, q.ans ++ [⟨at_, an, au, ac⟩], c9⟩]) from by
        have e1 : (p.qs.flatMap cellsQ).set (m * 2 + 1) (.slice A9 n9 c9) = (init ++ [(⟨q.text, A9, q.ans ++ [⟨at_, an, au, ac⟩], c9⟩ : Ques)]).flatMap cellsQ := by
          rw [HH.out.2.2.2.2.1, HNM.out.2]
          exact flat_set cellsQ_len (by have := (OwnR.caps HO.out).1; simp [cellsQ, this])
        rw [e1] at hst1
        have e2 : n = (init ++ [(⟨q.text, A9, q.ans ++ [⟨at_, an, au, ac⟩], c9⟩ : Ques)]).length := by rw [HNM.out.1, HH.out.2.2.2.2.1]; simp
        unfold OwnR
        rw [← e2]
        exact hst1)
      have HN9 := Lib.hid (own_set HO.out hg5 (m * 2 + 1) (.slice A9 n9 c9))
      have HW9 := Lib.hid ((HW5.out.trans (HD4.out.mono HW5.out.size)).setCell (p := ⟨g, m * 2 + 1, none⟩) (show w.heap.size ≤ g by omega) (.slice A9 n9 c9))
      clear hO8 hst1
      go_simp
      refine hK.out _ _ ⟨(World.cell?_setCell_other _ _ _ _ (by intro e; injection e with e _; omega)).trans hHeld.1, (World.cell?_setCell_other _ _ _ _ (by intro e; injection e with e _; omega)).trans hHeld.2.1, (World.cell?_setCell_other _ _ _ _ (by intro e; injection e with e _; omega)).trans hHeld.2.2.1, (World.cell?_setCell_other _ _ _ _ (by intro e; injection e with e _; omega)).trans hHeld.2.2.2.1, (World.cell?_setCell_other _ _ _ _ (by intro e; injection e with e _; omega)).trans hHeld.2.2.2.2⟩ (fun _ => ?_)
      clear hK K hHeld
      refine wpAnyH_done (by kernel_rfl) ?_ _
      go_wp2_with fail
      refine bodyPost_ret (v := .tuple #[protV p.name p.ver (some ⟨g, 0, none⟩) n c8, .bool b]) (by simp [results, Tryz.results32, go_sem, z04, z14, z24, protV]) rfl ?_
      exact fin_ans HH.out.1 HH.out.2.1 HH.out.2.2.2.1 HH.out.2.2.2.2.1 HH.out.2.2.2.2.2 HNM.out.1 (by have h1 := HB.out.size; have h2 := HB1.out.size; omega) HW5.out.size HAB.out (own_set (own_set (own_set HQ9.out (b := w.heap.size + 1) (by omega) 0 _) (b := w.heap.size + 1) (by omega) 1 _) (b := w.heap.size + 1) (by omega) 2 _) (own_set (own_set (own_set HN9.out (b := w.heap.size + 1) hz5 0 _) (b := w.heap.size + 1) hz5 1 _) (b := w.heap.size + 1) hz5 2 _) (below_set3 HW9.out (b := w.heap.size + 1) (Nat.le_succ _) _ _ _)
  · have HN1 := Lib.hid (new_obj U0 (.cells #[.string at_, .int .i64 an, .int .i64 au, .string ac] 45))
    have hst := below_new U0 (.cells #[.string at_, .int .i64 an, .int .i64 au, .string ac] 45)
    go_simp
    refine hK.out _ _ ⟨(hst.cell (p := ⟨w.heap.size, 2, none⟩) (Nat.lt_of_lt_of_le (Nat.lt_of_succ_lt hz5) HD0.out.size)).trans hHeld.1, (hst.cell (p := ⟨W1.heap.size, 0, none⟩) (Nat.lt_of_lt_of_le ha5 HD0.out.size)).trans hHeld.2.1, (hst.cell (p := ⟨W1.heap.size, 1, none⟩) (Nat.lt_of_lt_of_le ha5 HD0.out.size)).trans hHeld.2.2.1, (hst.cell (p := ⟨W1.heap.size, 2, none⟩) (Nat.lt_of_lt_of_le ha5 HD0.out.size)).trans hHeld.2.2.2.1, (hst.cell (p := ⟨W1.heap.size, 3, none⟩) (Nat.lt_of_lt_of_le ha5 HD0.out.size)).trans hHeld.2.2.2.2⟩ (fun hHeld => ?_)
    clear hK K
    obtain ⟨U1, hU⟩ : ∃ U, U = U0.alloc (.cells #[.string at_, .int .i64 an, .int .i64 au, .string ac] 45) := ⟨_, rfl⟩
    rw [← hU] at HN1 hst hHeld ⊢
    have HD1 := Lib.hid (HD0.out.trans (hst.mono HD0.out.size))
    have hlN := (show U0.heap.size < U1.heap.size by rw [hU]; exact lt_new _ _)
    clear hU hst
    refine wpAnyH_ready (rs := [3, 9]) (by kernel_rfl) (by simp) ?_
    refine AllReadyH.cons rfl (fun K hK => ?_) (AllReadyH.cons rfl (fun K hK => ?_) AllReadyH.nil)
    · have HE2 := Lib.hid (OwnR.lit (cs := cellsA) (s := 4) (w := U1) cellsA_len W5.heap.size 45 [] (n := U1.heap.size) rfl HD1.out.size (by decide) #[] rfl)
      have hst := below_new U1 (.cells #[] 45)
      go_simp
      refine hK.out _ _ ⟨(hst.cell (p := ⟨w.heap.size, 2, none⟩) (Nat.lt_of_lt_of_le (Nat.lt_of_succ_lt hz5) HD1.out.size)).trans hHeld.1, (hst.cell (p := ⟨W1.heap.size, 0, none⟩) (Nat.lt_of_lt_of_le ha5 HD1.out.size)).trans hHeld.2.1, (hst.cell (p := ⟨W1.heap.size, 1, none⟩) (Nat.lt_of_lt_of_le ha5 HD1.out.size)).trans hHeld.2.2.1, (hst.cell (p := ⟨W1.heap.size, 2, none⟩) (Nat.lt_of_lt_of_le ha5 HD1.out.size)).trans hHeld.2.2.2.1, (hst.cell (p := ⟨W1.heap.size, 3, none⟩) (Nat.lt_of_lt_of_le ha5 HD1.out.size)).trans hHeld.2.2.2.2⟩ (fun hHeld => ?_)
      clear hK K
      obtain ⟨U2, hU⟩ : ∃ U, U = U1.alloc (.cells #[] 45) := ⟨_, rfl⟩
      rw [← hU] at HE2 hst hHeld ⊢
      have HD2 := Lib.hid (HD1.out.trans (hst.mono HD1.out.size))
      have hlE := (show U1.heap.size < U2.heap.size by rw [hU]; exact lt_new _ _)
      have HN2 := Lib.hid ((hst.block U0.heap.size hlN).trans HN1.out)
      have hne : U1.heap.size ≠ U0.heap.size := by omega
      replace hlN := Nat.lt_of_lt_of_le hlN hst.size
      clear hU hst
      refine wpAnyH_ready (rs := [9]) (by kernel_rfl) (by simp) ?_
      refine AllReadyH.cons rfl (fun K hK => ?_) AllReadyH.nil
      have cr := (HD2.out.cell (p := ⟨g, m * 2 + 1, none⟩) hg5).trans hrow5
      go_simp
      refine hK.out _ _ hHeld (fun hHeld => ?_)
      clear hK K cr
      refine wpAnyH_ready (rs := [10]) (by kernel_rfl) (by simp) ?_
      refine AllReadyH.cons rfl (fun K hK => ?_) AllReadyH.nil
      refine step_append_recs (cs := cellsA) (s := 4) U2 (by rfl) cellsA_len (.tmp 64) (.tmp 70) 41 (by rfl) 45 Tryz.underlying41 answ_info rfl (by decide) (by decide) W5.heap.size _ [] rfl HE2.out w.heap.size q.aA q.ans.length q.ac q.ans rfl rfl (HH.out.2.2.2.1.1.2 q (by rw [HH.out.2.2.2.2.1]; simp)) (RecsAt.below (HH.out.1.ans q (by rw [HH.out.2.2.2.2.1]; simp)) (HW5.out.trans (HD2.out.mono HW5.out.size))) (fun y _ => cellsA_one y) (by simp; omega) HD2.out.size ?_
      intro v1 U3 hown1 hg1
      rw [List.nil_append] at hown1
      have HD3 := Lib.hid (HD2.out.grown hg1 HD2.out.size (fun j hj => HE2.out.ge_base j hj))
      have hoS := Only.of_grown hg1 (fun j e => e)
      have hno1 : ¬ _ = some w.heap.size := fun e => by have h1 := HE2.out.ge_base _ e; omega
      have hno2 : ¬ _ = some W1.heap.size := fun e => by have h1 := HE2.out.ge_base _ e; omega
      have HSH := Lib.hid (show _ ∧ _ ∧ _ ∧ _ ∧ _ from ⟨(hoS.cell (a := ⟨w.heap.size, 2, none⟩) (Nat.lt_of_lt_of_le (Nat.lt_of_succ_lt hz5) HD2.out.size) hno1).trans hHeld.1, (hoS.cell (a := ⟨W1.heap.size, 0, none⟩) (Nat.lt_of_lt_of_le ha5 HD2.out.size) hno2).trans hHeld.2.1, (hoS.cell (a := ⟨W1.heap.size, 1, none⟩) (Nat.lt_of_lt_of_le ha5 HD2.out.size) hno2).trans hHeld.2.2.1, (hoS.cell (a := ⟨W1.heap.size, 2, none⟩) (Nat.lt_of_lt_of_le ha5 HD2.out.size) hno2).trans hHeld.2.2.2.1, (hoS.cell (a := ⟨W1.heap.size, 3, none⟩) (Nat.lt_of_lt_of_le ha5 HD2.out.size) hno2).trans hHeld.2.2.2.2⟩)
      have HA3 := Lib.hid hown1
      have HN3 := Lib.hid ((hg1.block U0.heap.size hlN (fun e => by injection e with e; exact hne e.symm)).trans HN2.out)
      replace hlN := Nat.lt_of_lt_of_le hlN hg1.size
      clear hown1 hg1 hoS hno1 hno2
      refine hK.out _ _ HSH.out (fun hHeld => ?_)
      clear hK K HSH
      show wpAnyH _ _ _ _ _ _ _ (Act.put _ (some 71) _) _
      simp only [Act.put, List.setIfInBounds_toArray, List.set_cons_zero, List.set_cons_succ]
      refine wpAnyH_ready (rs := [13]) (by kernel_rfl) (by simp) ?_
      refine AllReadyH.cons rfl (fun K hK => ?_) AllReadyH.nil
      refine step_append_recs (cs := cellsA) (s := 4) U3 (by rfl) cellsA_len (.tmp 71) (.tmp 73) 41 (by rfl) 45 Tryz.underlying41 answ_info rfl (by decide) (by decide) W5.heap.size _ q.ans rfl HA3.out U3.heap.size (some ⟨U0.heap.size, 0, none⟩) 1 1 [⟨at_, an, au, ac⟩] rfl rfl (fun e => by cases e) (recs_row HN3.out rfl hlN) (fun y _ => cellsA_one y) (by simp; omega) HD3.out.size ?_
      intro v2 U4 hown2 hg2
      have HD4 := Lib.hid (HD3.out.grown hg2 HD3.out.size (fun j hj => HA3.out.ge_base j hj))
      have hoS := Only.of_grown hg2 (fun j e => e)
      have hno1 : ¬ _ = some w.heap.size := fun e => by have h1 := HA3.out.ge_base _ e; omega
      have hno2 : ¬ _ = some W1.heap.size := fun e => by have h1 := HA3.out.ge_base _ e; omega
      have HSH := Lib.hid (show _ ∧ _ ∧ _ ∧ _ ∧ _ from ⟨(hoS.cell (a := ⟨w.heap.size, 2, none⟩) (Nat.lt_of_lt_of_le (Nat.lt_of_succ_lt hz5) HD3.out.size) hno1).trans hHeld.1, (hoS.cell (a := ⟨W1.heap.size, 0, none⟩) (Nat.lt_of_lt_of_le ha5 HD3.out.size) hno2).trans hHeld.2.1, (hoS.cell (a := ⟨W1.heap.size, 1, none⟩) (Nat.lt_of_lt_of_le ha5 HD3.out.size) hno2).trans hHeld.2.2.1, (hoS.cell (a := ⟨W1.heap.size, 2, none⟩) (Nat.lt_of_lt_of_le ha5 HD3.out.size) hno2).trans hHeld.2.2.2.1, (hoS.cell (a := ⟨W1.heap.size, 3, none⟩) (Nat.lt_of_lt_of_le ha5 HD3.out.size) hno2).trans hHeld.2.2.2.2⟩)
      obtain ⟨A9, c9, rfl, _⟩ := OwnR.sl hown2
      have HO := Lib.hid hown2
      clear hown2 hg2 hoS hno1 hno2
      refine hK.out _ _ HSH.out (fun hHeld => ?_)
      clear hK K HSH
      show wpAnyH _ _ _ _ _ _ _ (Act.put _ (some 74) _) _
      simp only [Act.put, List.setIfInBounds_toArray, List.set_cons_zero, List.set_cons_succ]
      refine wpAnyH_take (i := 14) (v := .pointer (some ⟨g, m * 2, none⟩)) rfl (by kernel_rfl) (by kernel_rfl) (by kernel_rfl) (fun _ _ _ h => h) (Or.inl ⟨by rfl, ?_⟩) (by assumption) ?_
      · intro w hSw
        go_simp
      show wpAnyH _ _ _ _ _ _ _ (Act.put _ (some 75) _) _
      simp only [Act.put, List.setIfInBounds_toArray, List.set_cons_zero, List.set_cons_succ]
      refine wpAnyH_take (i := 15) (v := .pointer (some ⟨g, m * 2 + 1, none⟩)) rfl (by kernel_rfl) (by kernel_rfl) (by kernel_rfl) (fun _ _ _ h => h) (Or.inl ⟨by rfl, ?_⟩) (by assumption) ?_
      · intro w hSw
        go_simp
      show wpAnyH _ _ _ _ _ _ _ (Act.put _ (some 76) _) _
      simp only [Act.put, List.setIfInBounds_toArray, List.set_cons_zero, List.set_cons_succ]
      refine wpAnyH_ready (rs := [16]) (by kernel_rfl) (by simp) ?_
      refine AllReadyH.cons rfl (fun K hK => ?_) AllReadyH.nil
      obtain ⟨n9, hn9⟩ : ∃ n, n = (q.ans ++ [(⟨at_, an, au, ac⟩ : Ans)]).length := ⟨_, rfl⟩
      rw [← hn9] at HO ⊢
      clear hn9
      have x04 := (HD4.out.cell (p := ⟨w.heap.size, 0, none⟩) (Nat.lt_of_succ_lt hz5)).trans x0
      have x14 := (HD4.out.cell (p := ⟨w.heap.size, 1, none⟩) (Nat.lt_of_succ_lt hz5)).trans x1
      have x24 := (HD4.out.cell (p := ⟨w.heap.size, 2, none⟩) (Nat.lt_of_succ_lt hz5)).trans x2
      have z04 := (HD4.out.cell (p := ⟨w.heap.size + 1, 0, none⟩) hz5).trans z0
      have z14 := (HD4.out.cell (p := ⟨w.heap.size + 1, 1, none⟩) hz5).trans z1
      have z24 := (HD4.out.cell (p := ⟨w.heap.size + 1, 2, none⟩) hz5).trans z2
      have vv04 := (HD4.out.frozen (p := ⟨w.heap.size + 1, 0, none⟩) hz5).trans vv0
      have vv14 := (HD4.out.frozen (p := ⟨w.heap.size + 1, 1, none⟩) hz5).trans vv1
      have vv24 := (HD4.out.frozen (p := ⟨w.heap.size + 1, 2, none⟩) hz5).trans vv2
      have hrow54 := (HD4.out.cell (p := ⟨g, m * 2 + 1, none⟩) hg5).trans hrow5
      have hfro54 := (HD4.out.frozen (p := ⟨g, m * 2 + 1, none⟩) hg5).trans hfro5
      have hO8 : U4.ownsRow A0 43 2 (.slice (some ⟨g, 0, none⟩) n c8) n (p.qs.flatMap cellsQ) := by
        have h1 : U4.ownsRow A0 43 2 (.slice (some ⟨g, 0, none⟩) n c8) p.qs.length (p.qs.flatMap cellsQ) := HO5.out.kept_new HD4.out
        rwa [← HNM.out.1] at h1
      have hst1 := (World.ownsRow.stored hO8 (m * 2 + 1) (.slice A9 n9 c9)).1
      have HQ9 := Lib.hid (show OwnR cellsQ 2 (U4.setCell ⟨g, m * 2 + 1, none⟩ (.slice A9 n9 c9)) A0 43 (.slice (some ⟨g, 0, none⟩) n c8) (init ++ [⟨q.text, A9, q.ans ++ [⟨at_, an, au, ac⟩], c9⟩]) from by
        have e1 : (p.qs.flatMap cellsQ).set (m * 2 + 1) (.slice A9 n9 c9) = (init ++ [(⟨q.text, A9, q.ans ++ [⟨at_, an, au, ac⟩], c9⟩ : Ques)]).flatMap cellsQ := by
          rw [HH.out.2.2.2.2.1, HNM.out.2]
          exact flat_set cellsQ_len (by have := (OwnR.caps HO.out).1; simp [cellsQ, this])
        rw [e1] at hst1
        have e2 : n = (init ++ [(⟨q.text, A9, q.ans ++ [⟨at_, an, au, ac⟩], c9⟩ : Ques)]).length := by rw [HNM.out.1, HH.out.2.2.2.2.1]; simp
        unfold OwnR
        rw [← e2]
        exact hst1)
      have HN9 := Lib.hid (own_set HO.out hg5 (m * 2 + 1) (.slice A9 n9 c9))
      have HW9 := Lib.hid ((HW5.out.trans (HD4.out.mono HW5.out.size)).setCell (p := ⟨g, m * 2 + 1, none⟩) (show w.heap.size ≤ g by omega) (.slice A9 n9 c9))
      clear hO8 hst1
      go_simp
      refine hK.out _ _ ⟨(World.cell?_setCell_other _ _ _ _ (by intro e; injection e with e _; omega)).trans hHeld.1, (World.cell?_setCell_other _ _ _ _ (by intro e; injection e with e _; omega)).trans hHeld.2.1, (World.cell?_setCell_other _ _ _ _ (by intro e; injection e with e _; omega)).trans hHeld.2.2.1, (World.cell?_setCell_other _ _ _ _ (by intro e; injection e with e _; omega)).trans hHeld.2.2.2.1, (World.cell?_setCell_other _ _ _ _ (by intro e; injection e with e _; omega)).trans hHeld.2.2.2.2⟩ (fun _ => ?_)
      clear hK K hHeld
      refine wpAnyH_done (by kernel_rfl) ?_ _
      go_wp2_with fail
      refine bodyPost_ret (v := .tuple #[protV p.name p.ver (some ⟨g, 0, none⟩) n c8, .bool b]) (by simp [results, Tryz.results32, go_sem, z04, z14, z24, protV]) rfl ?_
      exact fin_ans HH.out.1 HH.out.2.1 HH.out.2.2.2.1 HH.out.2.2.2.2.1 HH.out.2.2.2.2.2 HNM.out.1 (by have h1 := HB.out.size; have h2 := HB1.out.size; omega) HW5.out.size HAB.out (own_set (own_set (own_set HQ9.out (b := w.heap.size + 1) (by omega) 0 _) (b := w.heap.size + 1) (by omega) 1 _) (b := w.heap.size + 1) (by omega) 2 _) (own_set (own_set (own_set HN9.out (b := w.heap.size + 1) hz5 0 _) (b := w.heap.size + 1) hz5 1 _) (b := w.heap.size + 1) hz5 2 _) (below_set3 HW9.out (b := w.heap.size + 1) (Nat.le_succ _) _ _ _)
    · have cr := (HD1.out.cell (p := ⟨g, m * 2 + 1, none⟩) hg5).trans hrow5
      go_simp
      refine hK.out _ _ hHeld (fun hHeld => ?_)
      clear hK K cr
      refine wpAnyH_ready (rs := [3]) (by kernel_rfl) (by simp) ?_
      refine AllReadyH.cons rfl (fun K hK => ?_) AllReadyH.nil
      have HE2 := Lib.hid (OwnR.lit (cs := cellsA) (s := 4) (w := U1) cellsA_len W5.heap.size 45 [] (n := U1.heap.size) rfl HD1.out.size (by decide) #[] rfl)
      have hst := below_new U1 (.cells #[] 45)
      go_simp
      refine hK.out _ _ ⟨(hst.cell (p := ⟨w.heap.size, 2, none⟩) (Nat.lt_of_lt_of_le (Nat.lt_of_succ_lt hz5) HD1.out.size)).trans hHeld.1, (hst.cell (p := ⟨W1.heap.size, 0, none⟩) (Nat.lt_of_lt_of_le ha5 HD1.out.size)).trans hHeld.2.1, (hst.cell (p := ⟨W1.heap.size, 1, none⟩) (Nat.lt_of_lt_of_le ha5 HD1.out.size)).trans hHeld.2.2.1, (hst.cell (p := ⟨W1.heap.size, 2, none⟩) (Nat.lt_of_lt_of_le ha5 HD1.out.size)).trans hHeld.2.2.2.1, (hst.cell (p := ⟨W1.heap.size, 3, none⟩) (Nat.lt_of_lt_of_le ha5 HD1.out.size)).trans hHeld.2.2.2.2⟩ (fun hHeld => ?_)
      clear hK K
      obtain ⟨U2, hU⟩ : ∃ U, U = U1.alloc (.cells #[] 45) := ⟨_, rfl⟩
      rw [← hU] at HE2 hst hHeld ⊢
      have HD2 := Lib.hid (HD1.out.trans (hst.mono HD1.out.size))
      have hlE := (show U1.heap.size < U2.heap.size by rw [hU]; exact lt_new _ _)
      have HN2 := Lib.hid ((hst.block U0.heap.size hlN).trans HN1.out)
      have hne : U1.heap.size ≠ U0.heap.size := by omega
      replace hlN := Nat.lt_of_lt_of_le hlN hst.size
      clear hU hst
      refine wpAnyH_ready (rs := [10]) (by kernel_rfl) (by simp) ?_
      refine AllReadyH.cons rfl (fun K hK => ?_) AllReadyH.nil
      refine step_append_recs (cs := cellsA) (s := 4) U2 (by rfl) cellsA_len (.tmp 64) (.tmp 70) 41 (by rfl) 45 Tryz.underlying41 answ_info rfl (by decide) (by decide) W5.heap.size _ [] rfl HE2.out w.heap.size q.aA q.ans.length q.ac q.ans rfl rfl (HH.out.2.2.2.1.1.2 q (by rw [HH.out.2.2.2.2.1]; simp)) (RecsAt.below (HH.out.1.ans q (by rw [HH.out.2.2.2.2.1]; simp)) (HW5.out.trans (HD2.out.mono HW5.out.size))) (fun y _ => cellsA_one y) (by simp; omega) HD2.out.size ?_
      intro v1 U3 hown1 hg1
      rw [List.nil_append] at hown1
      have HD3 := Lib.hid (HD2.out.grown hg1 HD2.out.size (fun j hj => HE2.out.ge_base j hj))
      have hoS := Only.of_grown hg1 (fun j e => e)
      have hno1 : ¬ _ = some w.heap.size := fun e => by have h1 := HE2.out.ge_base _ e; omega
      have hno2 : ¬ _ = some W1.heap.size := fun e => by have h1 := HE2.out.ge_base _ e; omega
      have HSH := Lib.hid (show _ ∧ _ ∧ _ ∧ _ ∧ _ from ⟨(hoS.cell (a := ⟨w.heap.size, 2, none⟩) (Nat.lt_of_lt_of_le (Nat.lt_of_succ_lt hz5) HD2.out.size) hno1).trans hHeld.1, (hoS.cell (a := ⟨W1.heap.size, 0, none⟩) (Nat.lt_of_lt_of_le ha5 HD2.out.size) hno2).trans hHeld.2.1, (hoS.cell (a := ⟨W1.heap.size, 1, none⟩) (Nat.lt_of_lt_of_le ha5 HD2.out.size) hno2).trans hHeld.2.2.1, (hoS.cell (a := ⟨W1.heap.size, 2, none⟩) (Nat.lt_of_lt_of_le ha5 HD2.out.size) hno2).trans hHeld.2.2.2.1, (hoS.cell (a := ⟨W1.heap.size, 3, none⟩) (Nat.lt_of_lt_of_le ha5 HD2.out.size) hno2).trans hHeld.2.2.2.2⟩)
      have HA3 := Lib.hid hown1
      have HN3 := Lib.hid ((hg1.block U0.heap.size hlN (fun e => by injection e with e; exact hne e.symm)).trans HN2.out)
      replace hlN := Nat.lt_of_lt_of_le hlN hg1.size
      clear hown1 hg1 hoS hno1 hno2
      refine hK.out _ _ HSH.out (fun hHeld => ?_)
      clear hK K HSH
      show wpAnyH _ _ _ _ _ _ _ (Act.put _ (some 71) _) _
      simp only [Act.put, List.setIfInBounds_toArray, List.set_cons_zero, List.set_cons_succ]
      refine wpAnyH_ready (rs := [13]) (by kernel_rfl) (by simp) ?_
      refine AllReadyH.cons rfl (fun K hK => ?_) AllReadyH.nil
      refine step_append_recs (cs := cellsA) (s := 4) U3 (by rfl) cellsA_len (.tmp 71) (.tmp 73) 41 (by rfl) 45 Tryz.underlying41 answ_info rfl (by decide) (by decide) W5.heap.size _ q.ans rfl HA3.out U3.heap.size (some ⟨U0.heap.size, 0, none⟩) 1 1 [⟨at_, an, au, ac⟩] rfl rfl (fun e => by cases e) (recs_row HN3.out rfl hlN) (fun y _ => cellsA_one y) (by simp; omega) HD3.out.size ?_
      intro v2 U4 hown2 hg2
      have HD4 := Lib.hid (HD3.out.grown hg2 HD3.out.size (fun j hj => HA3.out.ge_base j hj))
      have hoS := Only.of_grown hg2 (fun j e => e)
      have hno1 : ¬ _ = some w.heap.size := fun e => by have h1 := HA3.out.ge_base _ e; omega
      have hno2 : ¬ _ = some W1.heap.size := fun e => by have h1 := HA3.out.ge_base _ e; omega
      have HSH := Lib.hid (show _ ∧ _ ∧ _ ∧ _ ∧ _ from ⟨(hoS.cell (a := ⟨w.heap.size, 2, none⟩) (Nat.lt_of_lt_of_le (Nat.lt_of_succ_lt hz5) HD3.out.size) hno1).trans hHeld.1, (hoS.cell (a := ⟨W1.heap.size, 0, none⟩) (Nat.lt_of_lt_of_le ha5 HD3.out.size) hno2).trans hHeld.2.1, (hoS.cell (a := ⟨W1.heap.size, 1, none⟩) (Nat.lt_of_lt_of_le ha5 HD3.out.size) hno2).trans hHeld.2.2.1, (hoS.cell (a := ⟨W1.heap.size, 2, none⟩) (Nat.lt_of_lt_of_le ha5 HD3.out.size) hno2).trans hHeld.2.2.2.1, (hoS.cell (a := ⟨W1.heap.size, 3, none⟩) (Nat.lt_of_lt_of_le ha5 HD3.out.size) hno2).trans hHeld.2.2.2.2⟩)
      obtain ⟨A9, c9, rfl, _⟩ := OwnR.sl hown2
      have HO := Lib.hid hown2
      clear hown2 hg2 hoS hno1 hno2
      refine hK.out _ _ HSH.out (fun hHeld => ?_)
      clear hK K HSH
      show wpAnyH _ _ _ _ _ _ _ (Act.put _ (some 74) _) _
      simp only [Act.put, List.setIfInBounds_toArray, List.set_cons_zero, List.set_cons_succ]
      refine wpAnyH_take (i := 14) (v := .pointer (some ⟨g, m * 2, none⟩)) rfl (by kernel_rfl) (by kernel_rfl) (by kernel_rfl) (fun _ _ _ h => h) (Or.inl ⟨by rfl, ?_⟩) (by assumption) ?_
      · intro w hSw
        go_simp
      show wpAnyH _ _ _ _ _ _ _ (Act.put _ (some 75) _) _
      simp only [Act.put, List.setIfInBounds_toArray, List.set_cons_zero, List.set_cons_succ]
      refine wpAnyH_take (i := 15) (v := .pointer (some ⟨g, m * 2 + 1, none⟩)) rfl (by kernel_rfl) (by kernel_rfl) (by kernel_rfl) (fun _ _ _ h => h) (Or.inl ⟨by rfl, ?_⟩) (by assumption) ?_
      · intro w hSw
        go_simp
      show wpAnyH _ _ _ _ _ _ _ (Act.put _ (some 76) _) _
      simp only [Act.put, List.setIfInBounds_toArray, List.set_cons_zero, List.set_cons_succ]
      refine wpAnyH_ready (rs := [16]) (by kernel_rfl) (by simp) ?_
      refine AllReadyH.cons rfl (fun K hK => ?_) AllReadyH.nil
      obtain ⟨n9, hn9⟩ : ∃ n, n = (q.ans ++ [(⟨at_, an, au, ac⟩ : Ans)]).length := ⟨_, rfl⟩
      rw [← hn9] at HO ⊢
      clear hn9
      have x04 := (HD4.out.cell (p := ⟨w.heap.size, 0, none⟩) (Nat.lt_of_succ_lt hz5)).trans x0
      have x14 := (HD4.out.cell (p := ⟨w.heap.size, 1, none⟩) (Nat.lt_of_succ_lt hz5)).trans x1
      have x24 := (HD4.out.cell (p := ⟨w.heap.size, 2, none⟩) (Nat.lt_of_succ_lt hz5)).trans x2
      have z04 := (HD4.out.cell (p := ⟨w.heap.size + 1, 0, none⟩) hz5).trans z0
      have z14 := (HD4.out.cell (p := ⟨w.heap.size + 1, 1, none⟩) hz5).trans z1
      have z24 := (HD4.out.cell (p := ⟨w.heap.size + 1, 2, none⟩) hz5).trans z2
      have vv04 := (HD4.out.frozen (p := ⟨w.heap.size + 1, 0, none⟩) hz5).trans vv0
      have vv14 := (HD4.out.frozen (p := ⟨w.heap.size + 1, 1, none⟩) hz5).trans vv1
      have vv24 := (HD4.out.frozen (p := ⟨w.heap.size + 1, 2, none⟩) hz5).trans vv2
      have hrow54 := (HD4.out.cell (p := ⟨g, m * 2 + 1, none⟩) hg5).trans hrow5
      have hfro54 := (HD4.out.frozen (p := ⟨g, m * 2 + 1, none⟩) hg5).trans hfro5
      have hO8 : U4.ownsRow A0 43 2 (.slice (some ⟨g, 0, none⟩) n c8) n (p.qs.flatMap cellsQ) := by
        have h1 : U4.ownsRow A0 43 2 (.slice (some ⟨g, 0, none⟩) n c8) p.qs.length (p.qs.flatMap cellsQ) := HO5.out.kept_new HD4.out
        rwa [← HNM.out.1] at h1
      have hst1 := (World.ownsRow.stored hO8 (m * 2 + 1) (.slice A9 n9 c9)).1
      have HQ9 := Lib.hid (show OwnR cellsQ 2 (U4.setCell ⟨g, m * 2 + 1, none⟩ (.slice A9 n9 c9)) A0 43 (.slice (some ⟨g, 0, none⟩) n c8) (init ++ [⟨q.text, A9, q.ans ++ [⟨at_, an, au, ac⟩], c9⟩]) from by
        have e1 : (p.qs.flatMap cellsQ).set (m * 2 + 1) (.slice A9 n9 c9) = (init ++ [(⟨q.text, A9, q.ans ++ [⟨at_, an, au, ac⟩], c9⟩ : Ques)]).flatMap cellsQ := by
          rw [HH.out.2.2.2.2.1, HNM.out.2]
          exact flat_set cellsQ_len (by have := (OwnR.caps HO.out).1; simp [cellsQ, this])
        rw [e1] at hst1
        have e2 : n = (init ++ [(⟨q.text, A9, q.ans ++ [⟨at_, an, au, ac⟩], c9⟩ : Ques)]).length := by rw [HNM.out.1, HH.out.2.2.2.2.1]; simp
        unfold OwnR
        rw [← e2]
        exact hst1)
      have HN9 := Lib.hid (own_set HO.out hg5 (m * 2 + 1) (.slice A9 n9 c9))
      have HW9 := Lib.hid ((HW5.out.trans (HD4.out.mono HW5.out.size)).setCell (p := ⟨g, m * 2 + 1, none⟩) (show w.heap.size ≤ g by omega) (.slice A9 n9 c9))
      clear hO8 hst1
      go_simp
      refine hK.out _ _ ⟨(World.cell?_setCell_other _ _ _ _ (by intro e; injection e with e _; omega)).trans hHeld.1, (World.cell?_setCell_other _ _ _ _ (by intro e; injection e with e _; omega)).trans hHeld.2.1, (World.cell?_setCell_other _ _ _ _ (by intro e; injection e with e _; omega)).trans hHeld.2.2.1, (World.cell?_setCell_other _ _ _ _ (by intro e; injection e with e _; omega)).trans hHeld.2.2.2.1, (World.cell?_setCell_other _ _ _ _ (by intro e; injection e with e _; omega)).trans hHeld.2.2.2.2⟩ (fun _ => ?_)
      clear hK K hHeld
      refine wpAnyH_done (by kernel_rfl) ?_ _
      go_wp2_with fail
      refine bodyPost_ret (v := .tuple #[protV p.name p.ver (some ⟨g, 0, none⟩) n c8, .bool b]) (by simp [results, Tryz.results32, go_sem, z04, z14, z24, protV]) rfl ?_
      exact fin_ans HH.out.1 HH.out.2.1 HH.out.2.2.2.1 HH.out.2.2.2.2.1 HH.out.2.2.2.2.2 HNM.out.1 (by have h1 := HB.out.size; have h2 := HB1.out.size; omega) HW5.out.size HAB.out (own_set (own_set (own_set HQ9.out (b := w.heap.size + 1) (by omega) 0 _) (b := w.heap.size + 1) (by omega) 1 _) (b := w.heap.size + 1) (by omega) 2 _) (own_set (own_set (own_set HN9.out (b := w.heap.size + 1) hz5 0 _) (b := w.heap.size + 1) hz5 1 _) (b := w.heap.size + 1) hz5 2 _) (below_set3 HW9.out (b := w.heap.size + 1) (Nat.le_succ _) _ _ _)
end Go.Proofs.YtbbklideciappaaGreatDoor
