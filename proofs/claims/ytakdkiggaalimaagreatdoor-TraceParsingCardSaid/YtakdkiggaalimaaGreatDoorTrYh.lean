/-
  samaritanref51: guess, every kind but 1 (printed by gentrgu.py).
  samaritanref51: guess, kind 1 and all (printed by gentrxp.py).
  How large the reference's guess at an event can be; what it holds (plain; printed by gentrge.py).
  samaritanref51: digit, unhex (printed by gentrxz.py).
  trace.ParseEvent (printed by gentrpa.py).
  samaritanref51: Words, the capacity of what it returns (turned from XTrXh).
  samaritanref51: Parse (printed by gentrpy.py).
-/
import Derived.Test.YtakdkiggaalimaaGreatDoorTrXh
import Derived.Test.YtakdkiggaalimaaGreatDoorTrYg
import Derived.Test.YtakdkiggaalimaaGreatDoorTrXd
import Derived.Test.YtakdkiggaalimaaGreatDoorTrPc
import Derived.OrdersHeld
import Derived.Deep.RegionHeld3
import Derived.Test.YtakdkiggaalimaaGreatDoorTrRs
import Derived.Deep.AppendLies
import Derived.Test.YtakdkiggaalimaaGreatDoorTrGs
import Derived.Test.YtakdkiggaalimaaGreatDoorTrYf
import Derived.Test.YtakdkiggaalimaaGreatDoorTrXg
import Derived.Test.YtakdkiggaalimaaGreatDoorTrSp
import Derived.Test.YtakdkiggaalimaaGreatDoorTrLn
import Derived.Deep.WholeRow
import Derived.Deep.CutRange
import Derived.Deep.CutBlock
namespace Go.Proofs.YtakdkiggaalimaaGreatDoor
section
open Go.RowKit Go.Maps

theorem gAt {P : Program} {ops : Array Oper} {Q : Exit → Act → World → Prop} {o : Oper} {r : List Oper} {a : Act} {w : World} (d : Nat) (_ho : o.dst = some d) (h : wpList P ops Q (o :: r) a w) : wpList P ops Q (o :: r) a w := h
theorem gOp {P : Program} {ops : Array Oper} {Q : Exit → Act → World → Prop} {o : Oper} {r : List Oper} {a : Act} {w : World} (x : Op) (_ho : o.op = x) (h : wpList P ops Q (o :: r) a w) : wpList P ops Q (o :: r) a w := h
set_option maxRecDepth 100000 in
set_option maxHeartbeats 64000000 in
theorem guess51_k (ws : List Wd) (A : Option Addr) (c : Nat) (w : World) (hat : WdsAt w w.heap.size A ws) (hl : ∀ x ∈ ws, x.length ≤ 1000000000) (hn : ws.length ≤ 1000000) (x : Wd) (r : List Wd) (hws : ws = x :: r) (k : Int) (hk : kindR actN x 19 = k) (hkk : k = 0 ∨ k = 2 ∨ k = 3 ∨ k = 4 ∨ k = 5 ∨ k = 6 ∨ k = 7 ∨ k = 8 ∨ k = 9 ∨ k = 10 ∨ k = 11 ∨ k = 12 ∨ k = 13 ∨ k = 14 ∨ k = 15 ∨ k = 16 ∨ k = 17 ∨ k = 18 ∨ k = 19) : Calls Tryz.prog 34 #[.slice A ws.length c] w (RetG ws w) := by
  obtain ⟨b, o, rfl, hb, hc⟩ := hat.at (i := 0) (x := x) (by rw [hws]; rfl)
  have hc : w.cell? ⟨b, o, none⟩ = some (.string (bs x)) := hc
  have HAT := Lib.hid (fun (j : Nat) (X : World) (hb : Below w.heap.size w X) => at51_any ws (some ⟨b, o, none⟩) c j X w.heap.size (Sl.below hat hb) hl (by omega))
  have HSP := Lib.hid (fun (j : Nat) (X : World) (hb : Below w.heap.size w X) (hj : j ≤ 1000000000) => span51_any ws (some ⟨b, o, none⟩) c j X (Sl.more (Sl.below hat hb) hb.size) hl hn hj)
  have HAW := Lib.hid (fun (k : Int) (X : World) => actWord_any k X)
  have HKD := Lib.hid (And.intro hk (And.intro (guess_kind hws hk) hn))
  have HCW := Lib.hid (show ∀ X : World, Below w.heap.size w X → X.cell? ⟨b, o, none⟩ = some (.string (bs x)) from fun X hX => (hX.cell (p := ⟨b, o, none⟩) hb).trans hc)
  obtain ⟨n, hnn⟩ : ∃ n, n = ws.length := ⟨_, rfl⟩
  have hn1 : n ≤ 1000000 := by omega
  have hn0 : 0 < n := by rw [hnn, hws]; simp
  have hn0' : (0 : Int) < (n : Int) := by omega
  have HNN := Lib.hid hnn
  rw [← hnn] at HAT HSP ⊢
  obtain ⟨X0, hX0⟩ : ∃ X0, X0 = ((w.alloc (.cells #[.int .i64 0, .int .i64 0, .int .i64 0, .int .i64 0, .int .i64 0, .int .i64 0, .slice none 0 0, .slice none 0 0] 33)).alloc (.cells #[.int .i64 0, .int .i64 0, .int .i64 0, .int .i64 0, .int .i64 0, .int .i64 0, .slice none 0 0, .slice none 0 0] 33)) := ⟨_, rfl⟩
  have HX0 : Hid (Blk X0 w.heap.size 33 [.int .i64 0, .int .i64 0, .int .i64 0, .int .i64 0, .int .i64 0, .int .i64 0, .slice none 0 0, .slice none 0 0] ∧ Blk X0 (w.heap.size + 1) 33 [.int .i64 0, .int .i64 0, .int .i64 0, .int .i64 0, .int .i64 0, .int .i64 0, .slice none 0 0, .slice none 0 0] ∧ Below w.heap.size w X0) := Lib.hid (by
    rw [hX0]
    obtain ⟨h1, h2⟩ := two_blk w [.int .i64 0, .int .i64 0, .int .i64 0, .int .i64 0, .int .i64 0, .int .i64 0, .slice none 0 0, .slice none 0 0] [.int .i64 0, .int .i64 0, .int .i64 0, .int .i64 0, .int .i64 0, .int .i64 0, .slice none 0 0, .slice none 0 0] 33 33
    exact ⟨h1, h2, ((Below.refl _ _).alloc (Nat.le_refl _) _).alloc (by simp) _⟩)
  have HKK := Lib.hid hkk
  clear hat hl hn hws hk hb hc hnn hkk
  go_enter Tryz.func34, Tryz.ntmps34
  go_wp2_with fail
  rw [← hX0]
  clear hX0
  go_loopw [4] (fun jv X => ∃ m : Nat, m ≤ 19 ∧ jv = .int .i64 ((m : Int) + 1) ∧ Blk X (w.heap.size + 1) 33 (.int .i64 (kindR actN x m) :: [.int .i64 0, .int .i64 0, .int .i64 0, .int .i64 0, .int .i64 0, .slice none 0 0, .slice none 0 0]) ∧ Blk X w.heap.size 33 [.int .i64 0, .int .i64 0, .int .i64 0, .int .i64 0, .int .i64 0, .int .i64 0, .slice none 0 0, .slice none 0 0] ∧ Below w.heap.size w X) (fun jv _ => 20 - (intOf jv).toNat)
  case atStart => exact ⟨0, Nat.zero_le _, rfl, HX0.out.2.1, HX0.out.1, HX0.out.2.2⟩
  case round =>
    obtain ⟨m, hm, rfl, hba, hbr, hbl⟩ := hrel
    have HW := Lib.hid (And.intro hba (And.intro hbr hbl))
    clear hba hbr hbl
    by_cases hlt : m < 19
    · have hlt' : (m : Int) + 1 ≤ 19 := by omega
      have HHD := Lib.hid (show Below wr.heap.size wr wr.drew from below_dr (Below.refl _ _) 1)
      obtain ⟨s1, hs1⟩ : ∃ s, s = bs (actN ((m : Int) + 1)) := ⟨_, rfl⟩
      obtain ⟨s2, hs2⟩ : ∃ s, s = bs x := ⟨_, rfl⟩
      have HC0 := Lib.hid (show ∀ X : World, Below wr.heap.size wr X → X.cell? ⟨b, o, none⟩ = some (.string s2) from fun X hX => by rw [hs2]; exact HCW.out X (HW.out.2.2.trans (hX.mono HW.out.2.2.size)))
      have HEQ := Lib.hid (show s1.toList = s2.toList ↔ actN ((m : Int) + 1) = x by rw [hs1, hs2]; exact bs_lists)
      have HAW1 := Lib.hid (fun X : World => HAW.out ((m : Int) + 1) X)
      rw [← hs1] at HAW1
      clear hs2 hs1
      go_wp2_with fail
      by_cases he : s1.toList = s2.toList
      · have HE := Lib.hid (HEQ.out.1 he)
        refine wp_region_held_drew (S := fun W' => Below wr.heap.size wr W') (by kernel_rfl) HHD.out (fun hHeld => ?_)
        refine wpAnyH_take (i := 0) (v := .slice (some ⟨b, o, none⟩) n c) rfl (by kernel_rfl) (by kernel_rfl) (by kernel_rfl) (fun _ _ _ h => h) (Or.inl ⟨by rfl, ?_⟩) (by assumption) ?_
        · intro w' hSw
          go_simp
        show wpAnyH _ _ _ _ _ _ _ (Act.put _ (some 13) _) _
        simp only [Act.put, List.setIfInBounds_toArray, List.set_cons_zero, List.set_cons_succ]
        refine wpAnyH_take (i := 1) (v := .int .i64 n) rfl (by kernel_rfl) (by kernel_rfl) (by kernel_rfl) (fun _ _ _ h => h) (Or.inl ⟨by rfl, ?_⟩) (by assumption) ?_
        · intro w' hSw
          go_simp
        show wpAnyH _ _ _ _ _ _ _ (Act.put _ (some 14) _) _
        simp only [Act.put, List.setIfInBounds_toArray, List.set_cons_zero, List.set_cons_succ]
        refine wpAnyH_take (i := 2) (v := .bool true) rfl (by kernel_rfl) (by kernel_rfl) (by kernel_rfl) (fun _ _ _ h => h) (Or.inl ⟨by rfl, ?_⟩) (by assumption) ?_
        · intro w' hSw
          go_simp
        show wpAnyH _ _ _ _ _ _ _ (Act.put _ (some 15) _) _
        simp only [Act.put, List.setIfInBounds_toArray, List.set_cons_zero, List.set_cons_succ]
        refine wpAnyH_take (i := 3) (v := .bool true) rfl (by kernel_rfl) (by kernel_rfl) (by kernel_rfl) (fun _ _ _ h => h) (Or.inl ⟨by rfl, ?_⟩) (by assumption) ?_
        · intro w' hSw
          go_simp
        show wpAnyH _ _ _ _ _ _ _ (Act.put _ (some 16) _) _
        simp only [Act.put, List.setIfInBounds_toArray, List.set_cons_zero, List.set_cons_succ]
        refine wpAnyH_take (i := 4) (v := .int .i64 ((m : Int) + 1)) rfl (by kernel_rfl) (by kernel_rfl) (by kernel_rfl) (fun _ _ _ h => h) (Or.inl ⟨by rfl, ?_⟩) (by assumption) ?_
        · intro w' hSw
          go_simp
        show wpAnyH _ _ _ _ _ _ _ (Act.put _ (some 17) _) _
        simp only [Act.put, List.setIfInBounds_toArray, List.set_cons_zero, List.set_cons_succ]
        refine wpAnyH_take (i := 6) (v := .slice (some ⟨b, o, none⟩) n c) rfl (by kernel_rfl) (by kernel_rfl) (by kernel_rfl) (fun _ _ _ h => h) (Or.inl ⟨by rfl, ?_⟩) (by assumption) ?_
        · intro w' hSw
          go_simp
        show wpAnyH _ _ _ _ _ _ _ (Act.put _ (some 19) _) _
        simp only [Act.put, List.setIfInBounds_toArray, List.set_cons_zero, List.set_cons_succ]
        refine wpAnyH_take (i := 7) (v := .pointer (some ⟨b, o, none⟩)) rfl (by kernel_rfl) (by kernel_rfl) (by kernel_rfl) (fun _ _ _ h => h) (Or.inl ⟨by rfl, ?_⟩) (by assumption) ?_
        · intro w' hSw
          go_simp
        show wpAnyH _ _ _ _ _ _ _ (Act.put _ (some 20) _) _
        simp only [Act.put, List.setIfInBounds_toArray, List.set_cons_zero, List.set_cons_succ]
        refine wpAnyH_take (i := 8) (v := .string s2) rfl (by kernel_rfl) (by kernel_rfl) (by kernel_rfl) (fun _ _ _ h => h) (Or.inl ⟨by rfl, ?_⟩) (by assumption) ?_
        · intro w' hSw
          have hc := HC0.out w' hSw
          go_simp
        show wpAnyH _ _ _ _ _ _ _ (Act.put _ (some 21) _) _
        simp only [Act.put, List.setIfInBounds_toArray, List.set_cons_zero, List.set_cons_succ]
        refine wpAnyH_ready (rs := [5]) (by kernel_rfl) (by simp) ?_
        refine AllReadyH.cons rfl (fun K hK => ?_) AllReadyH.nil
        go_simp
        refine (HAW1.out _).mono ?_
        rintro e Y1 ⟨rfl, hy1⟩
        go_simp
        refine hK.out _ _ (HHD.out.trans (hy1.mono HHD.out.size)) (fun hHeld => ?_)
        clear hK K
        have HY1 := Lib.hid hHeld
        clear hy1
        refine wpAnyH_take (i := 9) (v := .bool true) rfl (by kernel_rfl) (by kernel_rfl) (by kernel_rfl) (fun _ _ _ h => h) (Or.inl ⟨by rfl, ?_⟩) (by assumption) ?_
        · intro w' hSw
          go_simp
        show wpAnyH _ _ _ _ _ _ _ (Act.put _ (some 22) _) _
        simp only [Act.put, List.setIfInBounds_toArray, List.set_cons_zero, List.set_cons_succ]
        refine wpAnyH_take (i := 10) (v := .bool true) rfl (by kernel_rfl) (by kernel_rfl) (by kernel_rfl) (fun _ _ _ h => h) (Or.inl ⟨by rfl, ?_⟩) (by assumption) ?_
        · intro w' hSw
          go_simp
        show wpAnyH _ _ _ _ _ _ _ (Act.put _ (some 23) _) _
        simp only [Act.put, List.setIfInBounds_toArray, List.set_cons_zero, List.set_cons_succ]
        refine wpAnyH_done (by kernel_rfl) ?_ _
        have HBA := Lib.hid (HW.out.1.next HY1.out)
        have HBR := Lib.hid (HW.out.2.1.next HY1.out)
        have HBL := Lib.hid (HW.out.2.2.trans (HY1.out.mono HW.out.2.2.size))
        have hz := HBA.out.free 0
        have hy := HBA.out.cell (j := 0) rfl
        have hl3 := HBA.out.lt
        have HSET := Lib.hid (And.intro (HBA.out.set 0 (.int .i64 ((m : Int) + 1))) (And.intro (HBR.out.other (g := w.heap.size + 1) (by omega) 0 (.int .i64 ((m : Int) + 1))) (HBL.out.setCell (p := ⟨w.heap.size + 1, 0, none⟩) (by show w.heap.size ≤ w.heap.size + 1; omega) (.int .i64 ((m : Int) + 1)))))
        clear he
        go_wp2_with fail
        go_roundw
        case rel => exact ⟨m + 1, by omega, by go_num, by rw [kindR_yes HE.out]; exact HSET.out.1, HSET.out.2.1, HSET.out.2.2⟩
        case measure => simp [intOf]; omega
      · have HE := Lib.hid (show ¬ actN ((m : Int) + 1) = x from fun q => he (HEQ.out.2 q))
        refine wp_region_held_drew (S := fun W' => Below wr.heap.size wr W') (by kernel_rfl) HHD.out (fun hHeld => ?_)
        refine wpAnyH_take (i := 0) (v := .slice (some ⟨b, o, none⟩) n c) rfl (by kernel_rfl) (by kernel_rfl) (by kernel_rfl) (fun _ _ _ h => h) (Or.inl ⟨by rfl, ?_⟩) (by assumption) ?_
        · intro w' hSw
          go_simp
        show wpAnyH _ _ _ _ _ _ _ (Act.put _ (some 13) _) _
        simp only [Act.put, List.setIfInBounds_toArray, List.set_cons_zero, List.set_cons_succ]
        refine wpAnyH_take (i := 1) (v := .int .i64 n) rfl (by kernel_rfl) (by kernel_rfl) (by kernel_rfl) (fun _ _ _ h => h) (Or.inl ⟨by rfl, ?_⟩) (by assumption) ?_
        · intro w' hSw
          go_simp
        show wpAnyH _ _ _ _ _ _ _ (Act.put _ (some 14) _) _
        simp only [Act.put, List.setIfInBounds_toArray, List.set_cons_zero, List.set_cons_succ]
        refine wpAnyH_take (i := 2) (v := .bool true) rfl (by kernel_rfl) (by kernel_rfl) (by kernel_rfl) (fun _ _ _ h => h) (Or.inl ⟨by rfl, ?_⟩) (by assumption) ?_
        · intro w' hSw
          go_simp
        show wpAnyH _ _ _ _ _ _ _ (Act.put _ (some 15) _) _
        simp only [Act.put, List.setIfInBounds_toArray, List.set_cons_zero, List.set_cons_succ]
        refine wpAnyH_take (i := 3) (v := .bool true) rfl (by kernel_rfl) (by kernel_rfl) (by kernel_rfl) (fun _ _ _ h => h) (Or.inl ⟨by rfl, ?_⟩) (by assumption) ?_
        · intro w' hSw
          go_simp
        show wpAnyH _ _ _ _ _ _ _ (Act.put _ (some 16) _) _
        simp only [Act.put, List.setIfInBounds_toArray, List.set_cons_zero, List.set_cons_succ]
        refine wpAnyH_take (i := 4) (v := .int .i64 ((m : Int) + 1)) rfl (by kernel_rfl) (by kernel_rfl) (by kernel_rfl) (fun _ _ _ h => h) (Or.inl ⟨by rfl, ?_⟩) (by assumption) ?_
        · intro w' hSw
          go_simp
        show wpAnyH _ _ _ _ _ _ _ (Act.put _ (some 17) _) _
        simp only [Act.put, List.setIfInBounds_toArray, List.set_cons_zero, List.set_cons_succ]
        refine wpAnyH_take (i := 6) (v := .slice (some ⟨b, o, none⟩) n c) rfl (by kernel_rfl) (by kernel_rfl) (by kernel_rfl) (fun _ _ _ h => h) (Or.inl ⟨by rfl, ?_⟩) (by assumption) ?_
        · intro w' hSw
          go_simp
        show wpAnyH _ _ _ _ _ _ _ (Act.put _ (some 19) _) _
        simp only [Act.put, List.setIfInBounds_toArray, List.set_cons_zero, List.set_cons_succ]
        refine wpAnyH_take (i := 7) (v := .pointer (some ⟨b, o, none⟩)) rfl (by kernel_rfl) (by kernel_rfl) (by kernel_rfl) (fun _ _ _ h => h) (Or.inl ⟨by rfl, ?_⟩) (by assumption) ?_
        · intro w' hSw
          go_simp
        show wpAnyH _ _ _ _ _ _ _ (Act.put _ (some 20) _) _
        simp only [Act.put, List.setIfInBounds_toArray, List.set_cons_zero, List.set_cons_succ]
        refine wpAnyH_take (i := 8) (v := .string s2) rfl (by kernel_rfl) (by kernel_rfl) (by kernel_rfl) (fun _ _ _ h => h) (Or.inl ⟨by rfl, ?_⟩) (by assumption) ?_
        · intro w' hSw
          have hc := HC0.out w' hSw
          go_simp
        show wpAnyH _ _ _ _ _ _ _ (Act.put _ (some 21) _) _
        simp only [Act.put, List.setIfInBounds_toArray, List.set_cons_zero, List.set_cons_succ]
        refine wpAnyH_ready (rs := [5]) (by kernel_rfl) (by simp) ?_
        refine AllReadyH.cons rfl (fun K hK => ?_) AllReadyH.nil
        go_simp
        refine (HAW1.out _).mono ?_
        rintro e Y1 ⟨rfl, hy1⟩
        go_simp
        refine hK.out _ _ (HHD.out.trans (hy1.mono HHD.out.size)) (fun hHeld => ?_)
        clear hK K
        have HY1 := Lib.hid hHeld
        clear hy1
        refine wpAnyH_take (i := 9) (v := .bool false) rfl (by kernel_rfl) (by kernel_rfl) (by kernel_rfl) (fun _ _ _ h => h) (Or.inl ⟨by rfl, ?_⟩) (by assumption) ?_
        · intro w' hSw
          go_simp
        show wpAnyH _ _ _ _ _ _ _ (Act.put _ (some 22) _) _
        simp only [Act.put, List.setIfInBounds_toArray, List.set_cons_zero, List.set_cons_succ]
        refine wpAnyH_take (i := 10) (v := .bool false) rfl (by kernel_rfl) (by kernel_rfl) (by kernel_rfl) (fun _ _ _ h => h) (Or.inl ⟨by rfl, ?_⟩) (by assumption) ?_
        · intro w' hSw
          go_simp
        show wpAnyH _ _ _ _ _ _ _ (Act.put _ (some 23) _) _
        simp only [Act.put, List.setIfInBounds_toArray, List.set_cons_zero, List.set_cons_succ]
        refine wpAnyH_done (by kernel_rfl) ?_ _
        have HBA := Lib.hid (HW.out.1.next HY1.out)
        have HBR := Lib.hid (HW.out.2.1.next HY1.out)
        have HBL := Lib.hid (HW.out.2.2.trans (HY1.out.mono HW.out.2.2.size))
        clear he
        go_wp2_with fail
        go_roundw
        case rel => exact ⟨m + 1, by omega, by go_num, by rw [kindR_no HE.out]; exact HBA.out, HBR.out, HBL.out⟩
        case measure => simp [intOf]; omega
    · obtain rfl : m = 19 := by omega
      rw [HKD.out.1] at HW
      have HA1 := Lib.hid (HAT.out 1 wr HW.out.2.2)
      obtain ⟨v1, hv1⟩ : ∃ v, v = atR ws 1 := ⟨_, rfl⟩
      have HV1 := Lib.hid hv1
      rw [← hv1] at HA1
      clear hv1
      go_wp2_with fail
      refine HA1.out.mono ?_
      rintro e Y ⟨rfl, hY⟩
      rw [hY]
      clear hY Y
      have hz0 := HW.out.1.cell (j := 0) rfl
      clear HA1
      rcases HKK.out with rfl | rfl | rfl | rfl | rfl | rfl | rfl | rfl | rfl | rfl | rfl | rfl | rfl | rfl | rfl | rfl | rfl | rfl | rfl
      · have _k0 := True.intro
        have hl3 := HW.out.1.lt
        obtain ⟨D, hD⟩ : ∃ D, D = (actCs (kindM 0)).toArray := ⟨_, rfl⟩
        have hrow : (wr).heap[w.heap.size + 1]? = some (.cells D 33 (0, 0)) := by rw [hD]; exact HW.out.1
        have hrw : (wr).heap[w.heap.size]? = some (.cells #[.int .i64 0, .int .i64 0, .int .i64 0, .int .i64 0, .int .i64 0, .int .i64 0, .slice none 0 0, .slice none 0 0] 33 (0, 0)) := HW.out.2.1
        have hsz : (Tryz.prog.info? 33).map (·.size) = some D.size := by rw [hD]; exact act_size
        have hold : (#[.int .i64 0, .int .i64 0, .int .i64 0, .int .i64 0, .int .i64 0, .int .i64 0, .slice none 0 0, .slice none 0 0] : Array Value).size = D.size := by rw [hD]; rfl
        have hone : D.all (·.oneCell') = true := by rw [hD]; exact actCs_one _
        have HDV := Lib.hid (show actV (kindM 0) = .agg D by rw [hD]; rfl)
        clear hD
        go_wp2_with (first | ((with_reducible refine gAt 142 rfl ?_); refine wpList_load_row_g (by rfl) 33 (.tmp 3) rfl (w.heap.size + 1) rfl 33 D (0, 0) _ hrow Tryz.underlying33 rfl hsz ?_) | ((with_reducible refine gOp (.store 33 (.tmp 2) (.tmp 142)) rfl ?_); refine wpList_store_row rfl 33 (.tmp 2) (.tmp 142) rfl w.heap.size D rfl rfl 33 _ hrw hsz hold hone ?_))
        refine bodyPost_ret (results_cell1 Tryz.results34 _ _ w.heap.size 33 D (0, 0) _ (by rfl) (setRow_heap _ _ _ _ _ _ hrw) Tryz.underlying33 rfl hsz) rfl ?_
        refine ⟨(kindM 0), by rw [HDV.out], ?_, ⟨SrcO.nil _ _, nil_own _ _⟩, below_setR (HW.out.2.2) (Nat.le_refl _) _⟩
        rw [HKD.out.2.1]
        rfl
      · have _k0 := True.intro
        have HA2 := Lib.hid (HAT.out 2 wr HW.out.2.2)
        obtain ⟨v2, hv2⟩ : ∃ v, v = atR ws 2 := ⟨_, rfl⟩
        have HV2 := Lib.hid hv2
        rw [← hv2] at HA2
        clear hv2
        have HA1 := Lib.hid (HAT.out 1 wr HW.out.2.2)
        rw [← HV1.out] at HA1
        have hy3 := HW.out.1.cell (j := 3) rfl
        have hf3 := HW.out.1.free 3
        have hy2 := HW.out.1.cell (j := 2) rfl
        have hf2 := HW.out.1.free 2
        have hl3 := HW.out.1.lt
        obtain ⟨D, hD⟩ : ∃ D, D = (actCs ({ kindM 2 with call := v1, n := v2 } : ActM)).toArray := ⟨_, rfl⟩
        have hrow : ((wr.setCell ⟨w.heap.size + 1, 3, none⟩ (.int .i64 v1)).setCell ⟨w.heap.size + 1, 2, none⟩ (.int .i64 v2)).heap[w.heap.size + 1]? = some (.cells D 33 (0, 0)) := by rw [hD]; exact ((HW.out.1.set 3 (.int .i64 v1)).set 2 (.int .i64 v2))
        have hrw : ((wr.setCell ⟨w.heap.size + 1, 3, none⟩ (.int .i64 v1)).setCell ⟨w.heap.size + 1, 2, none⟩ (.int .i64 v2)).heap[w.heap.size]? = some (.cells #[.int .i64 0, .int .i64 0, .int .i64 0, .int .i64 0, .int .i64 0, .int .i64 0, .slice none 0 0, .slice none 0 0] 33 (0, 0)) := ((HW.out.2.1.other (g := w.heap.size + 1) (by omega) 3 (.int .i64 v1)).other (g := w.heap.size + 1) (by omega) 2 (.int .i64 v2))
        have hsz : (Tryz.prog.info? 33).map (·.size) = some D.size := by rw [hD]; exact act_size
        have hold : (#[.int .i64 0, .int .i64 0, .int .i64 0, .int .i64 0, .int .i64 0, .int .i64 0, .slice none 0 0, .slice none 0 0] : Array Value).size = D.size := by rw [hD]; rfl
        have hone : D.all (·.oneCell') = true := by rw [hD]; exact actCs_one _
        have HDV := Lib.hid (show actV ({ kindM 2 with call := v1, n := v2 } : ActM) = .agg D by rw [hD]; rfl)
        clear hD
        go_wp2_with (first | ((with_reducible refine gAt 142 rfl ?_); refine wpList_load_row_g (by rfl) 33 (.tmp 3) rfl (w.heap.size + 1) rfl 33 D (0, 0) _ hrow Tryz.underlying33 rfl hsz ?_) | ((with_reducible refine gOp (.store 33 (.tmp 2) (.tmp 142)) rfl ?_); refine wpList_store_row rfl 33 (.tmp 2) (.tmp 142) rfl w.heap.size D rfl rfl 33 _ hrw hsz hold hone ?_))
        refine HA1.out.mono ?_
        rintro e Y ⟨rfl, hY⟩
        rw [hY]
        clear hY Y
        go_wp2_with (first | ((with_reducible refine gAt 142 rfl ?_); refine wpList_load_row_g (by rfl) 33 (.tmp 3) rfl (w.heap.size + 1) rfl 33 D (0, 0) _ hrow Tryz.underlying33 rfl hsz ?_) | ((with_reducible refine gOp (.store 33 (.tmp 2) (.tmp 142)) rfl ?_); refine wpList_store_row rfl 33 (.tmp 2) (.tmp 142) rfl w.heap.size D rfl rfl 33 _ hrw hsz hold hone ?_))
        refine HA2.out.mono ?_
        rintro e Y ⟨rfl, hY⟩
        rw [hY]
        clear hY Y
        go_wp2_with (first | ((with_reducible refine gAt 142 rfl ?_); refine wpList_load_row_g (by rfl) 33 (.tmp 3) rfl (w.heap.size + 1) rfl 33 D (0, 0) _ hrow Tryz.underlying33 rfl hsz ?_) | ((with_reducible refine gOp (.store 33 (.tmp 2) (.tmp 142)) rfl ?_); refine wpList_store_row rfl 33 (.tmp 2) (.tmp 142) rfl w.heap.size D rfl rfl 33 _ hrw hsz hold hone ?_))
        refine bodyPost_ret (results_cell1 Tryz.results34 _ _ w.heap.size 33 D (0, 0) _ (by rfl) (setRow_heap _ _ _ _ _ _ hrw) Tryz.underlying33 rfl hsz) rfl ?_
        refine ⟨({ kindM 2 with call := v1, n := v2 } : ActM), by rw [HDV.out], ?_, ⟨SrcO.nil _ _, nil_own _ _⟩, below_setR (((HW.out.2.2.setCell (p := ⟨w.heap.size + 1, 3, none⟩) (by show w.heap.size ≤ w.heap.size + 1; omega) (.int .i64 v1)).setCell (p := ⟨w.heap.size + 1, 2, none⟩) (by show w.heap.size ≤ w.heap.size + 1; omega) (.int .i64 v2))) (Nat.le_refl _) _⟩
        rw [HKD.out.2.1]
        rw [HV1.out, HV2.out]
        rfl
      · have _k0 := True.intro
        have HA1 := Lib.hid (HAT.out 1 wr HW.out.2.2)
        rw [← HV1.out] at HA1
        have hy3 := HW.out.1.cell (j := 3) rfl
        have hf3 := HW.out.1.free 3
        have hl3 := HW.out.1.lt
        obtain ⟨D, hD⟩ : ∃ D, D = (actCs ({ kindM 3 with call := v1 } : ActM)).toArray := ⟨_, rfl⟩
        have hrow : (wr.setCell ⟨w.heap.size + 1, 3, none⟩ (.int .i64 v1)).heap[w.heap.size + 1]? = some (.cells D 33 (0, 0)) := by rw [hD]; exact (HW.out.1.set 3 (.int .i64 v1))
        have hrw : (wr.setCell ⟨w.heap.size + 1, 3, none⟩ (.int .i64 v1)).heap[w.heap.size]? = some (.cells #[.int .i64 0, .int .i64 0, .int .i64 0, .int .i64 0, .int .i64 0, .int .i64 0, .slice none 0 0, .slice none 0 0] 33 (0, 0)) := (HW.out.2.1.other (g := w.heap.size + 1) (by omega) 3 (.int .i64 v1))
        have hsz : (Tryz.prog.info? 33).map (·.size) = some D.size := by rw [hD]; exact act_size
        have hold : (#[.int .i64 0, .int .i64 0, .int .i64 0, .int .i64 0, .int .i64 0, .int .i64 0, .slice none 0 0, .slice none 0 0] : Array Value).size = D.size := by rw [hD]; rfl
        have hone : D.all (·.oneCell') = true := by rw [hD]; exact actCs_one _
        have HDV := Lib.hid (show actV ({ kindM 3 with call := v1 } : ActM) = .agg D by rw [hD]; rfl)
        clear hD
        go_wp2_with (first | ((with_reducible refine gAt 142 rfl ?_); refine wpList_load_row_g (by rfl) 33 (.tmp 3) rfl (w.heap.size + 1) rfl 33 D (0, 0) _ hrow Tryz.underlying33 rfl hsz ?_) | ((with_reducible refine gOp (.store 33 (.tmp 2) (.tmp 142)) rfl ?_); refine wpList_store_row rfl 33 (.tmp 2) (.tmp 142) rfl w.heap.size D rfl rfl 33 _ hrw hsz hold hone ?_))
        refine HA1.out.mono ?_
        rintro e Y ⟨rfl, hY⟩
        rw [hY]
        clear hY Y
        go_wp2_with (first | ((with_reducible refine gAt 142 rfl ?_); refine wpList_load_row_g (by rfl) 33 (.tmp 3) rfl (w.heap.size + 1) rfl 33 D (0, 0) _ hrow Tryz.underlying33 rfl hsz ?_) | ((with_reducible refine gOp (.store 33 (.tmp 2) (.tmp 142)) rfl ?_); refine wpList_store_row rfl 33 (.tmp 2) (.tmp 142) rfl w.heap.size D rfl rfl 33 _ hrw hsz hold hone ?_))
        refine bodyPost_ret (results_cell1 Tryz.results34 _ _ w.heap.size 33 D (0, 0) _ (by rfl) (setRow_heap _ _ _ _ _ _ hrw) Tryz.underlying33 rfl hsz) rfl ?_
        refine ⟨({ kindM 3 with call := v1 } : ActM), by rw [HDV.out], ?_, ⟨SrcO.nil _ _, nil_own _ _⟩, below_setR ((HW.out.2.2.setCell (p := ⟨w.heap.size + 1, 3, none⟩) (by show w.heap.size ≤ w.heap.size + 1; omega) (.int .i64 v1))) (Nat.le_refl _) _⟩
        rw [HKD.out.2.1]
        rw [HV1.out]
        rfl
      · have _k0 := True.intro
        have hl3 := HW.out.1.lt
        obtain ⟨D, hD⟩ : ∃ D, D = (actCs (kindM 4)).toArray := ⟨_, rfl⟩
        have hrow : (wr).heap[w.heap.size + 1]? = some (.cells D 33 (0, 0)) := by rw [hD]; exact HW.out.1
        have hrw : (wr).heap[w.heap.size]? = some (.cells #[.int .i64 0, .int .i64 0, .int .i64 0, .int .i64 0, .int .i64 0, .int .i64 0, .slice none 0 0, .slice none 0 0] 33 (0, 0)) := HW.out.2.1
        have hsz : (Tryz.prog.info? 33).map (·.size) = some D.size := by rw [hD]; exact act_size
        have hold : (#[.int .i64 0, .int .i64 0, .int .i64 0, .int .i64 0, .int .i64 0, .int .i64 0, .slice none 0 0, .slice none 0 0] : Array Value).size = D.size := by rw [hD]; rfl
        have hone : D.all (·.oneCell') = true := by rw [hD]; exact actCs_one _
        have HDV := Lib.hid (show actV (kindM 4) = .agg D by rw [hD]; rfl)
        clear hD
        go_wp2_with (first | ((with_reducible refine gAt 142 rfl ?_); refine wpList_load_row_g (by rfl) 33 (.tmp 3) rfl (w.heap.size + 1) rfl 33 D (0, 0) _ hrow Tryz.underlying33 rfl hsz ?_) | ((with_reducible refine gOp (.store 33 (.tmp 2) (.tmp 142)) rfl ?_); refine wpList_store_row rfl 33 (.tmp 2) (.tmp 142) rfl w.heap.size D rfl rfl 33 _ hrw hsz hold hone ?_))
        refine bodyPost_ret (results_cell1 Tryz.results34 _ _ w.heap.size 33 D (0, 0) _ (by rfl) (setRow_heap _ _ _ _ _ _ hrw) Tryz.underlying33 rfl hsz) rfl ?_
        refine ⟨(kindM 4), by rw [HDV.out], ?_, ⟨SrcO.nil _ _, nil_own _ _⟩, below_setR (HW.out.2.2) (Nat.le_refl _) _⟩
        rw [HKD.out.2.1]
        rfl
      · have _k0 := True.intro
        have HA1 := Lib.hid (HAT.out 1 wr HW.out.2.2)
        rw [← HV1.out] at HA1
        have hy2 := HW.out.1.cell (j := 2) rfl
        have hf2 := HW.out.1.free 2
        have hl3 := HW.out.1.lt
        obtain ⟨D, hD⟩ : ∃ D, D = (actCs ({ kindM 5 with n := v1 } : ActM)).toArray := ⟨_, rfl⟩
        have hrow : (wr.setCell ⟨w.heap.size + 1, 2, none⟩ (.int .i64 v1)).heap[w.heap.size + 1]? = some (.cells D 33 (0, 0)) := by rw [hD]; exact (HW.out.1.set 2 (.int .i64 v1))
        have hrw : (wr.setCell ⟨w.heap.size + 1, 2, none⟩ (.int .i64 v1)).heap[w.heap.size]? = some (.cells #[.int .i64 0, .int .i64 0, .int .i64 0, .int .i64 0, .int .i64 0, .int .i64 0, .slice none 0 0, .slice none 0 0] 33 (0, 0)) := (HW.out.2.1.other (g := w.heap.size + 1) (by omega) 2 (.int .i64 v1))
        have hsz : (Tryz.prog.info? 33).map (·.size) = some D.size := by rw [hD]; exact act_size
        have hold : (#[.int .i64 0, .int .i64 0, .int .i64 0, .int .i64 0, .int .i64 0, .int .i64 0, .slice none 0 0, .slice none 0 0] : Array Value).size = D.size := by rw [hD]; rfl
        have hone : D.all (·.oneCell') = true := by rw [hD]; exact actCs_one _
        have HDV := Lib.hid (show actV ({ kindM 5 with n := v1 } : ActM) = .agg D by rw [hD]; rfl)
        clear hD
        go_wp2_with (first | ((with_reducible refine gAt 142 rfl ?_); refine wpList_load_row_g (by rfl) 33 (.tmp 3) rfl (w.heap.size + 1) rfl 33 D (0, 0) _ hrow Tryz.underlying33 rfl hsz ?_) | ((with_reducible refine gOp (.store 33 (.tmp 2) (.tmp 142)) rfl ?_); refine wpList_store_row rfl 33 (.tmp 2) (.tmp 142) rfl w.heap.size D rfl rfl 33 _ hrw hsz hold hone ?_))
        refine HA1.out.mono ?_
        rintro e Y ⟨rfl, hY⟩
        rw [hY]
        clear hY Y
        go_wp2_with (first | ((with_reducible refine gAt 142 rfl ?_); refine wpList_load_row_g (by rfl) 33 (.tmp 3) rfl (w.heap.size + 1) rfl 33 D (0, 0) _ hrow Tryz.underlying33 rfl hsz ?_) | ((with_reducible refine gOp (.store 33 (.tmp 2) (.tmp 142)) rfl ?_); refine wpList_store_row rfl 33 (.tmp 2) (.tmp 142) rfl w.heap.size D rfl rfl 33 _ hrw hsz hold hone ?_))
        refine bodyPost_ret (results_cell1 Tryz.results34 _ _ w.heap.size 33 D (0, 0) _ (by rfl) (setRow_heap _ _ _ _ _ _ hrw) Tryz.underlying33 rfl hsz) rfl ?_
        refine ⟨({ kindM 5 with n := v1 } : ActM), by rw [HDV.out], ?_, ⟨SrcO.nil _ _, nil_own _ _⟩, below_setR ((HW.out.2.2.setCell (p := ⟨w.heap.size + 1, 2, none⟩) (by show w.heap.size ≤ w.heap.size + 1; omega) (.int .i64 v1))) (Nat.le_refl _) _⟩
        rw [HKD.out.2.1]
        rw [HV1.out]
        rfl
      · have _k0 := True.intro
        have HA1 := Lib.hid (HAT.out 1 wr HW.out.2.2)
        rw [← HV1.out] at HA1
        have hy2 := HW.out.1.cell (j := 2) rfl
        have hf2 := HW.out.1.free 2
        have hl3 := HW.out.1.lt
        obtain ⟨D, hD⟩ : ∃ D, D = (actCs ({ kindM 6 with n := v1 } : ActM)).toArray := ⟨_, rfl⟩
        have hrow : (wr.setCell ⟨w.heap.size + 1, 2, none⟩ (.int .i64 v1)).heap[w.heap.size + 1]? = some (.cells D 33 (0, 0)) := by rw [hD]; exact (HW.out.1.set 2 (.int .i64 v1))
        have hrw : (wr.setCell ⟨w.heap.size + 1, 2, none⟩ (.int .i64 v1)).heap[w.heap.size]? = some (.cells #[.int .i64 0, .int .i64 0, .int .i64 0, .int .i64 0, .int .i64 0, .int .i64 0, .slice none 0 0, .slice none 0 0] 33 (0, 0)) := (HW.out.2.1.other (g := w.heap.size + 1) (by omega) 2 (.int .i64 v1))
        have hsz : (Tryz.prog.info? 33).map (·.size) = some D.size := by rw [hD]; exact act_size
        have hold : (#[.int .i64 0, .int .i64 0, .int .i64 0, .int .i64 0, .int .i64 0, .int .i64 0, .slice none 0 0, .slice none 0 0] : Array Value).size = D.size := by rw [hD]; rfl
        have hone : D.all (·.oneCell') = true := by rw [hD]; exact actCs_one _
        have HDV := Lib.hid (show actV ({ kindM 6 with n := v1 } : ActM) = .agg D by rw [hD]; rfl)
        clear hD
        go_wp2_with (first | ((with_reducible refine gAt 142 rfl ?_); refine wpList_load_row_g (by rfl) 33 (.tmp 3) rfl (w.heap.size + 1) rfl 33 D (0, 0) _ hrow Tryz.underlying33 rfl hsz ?_) | ((with_reducible refine gOp (.store 33 (.tmp 2) (.tmp 142)) rfl ?_); refine wpList_store_row rfl 33 (.tmp 2) (.tmp 142) rfl w.heap.size D rfl rfl 33 _ hrw hsz hold hone ?_))
        refine HA1.out.mono ?_
        rintro e Y ⟨rfl, hY⟩
        rw [hY]
        clear hY Y
        go_wp2_with (first | ((with_reducible refine gAt 142 rfl ?_); refine wpList_load_row_g (by rfl) 33 (.tmp 3) rfl (w.heap.size + 1) rfl 33 D (0, 0) _ hrow Tryz.underlying33 rfl hsz ?_) | ((with_reducible refine gOp (.store 33 (.tmp 2) (.tmp 142)) rfl ?_); refine wpList_store_row rfl 33 (.tmp 2) (.tmp 142) rfl w.heap.size D rfl rfl 33 _ hrw hsz hold hone ?_))
        refine bodyPost_ret (results_cell1 Tryz.results34 _ _ w.heap.size 33 D (0, 0) _ (by rfl) (setRow_heap _ _ _ _ _ _ hrw) Tryz.underlying33 rfl hsz) rfl ?_
        refine ⟨({ kindM 6 with n := v1 } : ActM), by rw [HDV.out], ?_, ⟨SrcO.nil _ _, nil_own _ _⟩, below_setR ((HW.out.2.2.setCell (p := ⟨w.heap.size + 1, 2, none⟩) (by show w.heap.size ≤ w.heap.size + 1; omega) (.int .i64 v1))) (Nat.le_refl _) _⟩
        rw [HKD.out.2.1]
        rw [HV1.out]
        rfl
      · have _k0 := True.intro
        have HA1 := Lib.hid (HAT.out 1 wr HW.out.2.2)
        rw [← HV1.out] at HA1
        have hy2 := HW.out.1.cell (j := 2) rfl
        have hf2 := HW.out.1.free 2
        have hl3 := HW.out.1.lt
        obtain ⟨D, hD⟩ : ∃ D, D = (actCs ({ kindM 7 with n := v1 } : ActM)).toArray := ⟨_, rfl⟩
        have hrow : (wr.setCell ⟨w.heap.size + 1, 2, none⟩ (.int .i64 v1)).heap[w.heap.size + 1]? = some (.cells D 33 (0, 0)) := by rw [hD]; exact (HW.out.1.set 2 (.int .i64 v1))
        have hrw : (wr.setCell ⟨w.heap.size + 1, 2, none⟩ (.int .i64 v1)).heap[w.heap.size]? = some (.cells #[.int .i64 0, .int .i64 0, .int .i64 0, .int .i64 0, .int .i64 0, .int .i64 0, .slice none 0 0, .slice none 0 0] 33 (0, 0)) := (HW.out.2.1.other (g := w.heap.size + 1) (by omega) 2 (.int .i64 v1))
        have hsz : (Tryz.prog.info? 33).map (·.size) = some D.size := by rw [hD]; exact act_size
        have hold : (#[.int .i64 0, .int .i64 0, .int .i64 0, .int .i64 0, .int .i64 0, .int .i64 0, .slice none 0 0, .slice none 0 0] : Array Value).size = D.size := by rw [hD]; rfl
        have hone : D.all (·.oneCell') = true := by rw [hD]; exact actCs_one _
        have HDV := Lib.hid (show actV ({ kindM 7 with n := v1 } : ActM) = .agg D by rw [hD]; rfl)
        clear hD
        go_wp2_with (first | ((with_reducible refine gAt 142 rfl ?_); refine wpList_load_row_g (by rfl) 33 (.tmp 3) rfl (w.heap.size + 1) rfl 33 D (0, 0) _ hrow Tryz.underlying33 rfl hsz ?_) | ((with_reducible refine gOp (.store 33 (.tmp 2) (.tmp 142)) rfl ?_); refine wpList_store_row rfl 33 (.tmp 2) (.tmp 142) rfl w.heap.size D rfl rfl 33 _ hrw hsz hold hone ?_))
        refine HA1.out.mono ?_
        rintro e Y ⟨rfl, hY⟩
        rw [hY]
        clear hY Y
        go_wp2_with (first | ((with_reducible refine gAt 142 rfl ?_); refine wpList_load_row_g (by rfl) 33 (.tmp 3) rfl (w.heap.size + 1) rfl 33 D (0, 0) _ hrow Tryz.underlying33 rfl hsz ?_) | ((with_reducible refine gOp (.store 33 (.tmp 2) (.tmp 142)) rfl ?_); refine wpList_store_row rfl 33 (.tmp 2) (.tmp 142) rfl w.heap.size D rfl rfl 33 _ hrw hsz hold hone ?_))
        refine bodyPost_ret (results_cell1 Tryz.results34 _ _ w.heap.size 33 D (0, 0) _ (by rfl) (setRow_heap _ _ _ _ _ _ hrw) Tryz.underlying33 rfl hsz) rfl ?_
        refine ⟨({ kindM 7 with n := v1 } : ActM), by rw [HDV.out], ?_, ⟨SrcO.nil _ _, nil_own _ _⟩, below_setR ((HW.out.2.2.setCell (p := ⟨w.heap.size + 1, 2, none⟩) (by show w.heap.size ≤ w.heap.size + 1; omega) (.int .i64 v1))) (Nat.le_refl _) _⟩
        rw [HKD.out.2.1]
        rw [HV1.out]
        rfl
      · have _k0 := True.intro
        have HS8 := Lib.hid (HSP.out 1 wr HW.out.2.2 (by decide))
        have HL8 := Lib.hid (spanR_64 (w := ws) (i := 1))
        clear hz0
        have hz0 := HW.out.1.cell (j := 0) rfl
        go_wp2_with fail
        refine HS8.out.mono ?_
        rintro e Y ⟨B, d, rfl, hown, hb8⟩
        have HW8 := Lib.hid (And.intro (HW.out.1.next hb8) (And.intro (HW.out.2.1.next hb8) (And.intro (HW.out.2.2.trans (hb8.mono HW.out.2.2.size)) (OwnV.base_le hown HW.out.2.2.size))))
        obtain ⟨L, hL⟩ : ∃ L, L = spanR ws 1 := ⟨_, rfl⟩
        rw [← hL] at HW8 ⊢
        have HLL := Lib.hid hL
        clear hown hb8 HS8 HL8 hz0 hL
        have hy7 := HW8.out.1.cell (j := 7) rfl
        have hf7 := HW8.out.1.free 7
        have hl3 := HW8.out.1.lt
        obtain ⟨D, hD⟩ : ∃ D, D = (actCs ({ kindM 8 with gA := B, gc := d, groups := L } : ActM)).toArray := ⟨_, rfl⟩
        have hrow : (Y.setCell ⟨w.heap.size + 1, 7, none⟩ (.slice B L.length d)).heap[w.heap.size + 1]? = some (.cells D 33 (0, 0)) := by rw [hD]; exact (HW8.out.1.set 7 (.slice B L.length d))
        have hrw : (Y.setCell ⟨w.heap.size + 1, 7, none⟩ (.slice B L.length d)).heap[w.heap.size]? = some (.cells #[.int .i64 0, .int .i64 0, .int .i64 0, .int .i64 0, .int .i64 0, .int .i64 0, .slice none 0 0, .slice none 0 0] 33 (0, 0)) := (HW8.out.2.1.other (g := w.heap.size + 1) (by omega) 7 (.slice B L.length d))
        have hsz : (Tryz.prog.info? 33).map (·.size) = some D.size := by rw [hD]; exact act_size
        have hold : (#[.int .i64 0, .int .i64 0, .int .i64 0, .int .i64 0, .int .i64 0, .int .i64 0, .slice none 0 0, .slice none 0 0] : Array Value).size = D.size := by rw [hD]; rfl
        have hone : D.all (·.oneCell') = true := by rw [hD]; exact actCs_one _
        have HDV := Lib.hid (show actV ({ kindM 8 with gA := B, gc := d, groups := L } : ActM) = .agg D by rw [hD]; rfl)
        clear hD
        go_wp2_with (first | ((with_reducible refine gAt 142 rfl ?_); refine wpList_load_row_g (by rfl) 33 (.tmp 3) rfl (w.heap.size + 1) rfl 33 D (0, 0) _ hrow Tryz.underlying33 rfl hsz ?_) | ((with_reducible refine gOp (.store 33 (.tmp 2) (.tmp 142)) rfl ?_); refine wpList_store_row rfl 33 (.tmp 2) (.tmp 142) rfl w.heap.size D rfl rfl 33 _ hrw hsz hold hone ?_))
        refine bodyPost_ret (results_cell1 Tryz.results34 _ _ w.heap.size 33 D (0, 0) _ (by rfl) (setRow_heap _ _ _ _ _ _ hrw) Tryz.underlying33 rfl hsz) rfl ?_
        refine ⟨({ kindM 8 with gA := B, gc := d, groups := L } : ActM), by rw [HDV.out], ?_, ⟨SrcO.nil _ _, own_keep (own_blk HW8.out.2.2.2 HW8.out.1 (by decide) 7 (.slice B L.length d)) (HW8.out.2.1.other (g := w.heap.size + 1) (by omega) 7 (.slice B L.length d)) (by decide) (only_row2 _ w.heap.size D)⟩, below_setR (HW8.out.2.2.1.setCell (p := ⟨w.heap.size + 1, 7, none⟩) (by show w.heap.size ≤ w.heap.size + 1; omega) (.slice B L.length d)) (Nat.le_refl _) _⟩
        rw [HKD.out.2.1]
        rw [HLL.out]
        rfl
      · have _k0 := True.intro
        have hl3 := HW.out.1.lt
        obtain ⟨D, hD⟩ : ∃ D, D = (actCs (kindM 9)).toArray := ⟨_, rfl⟩
        have hrow : (wr).heap[w.heap.size + 1]? = some (.cells D 33 (0, 0)) := by rw [hD]; exact HW.out.1
        have hrw : (wr).heap[w.heap.size]? = some (.cells #[.int .i64 0, .int .i64 0, .int .i64 0, .int .i64 0, .int .i64 0, .int .i64 0, .slice none 0 0, .slice none 0 0] 33 (0, 0)) := HW.out.2.1
        have hsz : (Tryz.prog.info? 33).map (·.size) = some D.size := by rw [hD]; exact act_size
        have hold : (#[.int .i64 0, .int .i64 0, .int .i64 0, .int .i64 0, .int .i64 0, .int .i64 0, .slice none 0 0, .slice none 0 0] : Array Value).size = D.size := by rw [hD]; rfl
        have hone : D.all (·.oneCell') = true := by rw [hD]; exact actCs_one _
        have HDV := Lib.hid (show actV (kindM 9) = .agg D by rw [hD]; rfl)
        clear hD
        go_wp2_with (first | ((with_reducible refine gAt 142 rfl ?_); refine wpList_load_row_g (by rfl) 33 (.tmp 3) rfl (w.heap.size + 1) rfl 33 D (0, 0) _ hrow Tryz.underlying33 rfl hsz ?_) | ((with_reducible refine gOp (.store 33 (.tmp 2) (.tmp 142)) rfl ?_); refine wpList_store_row rfl 33 (.tmp 2) (.tmp 142) rfl w.heap.size D rfl rfl 33 _ hrw hsz hold hone ?_))
        refine bodyPost_ret (results_cell1 Tryz.results34 _ _ w.heap.size 33 D (0, 0) _ (by rfl) (setRow_heap _ _ _ _ _ _ hrw) Tryz.underlying33 rfl hsz) rfl ?_
        refine ⟨(kindM 9), by rw [HDV.out], ?_, ⟨SrcO.nil _ _, nil_own _ _⟩, below_setR (HW.out.2.2) (Nat.le_refl _) _⟩
        rw [HKD.out.2.1]
        rfl
      · have _k0 := True.intro
        have HA2 := Lib.hid (HAT.out 2 wr HW.out.2.2)
        obtain ⟨v2, hv2⟩ : ∃ v, v = atR ws 2 := ⟨_, rfl⟩
        have HV2 := Lib.hid hv2
        rw [← hv2] at HA2
        clear hv2
        have hy1 := HW.out.1.cell (j := 1) rfl
        have hf1 := HW.out.1.free 1
        have hy2 := HW.out.1.cell (j := 2) rfl
        have hf2 := HW.out.1.free 2
        have hl3 := HW.out.1.lt
        obtain ⟨D, hD⟩ : ∃ D, D = (actCs ({ kindM 10 with who := v1, n := v2 } : ActM)).toArray := ⟨_, rfl⟩
        have hrow : ((wr.setCell ⟨w.heap.size + 1, 1, none⟩ (.int .i64 v1)).setCell ⟨w.heap.size + 1, 2, none⟩ (.int .i64 v2)).heap[w.heap.size + 1]? = some (.cells D 33 (0, 0)) := by rw [hD]; exact ((HW.out.1.set 1 (.int .i64 v1)).set 2 (.int .i64 v2))
        have hrw : ((wr.setCell ⟨w.heap.size + 1, 1, none⟩ (.int .i64 v1)).setCell ⟨w.heap.size + 1, 2, none⟩ (.int .i64 v2)).heap[w.heap.size]? = some (.cells #[.int .i64 0, .int .i64 0, .int .i64 0, .int .i64 0, .int .i64 0, .int .i64 0, .slice none 0 0, .slice none 0 0] 33 (0, 0)) := ((HW.out.2.1.other (g := w.heap.size + 1) (by omega) 1 (.int .i64 v1)).other (g := w.heap.size + 1) (by omega) 2 (.int .i64 v2))
        have hsz : (Tryz.prog.info? 33).map (·.size) = some D.size := by rw [hD]; exact act_size
        have hold : (#[.int .i64 0, .int .i64 0, .int .i64 0, .int .i64 0, .int .i64 0, .int .i64 0, .slice none 0 0, .slice none 0 0] : Array Value).size = D.size := by rw [hD]; rfl
        have hone : D.all (·.oneCell') = true := by rw [hD]; exact actCs_one _
        have HDV := Lib.hid (show actV ({ kindM 10 with who := v1, n := v2 } : ActM) = .agg D by rw [hD]; rfl)
        clear hD
        go_wp2_with (first | ((with_reducible refine gAt 142 rfl ?_); refine wpList_load_row_g (by rfl) 33 (.tmp 3) rfl (w.heap.size + 1) rfl 33 D (0, 0) _ hrow Tryz.underlying33 rfl hsz ?_) | ((with_reducible refine gOp (.store 33 (.tmp 2) (.tmp 142)) rfl ?_); refine wpList_store_row rfl 33 (.tmp 2) (.tmp 142) rfl w.heap.size D rfl rfl 33 _ hrw hsz hold hone ?_))
        refine HA2.out.mono ?_
        rintro e Y ⟨rfl, hY⟩
        rw [hY]
        clear hY Y
        go_wp2_with (first | ((with_reducible refine gAt 142 rfl ?_); refine wpList_load_row_g (by rfl) 33 (.tmp 3) rfl (w.heap.size + 1) rfl 33 D (0, 0) _ hrow Tryz.underlying33 rfl hsz ?_) | ((with_reducible refine gOp (.store 33 (.tmp 2) (.tmp 142)) rfl ?_); refine wpList_store_row rfl 33 (.tmp 2) (.tmp 142) rfl w.heap.size D rfl rfl 33 _ hrw hsz hold hone ?_))
        refine bodyPost_ret (results_cell1 Tryz.results34 _ _ w.heap.size 33 D (0, 0) _ (by rfl) (setRow_heap _ _ _ _ _ _ hrw) Tryz.underlying33 rfl hsz) rfl ?_
        refine ⟨({ kindM 10 with who := v1, n := v2 } : ActM), by rw [HDV.out], ?_, ⟨SrcO.nil _ _, nil_own _ _⟩, below_setR (((HW.out.2.2.setCell (p := ⟨w.heap.size + 1, 1, none⟩) (by show w.heap.size ≤ w.heap.size + 1; omega) (.int .i64 v1)).setCell (p := ⟨w.heap.size + 1, 2, none⟩) (by show w.heap.size ≤ w.heap.size + 1; omega) (.int .i64 v2))) (Nat.le_refl _) _⟩
        rw [HKD.out.2.1]
        rw [HV1.out, HV2.out]
        rfl
      · have _k0 := True.intro
        have hy1 := HW.out.1.cell (j := 1) rfl
        have hf1 := HW.out.1.free 1
        have hl3 := HW.out.1.lt
        obtain ⟨D, hD⟩ : ∃ D, D = (actCs ({ kindM 11 with who := v1 } : ActM)).toArray := ⟨_, rfl⟩
        have hrow : (wr.setCell ⟨w.heap.size + 1, 1, none⟩ (.int .i64 v1)).heap[w.heap.size + 1]? = some (.cells D 33 (0, 0)) := by rw [hD]; exact (HW.out.1.set 1 (.int .i64 v1))
        have hrw : (wr.setCell ⟨w.heap.size + 1, 1, none⟩ (.int .i64 v1)).heap[w.heap.size]? = some (.cells #[.int .i64 0, .int .i64 0, .int .i64 0, .int .i64 0, .int .i64 0, .int .i64 0, .slice none 0 0, .slice none 0 0] 33 (0, 0)) := (HW.out.2.1.other (g := w.heap.size + 1) (by omega) 1 (.int .i64 v1))
        have hsz : (Tryz.prog.info? 33).map (·.size) = some D.size := by rw [hD]; exact act_size
        have hold : (#[.int .i64 0, .int .i64 0, .int .i64 0, .int .i64 0, .int .i64 0, .int .i64 0, .slice none 0 0, .slice none 0 0] : Array Value).size = D.size := by rw [hD]; rfl
        have hone : D.all (·.oneCell') = true := by rw [hD]; exact actCs_one _
        have HDV := Lib.hid (show actV ({ kindM 11 with who := v1 } : ActM) = .agg D by rw [hD]; rfl)
        clear hD
        go_wp2_with (first | ((with_reducible refine gAt 142 rfl ?_); refine wpList_load_row_g (by rfl) 33 (.tmp 3) rfl (w.heap.size + 1) rfl 33 D (0, 0) _ hrow Tryz.underlying33 rfl hsz ?_) | ((with_reducible refine gOp (.store 33 (.tmp 2) (.tmp 142)) rfl ?_); refine wpList_store_row rfl 33 (.tmp 2) (.tmp 142) rfl w.heap.size D rfl rfl 33 _ hrw hsz hold hone ?_))
        refine bodyPost_ret (results_cell1 Tryz.results34 _ _ w.heap.size 33 D (0, 0) _ (by rfl) (setRow_heap _ _ _ _ _ _ hrw) Tryz.underlying33 rfl hsz) rfl ?_
        refine ⟨({ kindM 11 with who := v1 } : ActM), by rw [HDV.out], ?_, ⟨SrcO.nil _ _, nil_own _ _⟩, below_setR ((HW.out.2.2.setCell (p := ⟨w.heap.size + 1, 1, none⟩) (by show w.heap.size ≤ w.heap.size + 1; omega) (.int .i64 v1))) (Nat.le_refl _) _⟩
        rw [HKD.out.2.1]
        rw [HV1.out]
        rfl
      · have _k0 := True.intro
        have hy1 := HW.out.1.cell (j := 1) rfl
        have hf1 := HW.out.1.free 1
        have hl3 := HW.out.1.lt
        obtain ⟨D, hD⟩ : ∃ D, D = (actCs ({ kindM 12 with who := v1 } : ActM)).toArray := ⟨_, rfl⟩
        have hrow : (wr.setCell ⟨w.heap.size + 1, 1, none⟩ (.int .i64 v1)).heap[w.heap.size + 1]? = some (.cells D 33 (0, 0)) := by rw [hD]; exact (HW.out.1.set 1 (.int .i64 v1))
        have hrw : (wr.setCell ⟨w.heap.size + 1, 1, none⟩ (.int .i64 v1)).heap[w.heap.size]? = some (.cells #[.int .i64 0, .int .i64 0, .int .i64 0, .int .i64 0, .int .i64 0, .int .i64 0, .slice none 0 0, .slice none 0 0] 33 (0, 0)) := (HW.out.2.1.other (g := w.heap.size + 1) (by omega) 1 (.int .i64 v1))
        have hsz : (Tryz.prog.info? 33).map (·.size) = some D.size := by rw [hD]; exact act_size
        have hold : (#[.int .i64 0, .int .i64 0, .int .i64 0, .int .i64 0, .int .i64 0, .int .i64 0, .slice none 0 0, .slice none 0 0] : Array Value).size = D.size := by rw [hD]; rfl
        have hone : D.all (·.oneCell') = true := by rw [hD]; exact actCs_one _
        have HDV := Lib.hid (show actV ({ kindM 12 with who := v1 } : ActM) = .agg D by rw [hD]; rfl)
        clear hD
        go_wp2_with (first | ((with_reducible refine gAt 142 rfl ?_); refine wpList_load_row_g (by rfl) 33 (.tmp 3) rfl (w.heap.size + 1) rfl 33 D (0, 0) _ hrow Tryz.underlying33 rfl hsz ?_) | ((with_reducible refine gOp (.store 33 (.tmp 2) (.tmp 142)) rfl ?_); refine wpList_store_row rfl 33 (.tmp 2) (.tmp 142) rfl w.heap.size D rfl rfl 33 _ hrw hsz hold hone ?_))
        refine bodyPost_ret (results_cell1 Tryz.results34 _ _ w.heap.size 33 D (0, 0) _ (by rfl) (setRow_heap _ _ _ _ _ _ hrw) Tryz.underlying33 rfl hsz) rfl ?_
        refine ⟨({ kindM 12 with who := v1 } : ActM), by rw [HDV.out], ?_, ⟨SrcO.nil _ _, nil_own _ _⟩, below_setR ((HW.out.2.2.setCell (p := ⟨w.heap.size + 1, 1, none⟩) (by show w.heap.size ≤ w.heap.size + 1; omega) (.int .i64 v1))) (Nat.le_refl _) _⟩
        rw [HKD.out.2.1]
        rw [HV1.out]
        rfl
      · have _k0 := True.intro
        have hy1 := HW.out.1.cell (j := 1) rfl
        have hf1 := HW.out.1.free 1
        have hl3 := HW.out.1.lt
        obtain ⟨D, hD⟩ : ∃ D, D = (actCs ({ kindM 13 with who := v1 } : ActM)).toArray := ⟨_, rfl⟩
        have hrow : (wr.setCell ⟨w.heap.size + 1, 1, none⟩ (.int .i64 v1)).heap[w.heap.size + 1]? = some (.cells D 33 (0, 0)) := by rw [hD]; exact (HW.out.1.set 1 (.int .i64 v1))
        have hrw : (wr.setCell ⟨w.heap.size + 1, 1, none⟩ (.int .i64 v1)).heap[w.heap.size]? = some (.cells #[.int .i64 0, .int .i64 0, .int .i64 0, .int .i64 0, .int .i64 0, .int .i64 0, .slice none 0 0, .slice none 0 0] 33 (0, 0)) := (HW.out.2.1.other (g := w.heap.size + 1) (by omega) 1 (.int .i64 v1))
        have hsz : (Tryz.prog.info? 33).map (·.size) = some D.size := by rw [hD]; exact act_size
        have hold : (#[.int .i64 0, .int .i64 0, .int .i64 0, .int .i64 0, .int .i64 0, .int .i64 0, .slice none 0 0, .slice none 0 0] : Array Value).size = D.size := by rw [hD]; rfl
        have hone : D.all (·.oneCell') = true := by rw [hD]; exact actCs_one _
        have HDV := Lib.hid (show actV ({ kindM 13 with who := v1 } : ActM) = .agg D by rw [hD]; rfl)
        clear hD
        go_wp2_with (first | ((with_reducible refine gAt 142 rfl ?_); refine wpList_load_row_g (by rfl) 33 (.tmp 3) rfl (w.heap.size + 1) rfl 33 D (0, 0) _ hrow Tryz.underlying33 rfl hsz ?_) | ((with_reducible refine gOp (.store 33 (.tmp 2) (.tmp 142)) rfl ?_); refine wpList_store_row rfl 33 (.tmp 2) (.tmp 142) rfl w.heap.size D rfl rfl 33 _ hrw hsz hold hone ?_))
        refine bodyPost_ret (results_cell1 Tryz.results34 _ _ w.heap.size 33 D (0, 0) _ (by rfl) (setRow_heap _ _ _ _ _ _ hrw) Tryz.underlying33 rfl hsz) rfl ?_
        refine ⟨({ kindM 13 with who := v1 } : ActM), by rw [HDV.out], ?_, ⟨SrcO.nil _ _, nil_own _ _⟩, below_setR ((HW.out.2.2.setCell (p := ⟨w.heap.size + 1, 1, none⟩) (by show w.heap.size ≤ w.heap.size + 1; omega) (.int .i64 v1))) (Nat.le_refl _) _⟩
        rw [HKD.out.2.1]
        rw [HV1.out]
        rfl
      · have _k0 := True.intro
        have HA2 := Lib.hid (HAT.out 2 wr HW.out.2.2)
        obtain ⟨v2, hv2⟩ : ∃ v, v = atR ws 2 := ⟨_, rfl⟩
        have HV2 := Lib.hid hv2
        rw [← hv2] at HA2
        clear hv2
        have HA3 := Lib.hid (HAT.out 3 wr HW.out.2.2)
        obtain ⟨v3, hv3⟩ : ∃ v, v = atR ws 3 := ⟨_, rfl⟩
        have HV3 := Lib.hid hv3
        rw [← hv3] at HA3
        clear hv3
        have hy1 := HW.out.1.cell (j := 1) rfl
        have hf1 := HW.out.1.free 1
        have hy3 := HW.out.1.cell (j := 3) rfl
        have hf3 := HW.out.1.free 3
        have hy2 := HW.out.1.cell (j := 2) rfl
        have hf2 := HW.out.1.free 2
        have hl3 := HW.out.1.lt
        obtain ⟨D, hD⟩ : ∃ D, D = (actCs ({ kindM 14 with who := v1, call := v2, n := v3 } : ActM)).toArray := ⟨_, rfl⟩
        have hrow : (((wr.setCell ⟨w.heap.size + 1, 1, none⟩ (.int .i64 v1)).setCell ⟨w.heap.size + 1, 3, none⟩ (.int .i64 v2)).setCell ⟨w.heap.size + 1, 2, none⟩ (.int .i64 v3)).heap[w.heap.size + 1]? = some (.cells D 33 (0, 0)) := by rw [hD]; exact (((HW.out.1.set 1 (.int .i64 v1)).set 3 (.int .i64 v2)).set 2 (.int .i64 v3))
        have hrw : (((wr.setCell ⟨w.heap.size + 1, 1, none⟩ (.int .i64 v1)).setCell ⟨w.heap.size + 1, 3, none⟩ (.int .i64 v2)).setCell ⟨w.heap.size + 1, 2, none⟩ (.int .i64 v3)).heap[w.heap.size]? = some (.cells #[.int .i64 0, .int .i64 0, .int .i64 0, .int .i64 0, .int .i64 0, .int .i64 0, .slice none 0 0, .slice none 0 0] 33 (0, 0)) := (((HW.out.2.1.other (g := w.heap.size + 1) (by omega) 1 (.int .i64 v1)).other (g := w.heap.size + 1) (by omega) 3 (.int .i64 v2)).other (g := w.heap.size + 1) (by omega) 2 (.int .i64 v3))
        have hsz : (Tryz.prog.info? 33).map (·.size) = some D.size := by rw [hD]; exact act_size
        have hold : (#[.int .i64 0, .int .i64 0, .int .i64 0, .int .i64 0, .int .i64 0, .int .i64 0, .slice none 0 0, .slice none 0 0] : Array Value).size = D.size := by rw [hD]; rfl
        have hone : D.all (·.oneCell') = true := by rw [hD]; exact actCs_one _
        have HDV := Lib.hid (show actV ({ kindM 14 with who := v1, call := v2, n := v3 } : ActM) = .agg D by rw [hD]; rfl)
        clear hD
        go_wp2_with (first | ((with_reducible refine gAt 142 rfl ?_); refine wpList_load_row_g (by rfl) 33 (.tmp 3) rfl (w.heap.size + 1) rfl 33 D (0, 0) _ hrow Tryz.underlying33 rfl hsz ?_) | ((with_reducible refine gOp (.store 33 (.tmp 2) (.tmp 142)) rfl ?_); refine wpList_store_row rfl 33 (.tmp 2) (.tmp 142) rfl w.heap.size D rfl rfl 33 _ hrw hsz hold hone ?_))
        refine HA2.out.mono ?_
        rintro e Y ⟨rfl, hY⟩
        rw [hY]
        clear hY Y
        go_wp2_with (first | ((with_reducible refine gAt 142 rfl ?_); refine wpList_load_row_g (by rfl) 33 (.tmp 3) rfl (w.heap.size + 1) rfl 33 D (0, 0) _ hrow Tryz.underlying33 rfl hsz ?_) | ((with_reducible refine gOp (.store 33 (.tmp 2) (.tmp 142)) rfl ?_); refine wpList_store_row rfl 33 (.tmp 2) (.tmp 142) rfl w.heap.size D rfl rfl 33 _ hrw hsz hold hone ?_))
        refine HA3.out.mono ?_
        rintro e Y ⟨rfl, hY⟩
        rw [hY]
        clear hY Y
        go_wp2_with (first | ((with_reducible refine gAt 142 rfl ?_); refine wpList_load_row_g (by rfl) 33 (.tmp 3) rfl (w.heap.size + 1) rfl 33 D (0, 0) _ hrow Tryz.underlying33 rfl hsz ?_) | ((with_reducible refine gOp (.store 33 (.tmp 2) (.tmp 142)) rfl ?_); refine wpList_store_row rfl 33 (.tmp 2) (.tmp 142) rfl w.heap.size D rfl rfl 33 _ hrw hsz hold hone ?_))
        refine bodyPost_ret (results_cell1 Tryz.results34 _ _ w.heap.size 33 D (0, 0) _ (by rfl) (setRow_heap _ _ _ _ _ _ hrw) Tryz.underlying33 rfl hsz) rfl ?_
        refine ⟨({ kindM 14 with who := v1, call := v2, n := v3 } : ActM), by rw [HDV.out], ?_, ⟨SrcO.nil _ _, nil_own _ _⟩, below_setR ((((HW.out.2.2.setCell (p := ⟨w.heap.size + 1, 1, none⟩) (by show w.heap.size ≤ w.heap.size + 1; omega) (.int .i64 v1)).setCell (p := ⟨w.heap.size + 1, 3, none⟩) (by show w.heap.size ≤ w.heap.size + 1; omega) (.int .i64 v2)).setCell (p := ⟨w.heap.size + 1, 2, none⟩) (by show w.heap.size ≤ w.heap.size + 1; omega) (.int .i64 v3))) (Nat.le_refl _) _⟩
        rw [HKD.out.2.1]
        rw [HV1.out, HV2.out, HV3.out]
        rfl
      · have _k0 := True.intro
        have HA2 := Lib.hid (HAT.out 2 wr HW.out.2.2)
        obtain ⟨v2, hv2⟩ : ∃ v, v = atR ws 2 := ⟨_, rfl⟩
        have HV2 := Lib.hid hv2
        rw [← hv2] at HA2
        clear hv2
        have HA3 := Lib.hid (HAT.out 3 wr HW.out.2.2)
        obtain ⟨v3, hv3⟩ : ∃ v, v = atR ws 3 := ⟨_, rfl⟩
        have HV3 := Lib.hid hv3
        rw [← hv3] at HA3
        clear hv3
        have hy1 := HW.out.1.cell (j := 1) rfl
        have hf1 := HW.out.1.free 1
        have hy3 := HW.out.1.cell (j := 3) rfl
        have hf3 := HW.out.1.free 3
        have hy4 := HW.out.1.cell (j := 4) rfl
        have hf4 := HW.out.1.free 4
        have hl3 := HW.out.1.lt
        obtain ⟨D, hD⟩ : ∃ D, D = (actCs ({ kindM 15 with who := v1, call := v2, other := v3 } : ActM)).toArray := ⟨_, rfl⟩
        have hrow : (((wr.setCell ⟨w.heap.size + 1, 1, none⟩ (.int .i64 v1)).setCell ⟨w.heap.size + 1, 3, none⟩ (.int .i64 v2)).setCell ⟨w.heap.size + 1, 4, none⟩ (.int .i64 v3)).heap[w.heap.size + 1]? = some (.cells D 33 (0, 0)) := by rw [hD]; exact (((HW.out.1.set 1 (.int .i64 v1)).set 3 (.int .i64 v2)).set 4 (.int .i64 v3))
        have hrw : (((wr.setCell ⟨w.heap.size + 1, 1, none⟩ (.int .i64 v1)).setCell ⟨w.heap.size + 1, 3, none⟩ (.int .i64 v2)).setCell ⟨w.heap.size + 1, 4, none⟩ (.int .i64 v3)).heap[w.heap.size]? = some (.cells #[.int .i64 0, .int .i64 0, .int .i64 0, .int .i64 0, .int .i64 0, .int .i64 0, .slice none 0 0, .slice none 0 0] 33 (0, 0)) := (((HW.out.2.1.other (g := w.heap.size + 1) (by omega) 1 (.int .i64 v1)).other (g := w.heap.size + 1) (by omega) 3 (.int .i64 v2)).other (g := w.heap.size + 1) (by omega) 4 (.int .i64 v3))
        have hsz : (Tryz.prog.info? 33).map (·.size) = some D.size := by rw [hD]; exact act_size
        have hold : (#[.int .i64 0, .int .i64 0, .int .i64 0, .int .i64 0, .int .i64 0, .int .i64 0, .slice none 0 0, .slice none 0 0] : Array Value).size = D.size := by rw [hD]; rfl
        have hone : D.all (·.oneCell') = true := by rw [hD]; exact actCs_one _
        have HDV := Lib.hid (show actV ({ kindM 15 with who := v1, call := v2, other := v3 } : ActM) = .agg D by rw [hD]; rfl)
        clear hD
        go_wp2_with (first | ((with_reducible refine gAt 142 rfl ?_); refine wpList_load_row_g (by rfl) 33 (.tmp 3) rfl (w.heap.size + 1) rfl 33 D (0, 0) _ hrow Tryz.underlying33 rfl hsz ?_) | ((with_reducible refine gOp (.store 33 (.tmp 2) (.tmp 142)) rfl ?_); refine wpList_store_row rfl 33 (.tmp 2) (.tmp 142) rfl w.heap.size D rfl rfl 33 _ hrw hsz hold hone ?_))
        refine HA2.out.mono ?_
        rintro e Y ⟨rfl, hY⟩
        rw [hY]
        clear hY Y
        go_wp2_with (first | ((with_reducible refine gAt 142 rfl ?_); refine wpList_load_row_g (by rfl) 33 (.tmp 3) rfl (w.heap.size + 1) rfl 33 D (0, 0) _ hrow Tryz.underlying33 rfl hsz ?_) | ((with_reducible refine gOp (.store 33 (.tmp 2) (.tmp 142)) rfl ?_); refine wpList_store_row rfl 33 (.tmp 2) (.tmp 142) rfl w.heap.size D rfl rfl 33 _ hrw hsz hold hone ?_))
        refine HA3.out.mono ?_
        rintro e Y ⟨rfl, hY⟩
        rw [hY]
        clear hY Y
        go_wp2_with (first | ((with_reducible refine gAt 142 rfl ?_); refine wpList_load_row_g (by rfl) 33 (.tmp 3) rfl (w.heap.size + 1) rfl 33 D (0, 0) _ hrow Tryz.underlying33 rfl hsz ?_) | ((with_reducible refine gOp (.store 33 (.tmp 2) (.tmp 142)) rfl ?_); refine wpList_store_row rfl 33 (.tmp 2) (.tmp 142) rfl w.heap.size D rfl rfl 33 _ hrw hsz hold hone ?_))
        refine bodyPost_ret (results_cell1 Tryz.results34 _ _ w.heap.size 33 D (0, 0) _ (by rfl) (setRow_heap _ _ _ _ _ _ hrw) Tryz.underlying33 rfl hsz) rfl ?_
        refine ⟨({ kindM 15 with who := v1, call := v2, other := v3 } : ActM), by rw [HDV.out], ?_, ⟨SrcO.nil _ _, nil_own _ _⟩, below_setR ((((HW.out.2.2.setCell (p := ⟨w.heap.size + 1, 1, none⟩) (by show w.heap.size ≤ w.heap.size + 1; omega) (.int .i64 v1)).setCell (p := ⟨w.heap.size + 1, 3, none⟩) (by show w.heap.size ≤ w.heap.size + 1; omega) (.int .i64 v2)).setCell (p := ⟨w.heap.size + 1, 4, none⟩) (by show w.heap.size ≤ w.heap.size + 1; omega) (.int .i64 v3))) (Nat.le_refl _) _⟩
        rw [HKD.out.2.1]
        rw [HV1.out, HV2.out, HV3.out]
        rfl
      · have _k0 := True.intro
        have HA2 := Lib.hid (HAT.out 2 wr HW.out.2.2)
        obtain ⟨v2, hv2⟩ : ∃ v, v = atR ws 2 := ⟨_, rfl⟩
        have HV2 := Lib.hid hv2
        rw [← hv2] at HA2
        clear hv2
        have HA3 := Lib.hid (HAT.out 3 wr HW.out.2.2)
        obtain ⟨v3, hv3⟩ : ∃ v, v = atR ws 3 := ⟨_, rfl⟩
        have HV3 := Lib.hid hv3
        rw [← hv3] at HA3
        clear hv3
        have hy1 := HW.out.1.cell (j := 1) rfl
        have hf1 := HW.out.1.free 1
        have hy3 := HW.out.1.cell (j := 3) rfl
        have hf3 := HW.out.1.free 3
        have hy4 := HW.out.1.cell (j := 4) rfl
        have hf4 := HW.out.1.free 4
        have hl3 := HW.out.1.lt
        obtain ⟨D, hD⟩ : ∃ D, D = (actCs ({ kindM 16 with who := v1, call := v2, other := v3 } : ActM)).toArray := ⟨_, rfl⟩
        have hrow : (((wr.setCell ⟨w.heap.size + 1, 1, none⟩ (.int .i64 v1)).setCell ⟨w.heap.size + 1, 3, none⟩ (.int .i64 v2)).setCell ⟨w.heap.size + 1, 4, none⟩ (.int .i64 v3)).heap[w.heap.size + 1]? = some (.cells D 33 (0, 0)) := by rw [hD]; exact (((HW.out.1.set 1 (.int .i64 v1)).set 3 (.int .i64 v2)).set 4 (.int .i64 v3))
        have hrw : (((wr.setCell ⟨w.heap.size + 1, 1, none⟩ (.int .i64 v1)).setCell ⟨w.heap.size + 1, 3, none⟩ (.int .i64 v2)).setCell ⟨w.heap.size + 1, 4, none⟩ (.int .i64 v3)).heap[w.heap.size]? = some (.cells #[.int .i64 0, .int .i64 0, .int .i64 0, .int .i64 0, .int .i64 0, .int .i64 0, .slice none 0 0, .slice none 0 0] 33 (0, 0)) := (((HW.out.2.1.other (g := w.heap.size + 1) (by omega) 1 (.int .i64 v1)).other (g := w.heap.size + 1) (by omega) 3 (.int .i64 v2)).other (g := w.heap.size + 1) (by omega) 4 (.int .i64 v3))
        have hsz : (Tryz.prog.info? 33).map (·.size) = some D.size := by rw [hD]; exact act_size
        have hold : (#[.int .i64 0, .int .i64 0, .int .i64 0, .int .i64 0, .int .i64 0, .int .i64 0, .slice none 0 0, .slice none 0 0] : Array Value).size = D.size := by rw [hD]; rfl
        have hone : D.all (·.oneCell') = true := by rw [hD]; exact actCs_one _
        have HDV := Lib.hid (show actV ({ kindM 16 with who := v1, call := v2, other := v3 } : ActM) = .agg D by rw [hD]; rfl)
        clear hD
        go_wp2_with (first | ((with_reducible refine gAt 142 rfl ?_); refine wpList_load_row_g (by rfl) 33 (.tmp 3) rfl (w.heap.size + 1) rfl 33 D (0, 0) _ hrow Tryz.underlying33 rfl hsz ?_) | ((with_reducible refine gOp (.store 33 (.tmp 2) (.tmp 142)) rfl ?_); refine wpList_store_row rfl 33 (.tmp 2) (.tmp 142) rfl w.heap.size D rfl rfl 33 _ hrw hsz hold hone ?_))
        refine HA2.out.mono ?_
        rintro e Y ⟨rfl, hY⟩
        rw [hY]
        clear hY Y
        go_wp2_with (first | ((with_reducible refine gAt 142 rfl ?_); refine wpList_load_row_g (by rfl) 33 (.tmp 3) rfl (w.heap.size + 1) rfl 33 D (0, 0) _ hrow Tryz.underlying33 rfl hsz ?_) | ((with_reducible refine gOp (.store 33 (.tmp 2) (.tmp 142)) rfl ?_); refine wpList_store_row rfl 33 (.tmp 2) (.tmp 142) rfl w.heap.size D rfl rfl 33 _ hrw hsz hold hone ?_))
        refine HA3.out.mono ?_
        rintro e Y ⟨rfl, hY⟩
        rw [hY]
        clear hY Y
        go_wp2_with (first | ((with_reducible refine gAt 142 rfl ?_); refine wpList_load_row_g (by rfl) 33 (.tmp 3) rfl (w.heap.size + 1) rfl 33 D (0, 0) _ hrow Tryz.underlying33 rfl hsz ?_) | ((with_reducible refine gOp (.store 33 (.tmp 2) (.tmp 142)) rfl ?_); refine wpList_store_row rfl 33 (.tmp 2) (.tmp 142) rfl w.heap.size D rfl rfl 33 _ hrw hsz hold hone ?_))
        refine bodyPost_ret (results_cell1 Tryz.results34 _ _ w.heap.size 33 D (0, 0) _ (by rfl) (setRow_heap _ _ _ _ _ _ hrw) Tryz.underlying33 rfl hsz) rfl ?_
        refine ⟨({ kindM 16 with who := v1, call := v2, other := v3 } : ActM), by rw [HDV.out], ?_, ⟨SrcO.nil _ _, nil_own _ _⟩, below_setR ((((HW.out.2.2.setCell (p := ⟨w.heap.size + 1, 1, none⟩) (by show w.heap.size ≤ w.heap.size + 1; omega) (.int .i64 v1)).setCell (p := ⟨w.heap.size + 1, 3, none⟩) (by show w.heap.size ≤ w.heap.size + 1; omega) (.int .i64 v2)).setCell (p := ⟨w.heap.size + 1, 4, none⟩) (by show w.heap.size ≤ w.heap.size + 1; omega) (.int .i64 v3))) (Nat.le_refl _) _⟩
        rw [HKD.out.2.1]
        rw [HV1.out, HV2.out, HV3.out]
        rfl
      · have _k0 := True.intro
        have HA2 := Lib.hid (HAT.out 2 wr HW.out.2.2)
        obtain ⟨v2, hv2⟩ : ∃ v, v = atR ws 2 := ⟨_, rfl⟩
        have HV2 := Lib.hid hv2
        rw [← hv2] at HA2
        clear hv2
        have hy1 := HW.out.1.cell (j := 1) rfl
        have hf1 := HW.out.1.free 1
        have hy3 := HW.out.1.cell (j := 3) rfl
        have hf3 := HW.out.1.free 3
        have hl3 := HW.out.1.lt
        obtain ⟨D, hD⟩ : ∃ D, D = (actCs ({ kindM 17 with who := v1, call := v2 } : ActM)).toArray := ⟨_, rfl⟩
        have hrow : ((wr.setCell ⟨w.heap.size + 1, 1, none⟩ (.int .i64 v1)).setCell ⟨w.heap.size + 1, 3, none⟩ (.int .i64 v2)).heap[w.heap.size + 1]? = some (.cells D 33 (0, 0)) := by rw [hD]; exact ((HW.out.1.set 1 (.int .i64 v1)).set 3 (.int .i64 v2))
        have hrw : ((wr.setCell ⟨w.heap.size + 1, 1, none⟩ (.int .i64 v1)).setCell ⟨w.heap.size + 1, 3, none⟩ (.int .i64 v2)).heap[w.heap.size]? = some (.cells #[.int .i64 0, .int .i64 0, .int .i64 0, .int .i64 0, .int .i64 0, .int .i64 0, .slice none 0 0, .slice none 0 0] 33 (0, 0)) := ((HW.out.2.1.other (g := w.heap.size + 1) (by omega) 1 (.int .i64 v1)).other (g := w.heap.size + 1) (by omega) 3 (.int .i64 v2))
        have hsz : (Tryz.prog.info? 33).map (·.size) = some D.size := by rw [hD]; exact act_size
        have hold : (#[.int .i64 0, .int .i64 0, .int .i64 0, .int .i64 0, .int .i64 0, .int .i64 0, .slice none 0 0, .slice none 0 0] : Array Value).size = D.size := by rw [hD]; rfl
        have hone : D.all (·.oneCell') = true := by rw [hD]; exact actCs_one _
        have HDV := Lib.hid (show actV ({ kindM 17 with who := v1, call := v2 } : ActM) = .agg D by rw [hD]; rfl)
        clear hD
        go_wp2_with (first | ((with_reducible refine gAt 142 rfl ?_); refine wpList_load_row_g (by rfl) 33 (.tmp 3) rfl (w.heap.size + 1) rfl 33 D (0, 0) _ hrow Tryz.underlying33 rfl hsz ?_) | ((with_reducible refine gOp (.store 33 (.tmp 2) (.tmp 142)) rfl ?_); refine wpList_store_row rfl 33 (.tmp 2) (.tmp 142) rfl w.heap.size D rfl rfl 33 _ hrw hsz hold hone ?_))
        refine HA2.out.mono ?_
        rintro e Y ⟨rfl, hY⟩
        rw [hY]
        clear hY Y
        go_wp2_with (first | ((with_reducible refine gAt 142 rfl ?_); refine wpList_load_row_g (by rfl) 33 (.tmp 3) rfl (w.heap.size + 1) rfl 33 D (0, 0) _ hrow Tryz.underlying33 rfl hsz ?_) | ((with_reducible refine gOp (.store 33 (.tmp 2) (.tmp 142)) rfl ?_); refine wpList_store_row rfl 33 (.tmp 2) (.tmp 142) rfl w.heap.size D rfl rfl 33 _ hrw hsz hold hone ?_))
        refine bodyPost_ret (results_cell1 Tryz.results34 _ _ w.heap.size 33 D (0, 0) _ (by rfl) (setRow_heap _ _ _ _ _ _ hrw) Tryz.underlying33 rfl hsz) rfl ?_
        refine ⟨({ kindM 17 with who := v1, call := v2 } : ActM), by rw [HDV.out], ?_, ⟨SrcO.nil _ _, nil_own _ _⟩, below_setR (((HW.out.2.2.setCell (p := ⟨w.heap.size + 1, 1, none⟩) (by show w.heap.size ≤ w.heap.size + 1; omega) (.int .i64 v1)).setCell (p := ⟨w.heap.size + 1, 3, none⟩) (by show w.heap.size ≤ w.heap.size + 1; omega) (.int .i64 v2))) (Nat.le_refl _) _⟩
        rw [HKD.out.2.1]
        rw [HV1.out, HV2.out]
        rfl
      · have _k0 := True.intro
        have HA2 := Lib.hid (HAT.out 2 wr HW.out.2.2)
        obtain ⟨v2, hv2⟩ : ∃ v, v = atR ws 2 := ⟨_, rfl⟩
        have HV2 := Lib.hid hv2
        rw [← hv2] at HA2
        clear hv2
        have hy1 := HW.out.1.cell (j := 1) rfl
        have hf1 := HW.out.1.free 1
        have hy2 := HW.out.1.cell (j := 2) rfl
        have hf2 := HW.out.1.free 2
        have hl3 := HW.out.1.lt
        obtain ⟨D, hD⟩ : ∃ D, D = (actCs ({ kindM 18 with who := v1, n := v2 } : ActM)).toArray := ⟨_, rfl⟩
        have hrow : ((wr.setCell ⟨w.heap.size + 1, 1, none⟩ (.int .i64 v1)).setCell ⟨w.heap.size + 1, 2, none⟩ (.int .i64 v2)).heap[w.heap.size + 1]? = some (.cells D 33 (0, 0)) := by rw [hD]; exact ((HW.out.1.set 1 (.int .i64 v1)).set 2 (.int .i64 v2))
        have hrw : ((wr.setCell ⟨w.heap.size + 1, 1, none⟩ (.int .i64 v1)).setCell ⟨w.heap.size + 1, 2, none⟩ (.int .i64 v2)).heap[w.heap.size]? = some (.cells #[.int .i64 0, .int .i64 0, .int .i64 0, .int .i64 0, .int .i64 0, .int .i64 0, .slice none 0 0, .slice none 0 0] 33 (0, 0)) := ((HW.out.2.1.other (g := w.heap.size + 1) (by omega) 1 (.int .i64 v1)).other (g := w.heap.size + 1) (by omega) 2 (.int .i64 v2))
        have hsz : (Tryz.prog.info? 33).map (·.size) = some D.size := by rw [hD]; exact act_size
        have hold : (#[.int .i64 0, .int .i64 0, .int .i64 0, .int .i64 0, .int .i64 0, .int .i64 0, .slice none 0 0, .slice none 0 0] : Array Value).size = D.size := by rw [hD]; rfl
        have hone : D.all (·.oneCell') = true := by rw [hD]; exact actCs_one _
        have HDV := Lib.hid (show actV ({ kindM 18 with who := v1, n := v2 } : ActM) = .agg D by rw [hD]; rfl)
        clear hD
        go_wp2_with (first | ((with_reducible refine gAt 142 rfl ?_); refine wpList_load_row_g (by rfl) 33 (.tmp 3) rfl (w.heap.size + 1) rfl 33 D (0, 0) _ hrow Tryz.underlying33 rfl hsz ?_) | ((with_reducible refine gOp (.store 33 (.tmp 2) (.tmp 142)) rfl ?_); refine wpList_store_row rfl 33 (.tmp 2) (.tmp 142) rfl w.heap.size D rfl rfl 33 _ hrw hsz hold hone ?_))
        refine HA2.out.mono ?_
        rintro e Y ⟨rfl, hY⟩
        rw [hY]
        clear hY Y
        go_wp2_with (first | ((with_reducible refine gAt 142 rfl ?_); refine wpList_load_row_g (by rfl) 33 (.tmp 3) rfl (w.heap.size + 1) rfl 33 D (0, 0) _ hrow Tryz.underlying33 rfl hsz ?_) | ((with_reducible refine gOp (.store 33 (.tmp 2) (.tmp 142)) rfl ?_); refine wpList_store_row rfl 33 (.tmp 2) (.tmp 142) rfl w.heap.size D rfl rfl 33 _ hrw hsz hold hone ?_))
        refine bodyPost_ret (results_cell1 Tryz.results34 _ _ w.heap.size 33 D (0, 0) _ (by rfl) (setRow_heap _ _ _ _ _ _ hrw) Tryz.underlying33 rfl hsz) rfl ?_
        refine ⟨({ kindM 18 with who := v1, n := v2 } : ActM), by rw [HDV.out], ?_, ⟨SrcO.nil _ _, nil_own _ _⟩, below_setR (((HW.out.2.2.setCell (p := ⟨w.heap.size + 1, 1, none⟩) (by show w.heap.size ≤ w.heap.size + 1; omega) (.int .i64 v1)).setCell (p := ⟨w.heap.size + 1, 2, none⟩) (by show w.heap.size ≤ w.heap.size + 1; omega) (.int .i64 v2))) (Nat.le_refl _) _⟩
        rw [HKD.out.2.1]
        rw [HV1.out, HV2.out]
        rfl
      · have _k0 := True.intro
        have HA2 := Lib.hid (HAT.out 2 wr HW.out.2.2)
        obtain ⟨v2, hv2⟩ : ∃ v, v = atR ws 2 := ⟨_, rfl⟩
        have HV2 := Lib.hid hv2
        rw [← hv2] at HA2
        clear hv2
        have HA3 := Lib.hid (HAT.out 3 wr HW.out.2.2)
        obtain ⟨v3, hv3⟩ : ∃ v, v = atR ws 3 := ⟨_, rfl⟩
        have HV3 := Lib.hid hv3
        rw [← hv3] at HA3
        clear hv3
        have hy1 := HW.out.1.cell (j := 1) rfl
        have hf1 := HW.out.1.free 1
        have hy2 := HW.out.1.cell (j := 2) rfl
        have hf2 := HW.out.1.free 2
        have hy5 := HW.out.1.cell (j := 5) rfl
        have hf5 := HW.out.1.free 5
        have hl3 := HW.out.1.lt
        obtain ⟨D, hD⟩ : ∃ D, D = (actCs ({ kindM 19 with who := v1, n := v2, node := v3 } : ActM)).toArray := ⟨_, rfl⟩
        have hrow : (((wr.setCell ⟨w.heap.size + 1, 1, none⟩ (.int .i64 v1)).setCell ⟨w.heap.size + 1, 2, none⟩ (.int .i64 v2)).setCell ⟨w.heap.size + 1, 5, none⟩ (.int .i64 v3)).heap[w.heap.size + 1]? = some (.cells D 33 (0, 0)) := by rw [hD]; exact (((HW.out.1.set 1 (.int .i64 v1)).set 2 (.int .i64 v2)).set 5 (.int .i64 v3))
        have hrw : (((wr.setCell ⟨w.heap.size + 1, 1, none⟩ (.int .i64 v1)).setCell ⟨w.heap.size + 1, 2, none⟩ (.int .i64 v2)).setCell ⟨w.heap.size + 1, 5, none⟩ (.int .i64 v3)).heap[w.heap.size]? = some (.cells #[.int .i64 0, .int .i64 0, .int .i64 0, .int .i64 0, .int .i64 0, .int .i64 0, .slice none 0 0, .slice none 0 0] 33 (0, 0)) := (((HW.out.2.1.other (g := w.heap.size + 1) (by omega) 1 (.int .i64 v1)).other (g := w.heap.size + 1) (by omega) 2 (.int .i64 v2)).other (g := w.heap.size + 1) (by omega) 5 (.int .i64 v3))
        have hsz : (Tryz.prog.info? 33).map (·.size) = some D.size := by rw [hD]; exact act_size
        have hold : (#[.int .i64 0, .int .i64 0, .int .i64 0, .int .i64 0, .int .i64 0, .int .i64 0, .slice none 0 0, .slice none 0 0] : Array Value).size = D.size := by rw [hD]; rfl
        have hone : D.all (·.oneCell') = true := by rw [hD]; exact actCs_one _
        have HDV := Lib.hid (show actV ({ kindM 19 with who := v1, n := v2, node := v3 } : ActM) = .agg D by rw [hD]; rfl)
        clear hD
        go_wp2_with (first | ((with_reducible refine gAt 142 rfl ?_); refine wpList_load_row_g (by rfl) 33 (.tmp 3) rfl (w.heap.size + 1) rfl 33 D (0, 0) _ hrow Tryz.underlying33 rfl hsz ?_) | ((with_reducible refine gOp (.store 33 (.tmp 2) (.tmp 142)) rfl ?_); refine wpList_store_row rfl 33 (.tmp 2) (.tmp 142) rfl w.heap.size D rfl rfl 33 _ hrw hsz hold hone ?_))
        refine HA2.out.mono ?_
        rintro e Y ⟨rfl, hY⟩
        rw [hY]
        clear hY Y
        go_wp2_with (first | ((with_reducible refine gAt 142 rfl ?_); refine wpList_load_row_g (by rfl) 33 (.tmp 3) rfl (w.heap.size + 1) rfl 33 D (0, 0) _ hrow Tryz.underlying33 rfl hsz ?_) | ((with_reducible refine gOp (.store 33 (.tmp 2) (.tmp 142)) rfl ?_); refine wpList_store_row rfl 33 (.tmp 2) (.tmp 142) rfl w.heap.size D rfl rfl 33 _ hrw hsz hold hone ?_))
        refine HA3.out.mono ?_
        rintro e Y ⟨rfl, hY⟩
        rw [hY]
        clear hY Y
        go_wp2_with (first | ((with_reducible refine gAt 142 rfl ?_); refine wpList_load_row_g (by rfl) 33 (.tmp 3) rfl (w.heap.size + 1) rfl 33 D (0, 0) _ hrow Tryz.underlying33 rfl hsz ?_) | ((with_reducible refine gOp (.store 33 (.tmp 2) (.tmp 142)) rfl ?_); refine wpList_store_row rfl 33 (.tmp 2) (.tmp 142) rfl w.heap.size D rfl rfl 33 _ hrw hsz hold hone ?_))
        refine bodyPost_ret (results_cell1 Tryz.results34 _ _ w.heap.size 33 D (0, 0) _ (by rfl) (setRow_heap _ _ _ _ _ _ hrw) Tryz.underlying33 rfl hsz) rfl ?_
        refine ⟨({ kindM 19 with who := v1, n := v2, node := v3 } : ActM), by rw [HDV.out], ?_, ⟨SrcO.nil _ _, nil_own _ _⟩, below_setR ((((HW.out.2.2.setCell (p := ⟨w.heap.size + 1, 1, none⟩) (by show w.heap.size ≤ w.heap.size + 1; omega) (.int .i64 v1)).setCell (p := ⟨w.heap.size + 1, 2, none⟩) (by show w.heap.size ≤ w.heap.size + 1; omega) (.int .i64 v2)).setCell (p := ⟨w.heap.size + 1, 5, none⟩) (by show w.heap.size ≤ w.heap.size + 1; omega) (.int .i64 v3))) (Nat.le_refl _) _⟩
        rw [HKD.out.2.1]
        rw [HV1.out, HV2.out, HV3.out]
        rfl
end
section
open Go.RowKit Go.Maps

section
variable {α : Type} {cs : α → List Value} {s : Nat}
/-- 'append(v, x)', x a struct, within a region that draws its order. -/
theorem step_append_rec {P : Program} {ops : Array Oper} {o : Oper} {a : Act} {K : Act → World → Prop} {Q : Exit → Act → World → Prop} {X : Prop} (w : World) (hgd : o.guard = none) (sl x : Operand) (t : TypeId)
    (ho : o.op = .call { callee := .builtin .append, args := #[sl, x], argTypes := #[t, t] })
    (base : Nat) (e : TypeId) (ht : P.underlying t = some (.slice e)) {z0 : Value} {by0 : Nat} (hinfo : (P.info? e).map (fun i => (i.zero, i.size, i.bytes)) = some (some z0, s, by0)) (hz0 : z0.cells.size = s) (h0 : 0 < s) (hby : by0 ≤ 256)
    (hs : ∀ a, (cs a).length = s) (v : Value) (xs : List α) (w0 : World) (z : α) (hone : ∀ u ∈ cs z, u.oneCell' = true) (vs : Array Value) (hvs : vs = (cs z).toArray) (hw : w = w0.alloc (.cells vs e)) (hv : a.eval sl = v) (hown : OwnR cs s w0 base e v xs)
    (nb : Nat) (hx : a.eval x = .slice (some ⟨nb, 0, none⟩) 1 1) (hnb : nb = w0.heap.size) (hlen : xs.length + 1 ≤ 549755813888) (hbase : base ≤ w0.heap.size)
    (h : ∀ g cap w', OwnR cs s w' base e (.slice (some ⟨g, 0, none⟩) (xs.length + 1) cap) (xs ++ [z]) → w0.grownBy w' v.ownBlock → (v.ownBlock = some g ∨ w0.heap.size ≤ g) → K (a.put o.dst (.slice (some ⟨g, 0, none⟩) (xs.length + 1) cap)) w') :
    if Region.wanted o (yielded ops a.tmps) = true then Oper.wp P o a w K Q else X := by
  obtain ⟨i0, hi, hz1, hz2, hz3⟩ := info_parts hinfo
  subst hw hvs hnb
  have hcell : ∀ j u, (cs z)[j]? = some u → (w0.alloc (.cells (cs z).toArray e)).cell? ((⟨w0.heap.size, 0, none⟩ : Addr).add j) = some u := by
    intro j u hj
    rw [add_none, Nat.zero_add, World.cell?_alloc_at (hn := rfl)]
    simpa using hj
  refine step_append_lies _ hgd sl x t ho base e i0 z0 s by0 ht hi hz1 hz2 hz3 hz0 h0 v xs.length _ hv (World.ownsRow.alloc hown _) ⟨w0.heap.size, 0, none⟩ 1 1 (cs z) hx (by rw [hs, Nat.one_mul]) hcell hone (by decide) (by unfold maxLen; omega) ?_ (by simp; omega) _ rfl ?_
  · have := Nat.mul_le_mul hlen hby
    omega
  intro g cap w' h1 h2 h3 _
  refine h g cap w' ?_ ((World.grownBy_alloc w0 _ _).trans h2) ?_
  · unfold OwnR
    rw [List.length_append, List.length_singleton, List.flatMap_append]
    simpa using h1
  · rcases h3 with h3 | h3
    · exact .inl h3
    · right
      rw [h3]
      simp
end

theorem Blk.grown {Y Z : World} {b : Nat} {T : TypeId} {cs : List Value} (h : Blk Y b T cs) {base : Nat} {e : TypeId} {s n : Nat} {v : Value} {xs : List Value} (hr : Y.ownsRow base e s v n xs) (hT : T ≠ e) (hg : Y.grownBy Z v.ownBlock) : Blk Z b T cs := by
  refine (hg.block b h.lt (fun q => ?_)).trans h
  rcases hr.2 with ⟨e1, _⟩ | ⟨k, cap, cur, e1, _, hh, _⟩
  · rw [e1] at q
    cases q
  · rw [e1] at q
    have q1 : b = k := by simpa [Value.ownBlock] using q
    have h2 : Y.heap[b]? = _ := h
    rw [q1, hh] at h2
    injection h2 with h2
    injection h2 with _ h2 _
    exact hT h2.symm
theorem SrcO.next {Y Z : World} {base : Nat} {v : Value} {l : List SrcM} (h : SrcO Y base v l) (hb : Below Y.heap.size Y Z) : SrcO Z base v l := ⟨own_next h.row hb, fun s hs => own_next (h.nodes s hs) hb⟩
theorem srcsR_step {ws : List Wd} {N q i : Nat} (hq : q < N) (hi : i < ws.length) : srcsR ws (N - q) i = ⟨atR ws i, spanR ws (i + 1)⟩ :: srcsR ws (N - (q + 1)) (i + 2 + (spanR ws (i + 1)).length) := by
  have e : N - q = (N - (q + 1)) + 1 := by omega
  rw [e, srcsR, if_pos hi]
theorem srcsR_stop {ws : List Wd} {N q i : Nat} (h : N ≤ q ∨ ws.length ≤ i) : srcsR ws (N - q) i = [] := by
  rcases h with h | h
  · rw [show N - q = 0 by omega]
    rfl
  · cases hN : N - q with
    | zero => rfl
    | succ k =>
      rw [srcsR, if_neg (by omega)]
/-- where the loop over the sources stands. -/
structure GSt (ws : List Wd) (w : World) (v1 : Int) (N q i : Nat) (us : List SrcM) (sA : Option Addr) (sc : Nat) (X : World) : Prop where
  ab : Blk X (w.heap.size + 1) 33 [.int .i64 1, .int .i64 0, .int .i64 0, .int .i64 0, .int .i64 0, .int .i64 v1, .slice sA us.length sc, .slice none 0 0]
  rb : Blk X w.heap.size 33 [.int .i64 0, .int .i64 0, .int .i64 0, .int .i64 0, .int .i64 0, .int .i64 0, .slice none 0 0, .slice none 0 0]
  own : SrcO X w.heap.size (.slice sA us.length sc) us
  con : us.map SrcM.con ++ srcsR ws (N - q) i = srcsR ws N 3
  len : us.length ≤ i
  below : Below w.heap.size w X
set_option maxRecDepth 100000 in
set_option maxHeartbeats 8000000 in
theorem guess51_1 (ws : List Wd) (A : Option Addr) (c : Nat) (w : World) (hat : WdsAt w w.heap.size A ws) (hl : ∀ x ∈ ws, x.length ≤ 1000000000) (hn : ws.length ≤ 1000000) (x : Wd) (r : List Wd) (hws : ws = x :: r) (hk : kindR actN x 19 = 1) : Calls Tryz.prog 34 #[.slice A ws.length c] w (RetG ws w) := by
  obtain ⟨b, o, rfl, hb, hc⟩ := hat.at (i := 0) (x := x) (by rw [hws]; rfl)
  have hc : w.cell? ⟨b, o, none⟩ = some (.string (bs x)) := hc
  have HAT := Lib.hid (fun (j : Nat) (X : World) (hb : Below w.heap.size w X) => at51_any ws (some ⟨b, o, none⟩) c j X w.heap.size (Sl.below hat hb) hl (by omega))
  have HSP := Lib.hid (fun (j : Nat) (X : World) (hb : Below w.heap.size w X) (hj : j ≤ 1000000000) => span51_any ws (some ⟨b, o, none⟩) c j X (Sl.more (Sl.below hat hb) hb.size) hl hn hj)
  have HAW := Lib.hid (fun (k : Int) (X : World) => actWord_any k X)
  have HKD := Lib.hid (And.intro hk (And.intro (guess_kind hws hk) hn))
  have HCW := Lib.hid (show ∀ X : World, Below w.heap.size w X → X.cell? ⟨b, o, none⟩ = some (.string (bs x)) from fun X hX => (hX.cell (p := ⟨b, o, none⟩) hb).trans hc)
  obtain ⟨n, hnn⟩ : ∃ n, n = ws.length := ⟨_, rfl⟩
  have hn1 : n ≤ 1000000 := by omega
  have hn0 : 0 < n := by rw [hnn, hws]; simp
  have hn0' : (0 : Int) < (n : Int) := by omega
  have HNN := Lib.hid hnn
  rw [← hnn] at HAT HSP ⊢
  obtain ⟨X0, hX0⟩ : ∃ X0, X0 = ((w.alloc (.cells #[.int .i64 0, .int .i64 0, .int .i64 0, .int .i64 0, .int .i64 0, .int .i64 0, .slice none 0 0, .slice none 0 0] 33)).alloc (.cells #[.int .i64 0, .int .i64 0, .int .i64 0, .int .i64 0, .int .i64 0, .int .i64 0, .slice none 0 0, .slice none 0 0] 33)) := ⟨_, rfl⟩
  have HX0 : Hid (Blk X0 w.heap.size 33 [.int .i64 0, .int .i64 0, .int .i64 0, .int .i64 0, .int .i64 0, .int .i64 0, .slice none 0 0, .slice none 0 0] ∧ Blk X0 (w.heap.size + 1) 33 [.int .i64 0, .int .i64 0, .int .i64 0, .int .i64 0, .int .i64 0, .int .i64 0, .slice none 0 0, .slice none 0 0] ∧ Below w.heap.size w X0) := Lib.hid (by
    rw [hX0]
    obtain ⟨h1, h2⟩ := two_blk w [.int .i64 0, .int .i64 0, .int .i64 0, .int .i64 0, .int .i64 0, .int .i64 0, .slice none 0 0, .slice none 0 0] [.int .i64 0, .int .i64 0, .int .i64 0, .int .i64 0, .int .i64 0, .int .i64 0, .slice none 0 0, .slice none 0 0] 33 33
    exact ⟨h1, h2, ((Below.refl _ _).alloc (Nat.le_refl _) _).alloc (by simp) _⟩)
  clear hat hl hn hws hk hb hc hnn
  go_enter Tryz.func34, Tryz.ntmps34
  go_wp2_with fail
  rw [← hX0]
  clear hX0
  go_loopw [4] (fun jv X => ∃ m : Nat, m ≤ 19 ∧ jv = .int .i64 ((m : Int) + 1) ∧ Blk X (w.heap.size + 1) 33 (.int .i64 (kindR actN x m) :: [.int .i64 0, .int .i64 0, .int .i64 0, .int .i64 0, .int .i64 0, .slice none 0 0, .slice none 0 0]) ∧ Blk X w.heap.size 33 [.int .i64 0, .int .i64 0, .int .i64 0, .int .i64 0, .int .i64 0, .int .i64 0, .slice none 0 0, .slice none 0 0] ∧ Below w.heap.size w X) (fun jv _ => 20 - (intOf jv).toNat)
  case atStart => exact ⟨0, Nat.zero_le _, rfl, HX0.out.2.1, HX0.out.1, HX0.out.2.2⟩
  case round =>
    obtain ⟨m, hm, rfl, hba, hbr, hbl⟩ := hrel
    have HW := Lib.hid (And.intro hba (And.intro hbr hbl))
    clear hba hbr hbl
    by_cases hlt : m < 19
    · have hlt' : (m : Int) + 1 ≤ 19 := by omega
      have HHD := Lib.hid (show Below wr.heap.size wr wr.drew from below_dr (Below.refl _ _) 1)
      obtain ⟨s1, hs1⟩ : ∃ s, s = bs (actN ((m : Int) + 1)) := ⟨_, rfl⟩
      obtain ⟨s2, hs2⟩ : ∃ s, s = bs x := ⟨_, rfl⟩
      have HC0 := Lib.hid (show ∀ X : World, Below wr.heap.size wr X → X.cell? ⟨b, o, none⟩ = some (.string s2) from fun X hX => by rw [hs2]; exact HCW.out X (HW.out.2.2.trans (hX.mono HW.out.2.2.size)))
      have HEQ := Lib.hid (show s1.toList = s2.toList ↔ actN ((m : Int) + 1) = x by rw [hs1, hs2]; exact bs_lists)
      have HAW1 := Lib.hid (fun X : World => HAW.out ((m : Int) + 1) X)
      rw [← hs1] at HAW1
      clear hs2 hs1
      go_wp2_with fail
      by_cases he : s1.toList = s2.toList
      · have HE := Lib.hid (HEQ.out.1 he)
        refine wp_region_held_drew (S := fun W' => Below wr.heap.size wr W') (by kernel_rfl) HHD.out (fun hHeld => ?_)
        refine wpAnyH_take (i := 0) (v := .slice (some ⟨b, o, none⟩) n c) rfl (by kernel_rfl) (by kernel_rfl) (by kernel_rfl) (fun _ _ _ h => h) (Or.inl ⟨by rfl, ?_⟩) (by assumption) ?_
        · intro w' hSw
          go_simp
        show wpAnyH _ _ _ _ _ _ _ (Act.put _ (some 13) _) _
        simp only [Act.put, List.setIfInBounds_toArray, List.set_cons_zero, List.set_cons_succ]
        refine wpAnyH_take (i := 1) (v := .int .i64 n) rfl (by kernel_rfl) (by kernel_rfl) (by kernel_rfl) (fun _ _ _ h => h) (Or.inl ⟨by rfl, ?_⟩) (by assumption) ?_
        · intro w' hSw
          go_simp
        show wpAnyH _ _ _ _ _ _ _ (Act.put _ (some 14) _) _
        simp only [Act.put, List.setIfInBounds_toArray, List.set_cons_zero, List.set_cons_succ]
        refine wpAnyH_take (i := 2) (v := .bool true) rfl (by kernel_rfl) (by kernel_rfl) (by kernel_rfl) (fun _ _ _ h => h) (Or.inl ⟨by rfl, ?_⟩) (by assumption) ?_
        · intro w' hSw
          go_simp
        show wpAnyH _ _ _ _ _ _ _ (Act.put _ (some 15) _) _
        simp only [Act.put, List.setIfInBounds_toArray, List.set_cons_zero, List.set_cons_succ]
        refine wpAnyH_take (i := 3) (v := .bool true) rfl (by kernel_rfl) (by kernel_rfl) (by kernel_rfl) (fun _ _ _ h => h) (Or.inl ⟨by rfl, ?_⟩) (by assumption) ?_
        · intro w' hSw
          go_simp
        show wpAnyH _ _ _ _ _ _ _ (Act.put _ (some 16) _) _
        simp only [Act.put, List.setIfInBounds_toArray, List.set_cons_zero, List.set_cons_succ]
        refine wpAnyH_take (i := 4) (v := .int .i64 ((m : Int) + 1)) rfl (by kernel_rfl) (by kernel_rfl) (by kernel_rfl) (fun _ _ _ h => h) (Or.inl ⟨by rfl, ?_⟩) (by assumption) ?_
        · intro w' hSw
          go_simp
        show wpAnyH _ _ _ _ _ _ _ (Act.put _ (some 17) _) _
        simp only [Act.put, List.setIfInBounds_toArray, List.set_cons_zero, List.set_cons_succ]
        refine wpAnyH_take (i := 6) (v := .slice (some ⟨b, o, none⟩) n c) rfl (by kernel_rfl) (by kernel_rfl) (by kernel_rfl) (fun _ _ _ h => h) (Or.inl ⟨by rfl, ?_⟩) (by assumption) ?_
        · intro w' hSw
          go_simp
        show wpAnyH _ _ _ _ _ _ _ (Act.put _ (some 19) _) _
        simp only [Act.put, List.setIfInBounds_toArray, List.set_cons_zero, List.set_cons_succ]
        refine wpAnyH_take (i := 7) (v := .pointer (some ⟨b, o, none⟩)) rfl (by kernel_rfl) (by kernel_rfl) (by kernel_rfl) (fun _ _ _ h => h) (Or.inl ⟨by rfl, ?_⟩) (by assumption) ?_
        · intro w' hSw
          go_simp
        show wpAnyH _ _ _ _ _ _ _ (Act.put _ (some 20) _) _
        simp only [Act.put, List.setIfInBounds_toArray, List.set_cons_zero, List.set_cons_succ]
        refine wpAnyH_take (i := 8) (v := .string s2) rfl (by kernel_rfl) (by kernel_rfl) (by kernel_rfl) (fun _ _ _ h => h) (Or.inl ⟨by rfl, ?_⟩) (by assumption) ?_
        · intro w' hSw
          have hc := HC0.out w' hSw
          go_simp
        show wpAnyH _ _ _ _ _ _ _ (Act.put _ (some 21) _) _
        simp only [Act.put, List.setIfInBounds_toArray, List.set_cons_zero, List.set_cons_succ]
        refine wpAnyH_ready (rs := [5]) (by kernel_rfl) (by simp) ?_
        refine AllReadyH.cons rfl (fun K hK => ?_) AllReadyH.nil
        go_simp
        refine (HAW1.out _).mono ?_
        rintro e Y1 ⟨rfl, hy1⟩
        go_simp
        refine hK.out _ _ (HHD.out.trans (hy1.mono HHD.out.size)) (fun hHeld => ?_)
        clear hK K
        have HY1 := Lib.hid hHeld
        clear hy1
        refine wpAnyH_take (i := 9) (v := .bool true) rfl (by kernel_rfl) (by kernel_rfl) (by kernel_rfl) (fun _ _ _ h => h) (Or.inl ⟨by rfl, ?_⟩) (by assumption) ?_
        · intro w' hSw
          go_simp
        show wpAnyH _ _ _ _ _ _ _ (Act.put _ (some 22) _) _
        simp only [Act.put, List.setIfInBounds_toArray, List.set_cons_zero, List.set_cons_succ]
        refine wpAnyH_take (i := 10) (v := .bool true) rfl (by kernel_rfl) (by kernel_rfl) (by kernel_rfl) (fun _ _ _ h => h) (Or.inl ⟨by rfl, ?_⟩) (by assumption) ?_
        · intro w' hSw
          go_simp
        show wpAnyH _ _ _ _ _ _ _ (Act.put _ (some 23) _) _
        simp only [Act.put, List.setIfInBounds_toArray, List.set_cons_zero, List.set_cons_succ]
        refine wpAnyH_done (by kernel_rfl) ?_ _
        have HBA := Lib.hid (HW.out.1.next HY1.out)
        have HBR := Lib.hid (HW.out.2.1.next HY1.out)
        have HBL := Lib.hid (HW.out.2.2.trans (HY1.out.mono HW.out.2.2.size))
        have hz := HBA.out.free 0
        have hy := HBA.out.cell (j := 0) rfl
        have hl3 := HBA.out.lt
        have HSET := Lib.hid (And.intro (HBA.out.set 0 (.int .i64 ((m : Int) + 1))) (And.intro (HBR.out.other (g := w.heap.size + 1) (by omega) 0 (.int .i64 ((m : Int) + 1))) (HBL.out.setCell (p := ⟨w.heap.size + 1, 0, none⟩) (by show w.heap.size ≤ w.heap.size + 1; omega) (.int .i64 ((m : Int) + 1)))))
        clear he
        go_wp2_with fail
        go_roundw
        case rel => exact ⟨m + 1, by omega, by go_num, by rw [kindR_yes HE.out]; exact HSET.out.1, HSET.out.2.1, HSET.out.2.2⟩
        case measure => simp [intOf]; omega
      · have HE := Lib.hid (show ¬ actN ((m : Int) + 1) = x from fun q => he (HEQ.out.2 q))
        refine wp_region_held_drew (S := fun W' => Below wr.heap.size wr W') (by kernel_rfl) HHD.out (fun hHeld => ?_)
        refine wpAnyH_take (i := 0) (v := .slice (some ⟨b, o, none⟩) n c) rfl (by kernel_rfl) (by kernel_rfl) (by kernel_rfl) (fun _ _ _ h => h) (Or.inl ⟨by rfl, ?_⟩) (by assumption) ?_
        · intro w' hSw
          go_simp
        show wpAnyH _ _ _ _ _ _ _ (Act.put _ (some 13) _) _
        simp only [Act.put, List.setIfInBounds_toArray, List.set_cons_zero, List.set_cons_succ]
        refine wpAnyH_take (i := 1) (v := .int .i64 n) rfl (by kernel_rfl) (by kernel_rfl) (by kernel_rfl) (fun _ _ _ h => h) (Or.inl ⟨by rfl, ?_⟩) (by assumption) ?_
        · intro w' hSw
          go_simp
        show wpAnyH _ _ _ _ _ _ _ (Act.put _ (some 14) _) _
        simp only [Act.put, List.setIfInBounds_toArray, List.set_cons_zero, List.set_cons_succ]
        refine wpAnyH_take (i := 2) (v := .bool true) rfl (by kernel_rfl) (by kernel_rfl) (by kernel_rfl) (fun _ _ _ h => h) (Or.inl ⟨by rfl, ?_⟩) (by assumption) ?_
        · intro w' hSw
          go_simp
        show wpAnyH _ _ _ _ _ _ _ (Act.put _ (some 15) _) _
        simp only [Act.put, List.setIfInBounds_toArray, List.set_cons_zero, List.set_cons_succ]
        refine wpAnyH_take (i := 3) (v := .bool true) rfl (by kernel_rfl) (by kernel_rfl) (by kernel_rfl) (fun _ _ _ h => h) (Or.inl ⟨by rfl, ?_⟩) (by assumption) ?_
        · intro w' hSw
          go_simp
        show wpAnyH _ _ _ _ _ _ _ (Act.put _ (some 16) _) _
        simp only [Act.put, List.setIfInBounds_toArray, List.set_cons_zero, List.set_cons_succ]
        refine wpAnyH_take (i := 4) (v := .int .i64 ((m : Int) + 1)) rfl (by kernel_rfl) (by kernel_rfl) (by kernel_rfl) (fun _ _ _ h => h) (Or.inl ⟨by rfl, ?_⟩) (by assumption) ?_
        · intro w' hSw
          go_simp
        show wpAnyH _ _ _ _ _ _ _ (Act.put _ (some 17) _) _
        simp only [Act.put, List.setIfInBounds_toArray, List.set_cons_zero, List.set_cons_succ]
        refine wpAnyH_take (i := 6) (v := .slice (some ⟨b, o, none⟩) n c) rfl (by kernel_rfl) (by kernel_rfl) (by kernel_rfl) (fun _ _ _ h => h) (Or.inl ⟨by rfl, ?_⟩) (by assumption) ?_
        · intro w' hSw
          go_simp
        show wpAnyH _ _ _ _ _ _ _ (Act.put _ (some 19) _) _
        simp only [Act.put, List.setIfInBounds_toArray, List.set_cons_zero, List.set_cons_succ]
        refine wpAnyH_take (i := 7) (v := .pointer (some ⟨b, o, none⟩)) rfl (by kernel_rfl) (by kernel_rfl) (by kernel_rfl) (fun _ _ _ h => h) (Or.inl ⟨by rfl, ?_⟩) (by assumption) ?_
        · intro w' hSw
          go_simp
        show wpAnyH _ _ _ _ _ _ _ (Act.put _ (some 20) _) _
        simp only [Act.put, List.setIfInBounds_toArray, List.set_cons_zero, List.set_cons_succ]
        refine wpAnyH_take (i := 8) (v := .string s2) rfl (by kernel_rfl) (by kernel_rfl) (by kernel_rfl) (fun _ _ _ h => h) (Or.inl ⟨by rfl, ?_⟩) (by assumption) ?_
        · intro w' hSw
          have hc := HC0.out w' hSw
          go_simp
        show wpAnyH _ _ _ _ _ _ _ (Act.put _ (some 21) _) _
        simp only [Act.put, List.setIfInBounds_toArray, List.set_cons_zero, List.set_cons_succ]
        refine wpAnyH_ready (rs := [5]) (by kernel_rfl) (by simp) ?_
        refine AllReadyH.cons rfl (fun K hK => ?_) AllReadyH.nil
        go_simp
        refine (HAW1.out _).mono ?_
        rintro e Y1 ⟨rfl, hy1⟩
        go_simp
        refine hK.out _ _ (HHD.out.trans (hy1.mono HHD.out.size)) (fun hHeld => ?_)
        clear hK K
        have HY1 := Lib.hid hHeld
        clear hy1
        refine wpAnyH_take (i := 9) (v := .bool false) rfl (by kernel_rfl) (by kernel_rfl) (by kernel_rfl) (fun _ _ _ h => h) (Or.inl ⟨by rfl, ?_⟩) (by assumption) ?_
        · intro w' hSw
          go_simp
        show wpAnyH _ _ _ _ _ _ _ (Act.put _ (some 22) _) _
        simp only [Act.put, List.setIfInBounds_toArray, List.set_cons_zero, List.set_cons_succ]
        refine wpAnyH_take (i := 10) (v := .bool false) rfl (by kernel_rfl) (by kernel_rfl) (by kernel_rfl) (fun _ _ _ h => h) (Or.inl ⟨by rfl, ?_⟩) (by assumption) ?_
        · intro w' hSw
          go_simp
        show wpAnyH _ _ _ _ _ _ _ (Act.put _ (some 23) _) _
        simp only [Act.put, List.setIfInBounds_toArray, List.set_cons_zero, List.set_cons_succ]
        refine wpAnyH_done (by kernel_rfl) ?_ _
        have HBA := Lib.hid (HW.out.1.next HY1.out)
        have HBR := Lib.hid (HW.out.2.1.next HY1.out)
        have HBL := Lib.hid (HW.out.2.2.trans (HY1.out.mono HW.out.2.2.size))
        clear he
        go_wp2_with fail
        go_roundw
        case rel => exact ⟨m + 1, by omega, by go_num, by rw [kindR_no HE.out]; exact HBA.out, HBR.out, HBL.out⟩
        case measure => simp [intOf]; omega
    · obtain rfl : m = 19 := by omega
      rw [HKD.out.1] at HW
      have HA1 := Lib.hid (HAT.out 1 wr HW.out.2.2)
      obtain ⟨v1, hv1⟩ : ∃ v, v = atR ws 1 := ⟨_, rfl⟩
      have HV1 := Lib.hid hv1
      rw [← hv1] at HA1
      clear hv1
      go_wp2_with fail
      refine HA1.out.mono ?_
      rintro e Y ⟨rfl, hY⟩
      rw [hY]
      clear hY Y
      have hz0 := HW.out.1.cell (j := 0) rfl
      clear HA1
      have hy5 := HW.out.1.cell (j := 5) rfl
      have hf5 := HW.out.1.free 5
      have hl3 := HW.out.1.lt
      obtain ⟨U, hU⟩ : ∃ U, U = wr.setCell ⟨w.heap.size + 1, 5, none⟩ (.int .i64 v1) := ⟨_, rfl⟩
      have HU : Hid (GSt ws w v1 (atR ws 2).toNat 0 3 [] none 0 U) := Lib.hid (by
        rw [hU]
        exact ⟨HW.out.1.set 5 (.int .i64 v1), HW.out.2.1.other (g := w.heap.size + 1) (by omega) 5 (.int .i64 v1), SrcO.nil _ _, rfl, by simp, HW.out.2.2.setCell (p := ⟨w.heap.size + 1, 5, none⟩) (by show w.heap.size ≤ w.heap.size + 1; omega) (.int .i64 v1)⟩)
      obtain ⟨v2, hv2⟩ : ∃ v, v = atR ws 2 := ⟨_, rfl⟩
      have HV2 := Lib.hid hv2
      rw [← hv2] at HU
      clear hv2
      go_wp2_with fail
      rw [← hU]
      clear hU hy5 hf5 hl3 hz0
      go_loopw [6, 7, 8] (fun iv qv _ X => ∃ (q i : Nat) (us : List SrcM) (sA : Option Addr) (sc : Nat), iv = .int .i64 i ∧ qv = .int .i64 q ∧ q ≤ v2.toNat ∧ i ≤ n + 3 ∧ GSt ws w v1 v2.toNat q i us sA sc X) (fun _ qv _ _ => v2.toNat - (intOf qv).toNat)
      case atStart => exact ⟨0, 3, [], none, 0, rfl, rfl, Nat.zero_le _, by omega, HU.out⟩
      case round =>
        rename_i X _
        obtain ⟨q, i, us, sA, sc, rfl, rfl, hq, hi, hst⟩ := hrel
        have HST := Lib.hid hst
        clear hst
        have HA2 := Lib.hid (HAT.out 2 _ HST.out.below)
        rw [← HV2.out] at HA2
        have hqb : q ≤ 9223372036854775807 := by have := (atR_64 ws 2).2; rw [← HV2.out] at this; omega
        by_cases h1 : (q : Int) < v2
        · have d1 : decide ((q : Int) < v2) = true := decide_eq_true h1
          have hqn : q < v2.toNat := by omega
          by_cases h2 : i < n
          · have d2 : decide ((i : Int) < (n : Int)) = true := decide_eq_true (by omega)
            have w1 : IntKind.i64.wrap ((i : Int) + 1) = (i : Int) + 1 := IntWalk.i64_in _ (by omega)
            have HS := Lib.hid (HSP.out (i + 1) _ HST.out.below (by omega))
            have HIA := Lib.hid (fun (Y : World) (hY : Below w.heap.size w Y) => HAT.out i Y hY)
            have HSTEP := Lib.hid (srcsR_step (ws := ws) hqn (by rw [← HNN.out]; exact h2))
            obtain ⟨vi, hvi⟩ : ∃ v, v = atR ws i := ⟨_, rfl⟩
            obtain ⟨L, hL⟩ : ∃ L, L = spanR ws (i + 1) := ⟨_, rfl⟩
            have hLl : i + 2 + L.length ≤ n + 1 := by
              have := spanR_len ws (i + 1)
              rw [hL]
              have := HNN.out
              omega
            rw [← hL] at HS HSTEP
            rw [← hvi] at HIA HSTEP
            rw [show ((i + 1 : Nat) : Int) = (i : Int) + 1 by omega] at HS
            have w2 : IntKind.i64.wrap ((i : Int) + 2) = (i : Int) + 2 := IntWalk.i64_in _ (by omega)
            have w3 : IntKind.i64.wrap ((i : Int) + 2 + (L.length : Int)) = (i : Int) + 2 + (L.length : Int) := IntWalk.i64_in _ (by omega)
            have w4 : IntKind.i64.wrap ((q : Int) + 1) = (q : Int) + 1 := IntWalk.i64_in _ (by have := (atR_64 ws 2).2; rw [← HV2.out] at this; omega)
            clear hL hvi
            go_wp2_with fail
            refine HA2.out.mono ?_
            rintro e Y ⟨rfl, hY⟩
            rw [hY]
            clear hY Y HA2
            go_wp2_with fail
            refine HS.out.mono ?_
            rintro e Y ⟨B, d, rfl, hown, hby⟩
            obtain ⟨V, hV⟩ : ∃ V, V = Y.drew := ⟨_, rfl⟩
            have hbv : Below wr.heap.size wr V := by rw [hV]; exact below_dr hby 1
            have HV := Lib.hid (And.intro (HST.out.ab.next hbv) (And.intro (HST.out.rb.next hbv) (And.intro (HST.out.own.next hbv) (And.intro (HST.out.below.trans (hbv.mono HST.out.below.size)) (show OwnI V w.heap.size 3 (.slice B L.length d) L by rw [hV]; exact OwnV.base_le hown HST.out.below.size)))))
            have hc6 := HV.out.1.cell (j := 6) rfl
            have HIV := Lib.hid (HIA.out V HV.out.2.2.2.1)
            clear hown hby hbv HS HIA
            go_wp2_with fail
            refine wp_region_held_drew (S := fun _ => True) (by kernel_rfl) trivial (fun hHeld => ?_)
            rw [← hV]
            clear hV
            refine wpAnyH_take (i := 0) (v := .pointer (some ⟨w.heap.size + 1, 6, none⟩)) rfl (by kernel_rfl) (by kernel_rfl) (by kernel_rfl) (fun _ _ _ h => h) (Or.inl ⟨by rfl, ?_⟩) (by assumption) ?_
            · intro w' hSw
              go_simp
            show wpAnyH _ _ _ _ _ _ _ (Act.put _ (some 50) _) _
            simp only [Act.put, List.setIfInBounds_toArray, List.set_cons_zero, List.set_cons_succ]
            refine wpAnyH_take (i := 2) (v := .slice (some ⟨b, o, none⟩) n c) rfl (by kernel_rfl) (by kernel_rfl) (by kernel_rfl) (fun _ _ _ h => h) (Or.inl ⟨by rfl, ?_⟩) (by assumption) ?_
            · intro w' hSw
              go_simp
            show wpAnyH _ _ _ _ _ _ _ (Act.put _ (some 52) _) _
            simp only [Act.put, List.setIfInBounds_toArray, List.set_cons_zero, List.set_cons_succ]
            refine wpAnyH_take (i := 3) (v := .int .i64 i) rfl (by kernel_rfl) (by kernel_rfl) (by kernel_rfl) (fun _ _ _ h => h) (Or.inl ⟨by rfl, ?_⟩) (by assumption) ?_
            · intro w' hSw
              go_simp
            show wpAnyH _ _ _ _ _ _ _ (Act.put _ (some 53) _) _
            simp only [Act.put, List.setIfInBounds_toArray, List.set_cons_zero, List.set_cons_succ]
            refine wpAnyH_take (i := 5) (v := .slice B L.length d) rfl (by kernel_rfl) (by kernel_rfl) (by kernel_rfl) (fun _ _ _ h => h) (Or.inl ⟨by rfl, ?_⟩) (by assumption) ?_
            · intro w' hSw
              go_simp
            show wpAnyH _ _ _ _ _ _ _ (Act.put _ (some 55) _) _
            simp only [Act.put, List.setIfInBounds_toArray, List.set_cons_zero, List.set_cons_succ]
            refine wpAnyH_ready (rs := [1, 4]) (by kernel_rfl) (by simp) ?_
            refine AllReadyH.cons rfl (fun K hK => ?_) (AllReadyH.cons rfl (fun K hK => ?_) AllReadyH.nil)
            · go_simp
              refine hK.out _ _ trivial (fun hHeld => ?_)
              clear hK K
              refine wpAnyH_ready (rs := [4]) (by kernel_rfl) (by simp) ?_
              refine AllReadyH.cons rfl (fun K hK => ?_) AllReadyH.nil
              go_simp
              refine HIV.out.mono ?_
              rintro e Y1 ⟨rfl, hY1⟩
              rw [hY1]
              clear hY1 Y1
              go_simp
              refine hK.out _ _ trivial (fun hHeld => ?_)
              clear hK K
              refine wpAnyH_take (i := 6) (v := .agg #[.int .i64 vi, .slice B L.length d]) rfl (by kernel_rfl) (by kernel_rfl) (by kernel_rfl) (fun _ _ _ h => h) (Or.inl ⟨by rfl, ?_⟩) (by assumption) ?_
              · intro w' hSw
                go_simp
              show wpAnyH _ _ _ _ _ _ _ (Act.put _ (some 56) _) _
              simp only [Act.put, List.setIfInBounds_toArray, List.set_cons_zero, List.set_cons_succ]
              refine wpAnyH_ready (rs := [7]) (by kernel_rfl) (by simp) ?_
              refine AllReadyH.cons rfl (fun K hK => ?_) AllReadyH.nil
              go_simp
              refine hK.out _ _ trivial (fun hHeld => ?_)
              clear hK K
              refine wpAnyH_ready (rs := [8]) (by kernel_rfl) (by simp) ?_
              refine AllReadyH.cons rfl (fun K hK => ?_) AllReadyH.nil
              refine step_append_rec (cs := srcCs) (s := 2) _ (by rfl) (.tmp 51) (.tmp 57) 30 (by rfl) w.heap.size 80 Tryz.underlying30 src_info rfl (by decide) (by decide) srcCs_len (.slice sA us.length sc) us V (⟨vi, B, d, L⟩ : SrcM) (srcCs_one _) #[.int .i64 vi, .slice B L.length d] (by rfl) (by rfl) (by rfl) HV.out.2.2.1.row V.heap.size (by rfl) (by rfl) (by have := HST.out.len; omega) HV.out.2.2.2.1.size ?_
              intro g cap w9 ho9 hg9 _
              have HV9 := Lib.hid (And.intro (HV.out.1.grown HV.out.2.2.1.row (by decide) hg9) (And.intro (HV.out.2.1.grown HV.out.2.2.1.row (by decide) hg9) (And.intro (HV.out.2.2.1.push ho9 hg9 HV.out.2.2.2.2) (HV.out.2.2.2.1.grown hg9 HV.out.2.2.2.1.size (OwnR.ge_base HV.out.2.2.1.row)))))
              clear ho9 hg9
              refine hK.out _ _ trivial (fun hHeld => ?_)
              clear hK K
              refine wpAnyH_take (i := 9) (v := .pointer (some ⟨w.heap.size + 1, 6, none⟩)) rfl (by kernel_rfl) (by kernel_rfl) (by kernel_rfl) (fun _ _ _ h => h) (Or.inl ⟨by rfl, ?_⟩) (by assumption) ?_
              · intro w' hSw
                go_simp
              show wpAnyH _ _ _ _ _ _ _ (Act.put _ (some 59) _) _
              simp only [Act.put, List.setIfInBounds_toArray]
              have hy6 := HV9.out.1.cell (j := 6) rfl
              have hf6 := HV9.out.1.free 6
              have hl6 := HV9.out.1.lt
              refine wpAnyH_ready (rs := [10]) (by kernel_rfl) (by simp) ?_
              refine AllReadyH.cons rfl (fun K hK => ?_) AllReadyH.nil
              go_simp
              refine hK.out _ _ trivial (fun hHeld => ?_)
              clear hK K
              refine wpAnyH_done (by kernel_rfl) ?_ _
              have HFIN : Hid (GSt ws w v1 v2.toNat (q + 1) (i + 2 + L.length) (us ++ [(⟨vi, B, d, L⟩ : SrcM)]) (some ⟨g, 0, none⟩) cap (w9.setCell ⟨w.heap.size + 1, 6, none⟩ (.slice (some ⟨g, 0, none⟩) (us.length + 1) cap))) := Lib.hid (by
                have e : (us ++ [(⟨vi, B, d, L⟩ : SrcM)]).length = us.length + 1 := by simp
                refine ⟨?_, HV9.out.2.1.other (g := w.heap.size + 1) (by omega) 6 _, ?_, ?_, by rw [e]; have := HST.out.len; omega, HV9.out.2.2.2.setCell (p := ⟨w.heap.size + 1, 6, none⟩) (by show w.heap.size ≤ w.heap.size + 1; omega) _⟩
                · rw [e]
                  exact HV9.out.1.set 6 _
                · rw [e]
                  exact HV9.out.2.2.1.blk HV9.out.1 ⟨by decide, by decide⟩ 6 _
                · rw [List.map_append, List.append_assoc, ← HST.out.con, HSTEP.out]
                  rfl)
              clear hy6 hf6 hl6
              go_wp2_with fail
              go_roundw
              case rel => exact ⟨q + 1, i + 2 + L.length, _, _, _, by go_num, by go_num, by omega, by omega, HFIN.out⟩
              case measure => simp [intOf]; omega
            · go_simp
              refine HIV.out.mono ?_
              rintro e Y1 ⟨rfl, hY1⟩
              rw [hY1]
              clear hY1 Y1
              go_simp
              refine hK.out _ _ trivial (fun hHeld => ?_)
              clear hK K
              refine wpAnyH_take (i := 6) (v := .agg #[.int .i64 vi, .slice B L.length d]) rfl (by kernel_rfl) (by kernel_rfl) (by kernel_rfl) (fun _ _ _ h => h) (Or.inl ⟨by rfl, ?_⟩) (by assumption) ?_
              · intro w' hSw
                go_simp
              show wpAnyH _ _ _ _ _ _ _ (Act.put _ (some 56) _) _
              simp only [Act.put, List.setIfInBounds_toArray, List.set_cons_zero, List.set_cons_succ]
              refine wpAnyH_ready (rs := [1, 7]) (by kernel_rfl) (by simp) ?_
              refine AllReadyH.cons rfl (fun K hK => ?_) (AllReadyH.cons rfl (fun K hK => ?_) AllReadyH.nil)
              · go_simp
                refine hK.out _ _ trivial (fun hHeld => ?_)
                clear hK K
                refine wpAnyH_ready (rs := [7]) (by kernel_rfl) (by simp) ?_
                refine AllReadyH.cons rfl (fun K hK => ?_) AllReadyH.nil
                go_simp
                refine hK.out _ _ trivial (fun hHeld => ?_)
                clear hK K
                refine wpAnyH_ready (rs := [8]) (by kernel_rfl) (by simp) ?_
                refine AllReadyH.cons rfl (fun K hK => ?_) AllReadyH.nil
                refine step_append_rec (cs := srcCs) (s := 2) _ (by rfl) (.tmp 51) (.tmp 57) 30 (by rfl) w.heap.size 80 Tryz.underlying30 src_info rfl (by decide) (by decide) srcCs_len (.slice sA us.length sc) us V (⟨vi, B, d, L⟩ : SrcM) (srcCs_one _) #[.int .i64 vi, .slice B L.length d] (by rfl) (by rfl) (by rfl) HV.out.2.2.1.row V.heap.size (by rfl) (by rfl) (by have := HST.out.len; omega) HV.out.2.2.2.1.size ?_
                intro g cap w9 ho9 hg9 _
                have HV9 := Lib.hid (And.intro (HV.out.1.grown HV.out.2.2.1.row (by decide) hg9) (And.intro (HV.out.2.1.grown HV.out.2.2.1.row (by decide) hg9) (And.intro (HV.out.2.2.1.push ho9 hg9 HV.out.2.2.2.2) (HV.out.2.2.2.1.grown hg9 HV.out.2.2.2.1.size (OwnR.ge_base HV.out.2.2.1.row)))))
                clear ho9 hg9
                refine hK.out _ _ trivial (fun hHeld => ?_)
                clear hK K
                refine wpAnyH_take (i := 9) (v := .pointer (some ⟨w.heap.size + 1, 6, none⟩)) rfl (by kernel_rfl) (by kernel_rfl) (by kernel_rfl) (fun _ _ _ h => h) (Or.inl ⟨by rfl, ?_⟩) (by assumption) ?_
                · intro w' hSw
                  go_simp
                show wpAnyH _ _ _ _ _ _ _ (Act.put _ (some 59) _) _
                simp only [Act.put, List.setIfInBounds_toArray]
                have hy6 := HV9.out.1.cell (j := 6) rfl
                have hf6 := HV9.out.1.free 6
                have hl6 := HV9.out.1.lt
                refine wpAnyH_ready (rs := [10]) (by kernel_rfl) (by simp) ?_
                refine AllReadyH.cons rfl (fun K hK => ?_) AllReadyH.nil
                go_simp
                refine hK.out _ _ trivial (fun hHeld => ?_)
                clear hK K
                refine wpAnyH_done (by kernel_rfl) ?_ _
                have HFIN : Hid (GSt ws w v1 v2.toNat (q + 1) (i + 2 + L.length) (us ++ [(⟨vi, B, d, L⟩ : SrcM)]) (some ⟨g, 0, none⟩) cap (w9.setCell ⟨w.heap.size + 1, 6, none⟩ (.slice (some ⟨g, 0, none⟩) (us.length + 1) cap))) := Lib.hid (by
                  have e : (us ++ [(⟨vi, B, d, L⟩ : SrcM)]).length = us.length + 1 := by simp
                  refine ⟨?_, HV9.out.2.1.other (g := w.heap.size + 1) (by omega) 6 _, ?_, ?_, by rw [e]; have := HST.out.len; omega, HV9.out.2.2.2.setCell (p := ⟨w.heap.size + 1, 6, none⟩) (by show w.heap.size ≤ w.heap.size + 1; omega) _⟩
                  · rw [e]
                    exact HV9.out.1.set 6 _
                  · rw [e]
                    exact HV9.out.2.2.1.blk HV9.out.1 ⟨by decide, by decide⟩ 6 _
                  · rw [List.map_append, List.append_assoc, ← HST.out.con, HSTEP.out]
                    rfl)
                clear hy6 hf6 hl6
                go_wp2_with fail
                go_roundw
                case rel => exact ⟨q + 1, i + 2 + L.length, _, _, _, by go_num, by go_num, by omega, by omega, HFIN.out⟩
                case measure => simp [intOf]; omega
              · go_simp
                refine hK.out _ _ trivial (fun hHeld => ?_)
                clear hK K
                have hc7 : (V.alloc (.cells #[.int .i64 vi, .slice B L.length d] 80)).cell? ⟨w.heap.size + 1, 6, none⟩ = some (.slice sA us.length sc) := ((below_new V _).cell (p := ⟨w.heap.size + 1, 6, none⟩) HV.out.1.lt).trans hc6
                refine wpAnyH_ready (rs := [1]) (by kernel_rfl) (by simp) ?_
                refine AllReadyH.cons rfl (fun K hK => ?_) AllReadyH.nil
                go_simp
                refine hK.out _ _ trivial (fun hHeld => ?_)
                clear hK K
                refine wpAnyH_ready (rs := [8]) (by kernel_rfl) (by simp) ?_
                refine AllReadyH.cons rfl (fun K hK => ?_) AllReadyH.nil
                refine step_append_rec (cs := srcCs) (s := 2) _ (by rfl) (.tmp 51) (.tmp 57) 30 (by rfl) w.heap.size 80 Tryz.underlying30 src_info rfl (by decide) (by decide) srcCs_len (.slice sA us.length sc) us V (⟨vi, B, d, L⟩ : SrcM) (srcCs_one _) #[.int .i64 vi, .slice B L.length d] (by rfl) (by rfl) (by rfl) HV.out.2.2.1.row V.heap.size (by rfl) (by rfl) (by have := HST.out.len; omega) HV.out.2.2.2.1.size ?_
                intro g cap w9 ho9 hg9 _
                have HV9 := Lib.hid (And.intro (HV.out.1.grown HV.out.2.2.1.row (by decide) hg9) (And.intro (HV.out.2.1.grown HV.out.2.2.1.row (by decide) hg9) (And.intro (HV.out.2.2.1.push ho9 hg9 HV.out.2.2.2.2) (HV.out.2.2.2.1.grown hg9 HV.out.2.2.2.1.size (OwnR.ge_base HV.out.2.2.1.row)))))
                clear ho9 hg9
                refine hK.out _ _ trivial (fun hHeld => ?_)
                clear hK K
                refine wpAnyH_take (i := 9) (v := .pointer (some ⟨w.heap.size + 1, 6, none⟩)) rfl (by kernel_rfl) (by kernel_rfl) (by kernel_rfl) (fun _ _ _ h => h) (Or.inl ⟨by rfl, ?_⟩) (by assumption) ?_
                · intro w' hSw
                  go_simp
                show wpAnyH _ _ _ _ _ _ _ (Act.put _ (some 59) _) _
                simp only [Act.put, List.setIfInBounds_toArray]
                have hy6 := HV9.out.1.cell (j := 6) rfl
                have hf6 := HV9.out.1.free 6
                have hl6 := HV9.out.1.lt
                refine wpAnyH_ready (rs := [10]) (by kernel_rfl) (by simp) ?_
                refine AllReadyH.cons rfl (fun K hK => ?_) AllReadyH.nil
                go_simp
                refine hK.out _ _ trivial (fun hHeld => ?_)
                clear hK K
                refine wpAnyH_done (by kernel_rfl) ?_ _
                have HFIN : Hid (GSt ws w v1 v2.toNat (q + 1) (i + 2 + L.length) (us ++ [(⟨vi, B, d, L⟩ : SrcM)]) (some ⟨g, 0, none⟩) cap (w9.setCell ⟨w.heap.size + 1, 6, none⟩ (.slice (some ⟨g, 0, none⟩) (us.length + 1) cap))) := Lib.hid (by
                  have e : (us ++ [(⟨vi, B, d, L⟩ : SrcM)]).length = us.length + 1 := by simp
                  refine ⟨?_, HV9.out.2.1.other (g := w.heap.size + 1) (by omega) 6 _, ?_, ?_, by rw [e]; have := HST.out.len; omega, HV9.out.2.2.2.setCell (p := ⟨w.heap.size + 1, 6, none⟩) (by show w.heap.size ≤ w.heap.size + 1; omega) _⟩
                  · rw [e]
                    exact HV9.out.1.set 6 _
                  · rw [e]
                    exact HV9.out.2.2.1.blk HV9.out.1 ⟨by decide, by decide⟩ 6 _
                  · rw [List.map_append, List.append_assoc, ← HST.out.con, HSTEP.out]
                    rfl)
                clear hy6 hf6 hl6
                go_wp2_with fail
                go_roundw
                case rel => exact ⟨q + 1, i + 2 + L.length, _, _, _, by go_num, by go_num, by omega, by omega, HFIN.out⟩
                case measure => simp [intOf]; omega
          · have d2 : decide ((i : Int) < (n : Int)) = false := decide_eq_false (by omega)
            obtain ⟨D, hD⟩ : ∃ D, D = (actCs ({ kindM 1 with node := v1, sA := sA, sc := sc, srcs := us } : ActM)).toArray := ⟨_, rfl⟩
            have hrow : (wr).heap[w.heap.size + 1]? = some (.cells D 33 (0, 0)) := by rw [hD]; exact HST.out.ab
            have hrw : (wr).heap[w.heap.size]? = some (.cells #[.int .i64 0, .int .i64 0, .int .i64 0, .int .i64 0, .int .i64 0, .int .i64 0, .slice none 0 0, .slice none 0 0] 33 (0, 0)) := HST.out.rb
            have hsz : (Tryz.prog.info? 33).map (·.size) = some D.size := by rw [hD]; exact act_size
            have hold : (#[.int .i64 0, .int .i64 0, .int .i64 0, .int .i64 0, .int .i64 0, .int .i64 0, .slice none 0 0, .slice none 0 0] : Array Value).size = D.size := by rw [hD]; rfl
            have hone : D.all (·.oneCell') = true := by rw [hD]; exact actCs_one _
            have HDV := Lib.hid (show actV ({ kindM 1 with node := v1, sA := sA, sc := sc, srcs := us } : ActM) = .agg D by rw [hD]; rfl)
            clear hD
            have HALL := Lib.hid (show us.map SrcM.con = srcsR ws v2.toNat 3 by rw [← HST.out.con, srcsR_stop (.inr (by rw [← HNN.out]; omega)), List.append_nil])
            go_wp2_with (first | (refine wpList_load_row_g (by rfl) 33 (.tmp 3) rfl (w.heap.size + 1) rfl 33 D (0, 0) _ hrow Tryz.underlying33 rfl hsz ?_) | (refine wpList_store_row rfl 33 (.tmp 2) (.tmp 142) rfl w.heap.size D rfl rfl 33 _ hrw hsz hold hone ?_))
            refine HA2.out.mono ?_
            rintro e Y ⟨rfl, hY⟩
            rw [hY]
            clear hY Y
            go_wp2_with (first | (refine wpList_load_row_g (by rfl) 33 (.tmp 3) rfl (w.heap.size + 1) rfl 33 D (0, 0) _ hrow Tryz.underlying33 rfl hsz ?_) | (refine wpList_store_row rfl 33 (.tmp 2) (.tmp 142) rfl w.heap.size D rfl rfl 33 _ hrw hsz hold hone ?_))
            refine bodyPost_ret (results_cell1 Tryz.results34 _ _ w.heap.size 33 D (0, 0) _ (by rfl) (setRow_heap _ _ _ _ _ _ hrw) Tryz.underlying33 rfl hsz) rfl ?_
            refine ⟨({ kindM 1 with node := v1, sA := sA, sc := sc, srcs := us } : ActM), by rw [HDV.out], ?_, ⟨⟨own_keep HST.out.own.row HST.out.rb (by decide) (only_row2 _ w.heap.size D), fun s hs => own_keep (HST.out.own.nodes s hs) HST.out.rb (by decide) (only_row2 _ w.heap.size D)⟩, nil_own _ _⟩, below_setR (HST.out.below) (Nat.le_refl _) _⟩
            rw [HKD.out.2.1]
            show ({ kindA 1 with node := v1, srcs := us.map SrcM.con } : ActC) = { kindA 1 with node := atR ws 1, srcs := srcsR ws (atR ws 2).toNat 3 }
            rw [HALL.out, HV1.out, HV2.out]
        · have d1 : decide ((q : Int) < v2) = false := decide_eq_false h1
          obtain ⟨D, hD⟩ : ∃ D, D = (actCs ({ kindM 1 with node := v1, sA := sA, sc := sc, srcs := us } : ActM)).toArray := ⟨_, rfl⟩
          have hrow : (wr).heap[w.heap.size + 1]? = some (.cells D 33 (0, 0)) := by rw [hD]; exact HST.out.ab
          have hrw : (wr).heap[w.heap.size]? = some (.cells #[.int .i64 0, .int .i64 0, .int .i64 0, .int .i64 0, .int .i64 0, .int .i64 0, .slice none 0 0, .slice none 0 0] 33 (0, 0)) := HST.out.rb
          have hsz : (Tryz.prog.info? 33).map (·.size) = some D.size := by rw [hD]; exact act_size
          have hold : (#[.int .i64 0, .int .i64 0, .int .i64 0, .int .i64 0, .int .i64 0, .int .i64 0, .slice none 0 0, .slice none 0 0] : Array Value).size = D.size := by rw [hD]; rfl
          have hone : D.all (·.oneCell') = true := by rw [hD]; exact actCs_one _
          have HDV := Lib.hid (show actV ({ kindM 1 with node := v1, sA := sA, sc := sc, srcs := us } : ActM) = .agg D by rw [hD]; rfl)
          clear hD
          have HALL := Lib.hid (show us.map SrcM.con = srcsR ws v2.toNat 3 by rw [← HST.out.con, srcsR_stop (.inl (by omega)), List.append_nil])
          go_wp2_with (first | (refine wpList_load_row_g (by rfl) 33 (.tmp 3) rfl (w.heap.size + 1) rfl 33 D (0, 0) _ hrow Tryz.underlying33 rfl hsz ?_) | (refine wpList_store_row rfl 33 (.tmp 2) (.tmp 142) rfl w.heap.size D rfl rfl 33 _ hrw hsz hold hone ?_))
          refine HA2.out.mono ?_
          rintro e Y ⟨rfl, hY⟩
          rw [hY]
          clear hY Y
          go_wp2_with (first | (refine wpList_load_row_g (by rfl) 33 (.tmp 3) rfl (w.heap.size + 1) rfl 33 D (0, 0) _ hrow Tryz.underlying33 rfl hsz ?_) | (refine wpList_store_row rfl 33 (.tmp 2) (.tmp 142) rfl w.heap.size D rfl rfl 33 _ hrw hsz hold hone ?_))
          refine bodyPost_ret (results_cell1 Tryz.results34 _ _ w.heap.size 33 D (0, 0) _ (by rfl) (setRow_heap _ _ _ _ _ _ hrw) Tryz.underlying33 rfl hsz) rfl ?_
          refine ⟨({ kindM 1 with node := v1, sA := sA, sc := sc, srcs := us } : ActM), by rw [HDV.out], ?_, ⟨⟨own_keep HST.out.own.row HST.out.rb (by decide) (only_row2 _ w.heap.size D), fun s hs => own_keep (HST.out.own.nodes s hs) HST.out.rb (by decide) (only_row2 _ w.heap.size D)⟩, nil_own _ _⟩, below_setR (HST.out.below) (Nat.le_refl _) _⟩
          rw [HKD.out.2.1]
          show ({ kindA 1 with node := v1, srcs := us.map SrcM.con } : ActC) = { kindA 1 with node := atR ws 1, srcs := srcsR ws (atR ws 2).toNat 3 }
          rw [HALL.out, HV1.out, HV2.out]
theorem guess51_any (ws : List Wd) (A : Option Addr) (c : Nat) (w : World) (hat : WdsAt w w.heap.size A ws) (hl : ∀ x ∈ ws, x.length ≤ 1000000000) (hn : ws.length ≤ 1000000) (hne : ws ≠ []) : Calls Tryz.prog 34 #[.slice A ws.length c] w (RetG ws w) := by
  obtain ⟨x, r, hws⟩ : ∃ x r, ws = x :: r := by
    cases ws with
    | nil => exact absurd rfl hne
    | cons x r => exact ⟨x, r, rfl⟩
  obtain ⟨h0, h1⟩ := kindR_range actN x 19
  by_cases h1' : kindR actN x 19 = 1
  · exact guess51_1 ws A c w hat hl hn x r hws h1'
  · exact guess51_k ws A c w hat hl hn x r hws _ rfl (by omega)
end
section
open Go.Lib

theorem unhexP_len : ∀ w : Wd, (unhexP w).length ≤ w.length
  | [] => Nat.le_refl _
  | [x] => by simp [unhexP]
  | x :: y :: r => by
    have := unhexP_len r
    simp [unhexP]
    omega
theorem unhexR_len (w : Wd) : (unhexR w).length ≤ w.length := by
  unfold unhexR
  have h := unhexP_len (w.drop 1)
  rw [List.length_drop] at h
  omega
theorem kindOfE_range (w : List Wd) : 0 ≤ kindOfE w ∧ kindOfE w ≤ 13 := by
  unfold kindOfE
  split
  · exact kindR_range evN _ 13
  · omega
theorem int_14 {P : Int → Prop} (h : P 0 ∧ P 1 ∧ P 2 ∧ P 3 ∧ P 4 ∧ P 5 ∧ P 6 ∧ P 7 ∧ P 8 ∧ P 9 ∧ P 10 ∧ P 11 ∧ P 12 ∧ P 13) {k : Int} (h0 : 0 ≤ k) (h1 : k ≤ 13) : P k := by
  have hc : k = 0 ∨ k = 1 ∨ k = 2 ∨ k = 3 ∨ k = 4 ∨ k = 5 ∨ k = 6 ∨ k = 7 ∨ k = 8 ∨ k = 9 ∨ k = 10 ∨ k = 11 ∨ k = 12 ∨ k = 13 := by omega
  obtain ⟨p0, p1, p2, p3, p4, p5, p6, p7, p8, p9, p10, p11, p12, p13⟩ := h
  rcases hc with rfl | rfl | rfl | rfl | rfl | rfl | rfl | rfl | rfl | rfl | rfl | rfl | rfl | rfl <;> assumption
/-- what holds of the guess at an event. -/
structure FineG (k : Int) (w : List Wd) (e : EvC) : Prop where
  r : EvR e
  sz : actSize e.act ≤ w.length
  bl : e.ebody.length ≤ 65536
  kind : e.kind = k
  nob : e.bytes = []
theorem guessEK_r {k : Int} (h0 : 0 ≤ k) (h1 : k ≤ 13) (w : List Wd) (hw : w.length ≤ 1099511627776) (hl : ∀ x ∈ w, x.length ≤ 65536) : FineG k w (guessEK k w) := by
  have h64 : ∀ j : Int, 0 ≤ j → j ≤ 13 → Is64 j := fun j a b => by unfold Is64; omega
  have t := atR_64 w
  have o := is64_0
  have oa : ActR act0 := kindA_r (k := 0) is64_0
  have oo : Is64 ord0.unit ∧ Is64 ord0.epoch ∧ Is64 ord0.kind ∧ Is64 ord0.incident ∧ Is64 ord0.node := ⟨o, o, o, o, o⟩
  have os : Is64 sta0.unit ∧ Is64 sta0.seq ∧ Is64 sta0.state ∧ Is64 sta0.node ∧ Is64 sta0.epoch := ⟨o, o, o, o, o⟩
  refine int_14 (P := fun k => FineG k w (guessEK k w)) ?_ h0 h1
  have z : ∀ {e : EvC}, e.act = act0 → actSize e.act ≤ w.length := fun e1 => by rw [e1]; exact Nat.zero_le _
  have r : ∀ {k : Int} {e : EvC}, Is64 e.kind → Is64 e.tick → Is64 e.who → Is64 e.call → Is64 e.epoch → Is64 e.n → Is64 e.eterm → Is64 e.ekind → e.ebody = [] → e.ord = ord0 → e.sta = sta0 → e.act = act0 → e.bytes = [] → e.kind = k → FineG k w e :=
    fun a1 a2 a3 a4 a5 a6 a7 a8 e1 e2 e3 e4 e5 e6 => ⟨⟨a1, a2, a3, a4, a5, a6, a7, a8, by rw [e1]; exact Nat.zero_le _, by rw [e2]; exact oo, by rw [e3]; exact os, by rw [e4]; exact oa⟩, z e4, by rw [e1]; exact Nat.zero_le _, e6, e5⟩
  refine ⟨?_, ?_, ?_, ?_, ?_, ?_, ?_, ?_, ?_, ?_, ?_, ?_, ?_, ?_⟩
  · exact r o (t 0) o o o o o o rfl rfl rfl rfl rfl rfl
  · have ha : ActR (if 2 < w.length then guessA (w.drop 2) else act0) ∧ actSize (if 2 < w.length then guessA (w.drop 2) else act0) ≤ w.length := by
      split
      · have e : (w.drop 2).length ≤ w.length := by rw [List.length_drop]; omega
        exact ⟨guessA_r _ (Nat.le_trans e hw), Nat.le_trans (guessA_size _ (Nat.le_trans e hw)) e⟩
      · exact ⟨oa, Nat.zero_le _⟩
    exact ⟨⟨(h64 1 (by decide) (by decide)), t 0, o, o, o, o, o, o, Nat.zero_le _, oo, os, ha.1⟩, ha.2, Nat.zero_le _, rfl, rfl⟩
  · exact r (h64 2 (by decide) (by decide)) (t 0) (t _) (t _) o o o o rfl rfl rfl rfl rfl rfl
  · exact r (h64 3 (by decide) (by decide)) (t 0) (t _) (t _) (t _) o o o rfl rfl rfl rfl rfl rfl
  · exact r (h64 4 (by decide) (by decide)) (t 0) o (t _) o (t _) o o rfl rfl rfl rfl rfl rfl
  · exact r (h64 5 (by decide) (by decide)) (t 0) o (t _) o o o o rfl rfl rfl rfl rfl rfl
  · exact r (h64 6 (by decide) (by decide)) (t 0) (t _) (t _) (t _) o o o rfl rfl rfl rfl rfl rfl
  · have hb : (match w[6]? with | some x => unhexR x | none => []).length ≤ 65536 := by
      split
      · rename_i x hx
        exact Nat.le_trans (unhexR_len x) (hl x (List.mem_of_getElem? hx))
      · exact Nat.zero_le _
    exact ⟨⟨(h64 7 (by decide) (by decide)), t 0, t 2, o, o, t 3, t 4, t 5, Nat.le_trans hb (by decide), oo, os, oa⟩, Nat.zero_le _, hb, rfl, rfl⟩
  · exact ⟨⟨(h64 8 (by decide) (by decide)), t 0, t 2, o, o, o, o, o, Nat.zero_le _, ⟨t 3, t 4, t 5, t 6, t 7⟩, os, oa⟩, Nat.zero_le _, Nat.zero_le _, rfl, rfl⟩
  · exact ⟨⟨(h64 9 (by decide) (by decide)), t 0, t 2, o, o, o, o, o, Nat.zero_le _, oo, ⟨t 3, t 4, t 5, t 6, t 7⟩, oa⟩, Nat.zero_le _, Nat.zero_le _, rfl, rfl⟩
  · exact r (h64 10 (by decide) (by decide)) (t 0) (t _) o o o o o rfl rfl rfl rfl rfl rfl
  · exact r (h64 11 (by decide) (by decide)) (t 0) (t _) o o o o o rfl rfl rfl rfl rfl rfl
  · exact r (h64 12 (by decide) (by decide)) (t 0) (t _) o (t _) (t _) o o rfl rfl rfl rfl rfl rfl
  · exact r (h64 13 (by decide) (by decide)) (t 0) (t _) o o (t _) o o rfl rfl rfl rfl rfl rfl
theorem guessE_r (w : List Wd) (hw : w.length ≤ 1099511627776) (hl : ∀ x ∈ w, x.length ≤ 65536) : FineG (kindOfE w) w (guessE w) := guessEK_r (kindOfE_range w).1 (kindOfE_range w).2 w hw hl
end
section
open Go.RowKit Go.Maps

theorem le_byte (n : Nat) (hn : n < 256) (c : UInt8) : (UInt8.ofNat n ≤ c) ↔ n ≤ c.toNat := by
  rw [UInt8.le_iff_toNat_le, UInt8.toNat_ofNat_of_lt' hn]
theorem byte_le (n : Nat) (hn : n < 256) (c : UInt8) : (c ≤ UInt8.ofNat n) ↔ c.toNat ≤ n := by
  rw [UInt8.le_iff_toNat_le, UInt8.toNat_ofNat_of_lt' hn]
theorem digR_let {c : UInt8} (h1 : 97 ≤ c.toNat) (h2 : c.toNat ≤ 102) : ((digR c).toNat : Int) = (c.toNat : Int) - 97 + 10 := by
  unfold digR
  rw [if_pos ⟨(le_byte 97 (by decide) c).2 h1, (byte_le 102 (by decide) c).2 h2⟩]
  have e : (c - 97 + 10).toNat = c.toNat - 97 + 10 := by
    rw [UInt8.toNat_add, UInt8.toNat_sub]
    have := c.toNat_lt
    show ((256 - 97 + c.toNat) % 256 + 10) % 256 = _
    omega
  rw [e]
  omega
theorem digR_dig {c : UInt8} (h : ¬ (97 ≤ c.toNat ∧ c.toNat ≤ 102)) : ((digR c).toNat : Int) = ((c.toNat : Int) - 48) % 256 := by
  unfold digR
  rw [if_neg (fun q => h ⟨(le_byte 97 (by decide) c).1 q.1, (byte_le 102 (by decide) c).1 q.2⟩), UInt8.toNat_sub]
  have := c.toNat_lt
  show (((256 - 48 + c.toNat) % 256 : Nat) : Int) = _
  omega
set_option maxRecDepth 100000 in
theorem digit51_any (c : UInt8) (w : World) : Calls Tryz.prog 64 #[.int .u8 c.toNat] w fun e w' => e = .returned (.int .u8 ((digR c).toNat : Int)) ∧ w' = w := by
  have hc := c.toNat_lt
  by_cases h1 : 97 ≤ c.toNat
  · by_cases h2 : c.toNat ≤ 102
    · have HD := Lib.hid (digR_let h1 h2)
      have d1 : decide ((97 : Int) ≤ (c.toNat : Int)) = true := decide_eq_true (by omega)
      have d2 : decide ((c.toNat : Int) ≤ 102) = true := decide_eq_true (by omega)
      have w1 : IntKind.u8.wrap ((c.toNat : Int) - 97) = (c.toNat : Int) - 97 := IntWalk.u8_in _ (by omega)
      have w2 : IntKind.u8.wrap ((c.toNat : Int) - 97 + 10) = (c.toNat : Int) - 97 + 10 := IntWalk.u8_in _ (by omega)
      obtain ⟨n, hn⟩ : ∃ n : Nat, n = c.toNat := ⟨_, rfl⟩
      rw [← hn] at HD d1 d2 w1 w2 ⊢
      clear h1 h2 hc hn
      go_enter Tryz.func64, Tryz.ntmps64
      go_wp2_with fail
      go_ret
      exact ⟨by rw [HD.out]; rfl, rfl⟩
    · have HD := Lib.hid (digR_dig (c := c) (fun q => h2 q.2))
      have d1 : decide ((97 : Int) ≤ (c.toNat : Int)) = true := decide_eq_true (by omega)
      have d2 : decide ((c.toNat : Int) ≤ 102) = false := decide_eq_false (by omega)
      have w1 : IntKind.u8.wrap ((c.toNat : Int) - 48) = ((c.toNat : Int) - 48) % 256 := IntKind.wrap_u8 _
      obtain ⟨n, hn⟩ : ∃ n : Nat, n = c.toNat := ⟨_, rfl⟩
      rw [← hn] at HD d1 d2 w1 ⊢
      clear h1 h2 hc hn
      go_enter Tryz.func64, Tryz.ntmps64
      go_wp2_with fail
      go_ret
      exact ⟨by rw [HD.out]; rfl, rfl⟩
  · have HD := Lib.hid (digR_dig (c := c) (fun q => h1 q.1))
    have d1 : decide ((97 : Int) ≤ (c.toNat : Int)) = false := decide_eq_false (by omega)
    have w1 : IntKind.u8.wrap ((c.toNat : Int) - 48) = ((c.toNat : Int) - 48) % 256 := IntKind.wrap_u8 _
    obtain ⟨n, hn⟩ : ∃ n : Nat, n = c.toNat := ⟨_, rfl⟩
    rw [← hn] at HD d1 w1 ⊢
    clear h1 hc hn
    go_enter Tryz.func64, Tryz.ntmps64
    go_wp2_with fail
    go_ret
    exact ⟨by rw [HD.out]; rfl, rfl⟩
theorem unhexP_size : ∀ l : Wd, (unhexP l).length = l.length / 2
  | [] => rfl
  | [x] => by simp [unhexP]
  | x :: y :: r => by
    have := unhexP_size r
    show (unhexP r).length + 1 = (r.length + 1 + 1) / 2
    omega
theorem unhexP_at : ∀ (l : Wd) (k : Nat) (x y : UInt8), l[2 * k]? = some x → l[2 * k + 1]? = some y → (unhexP l)[k]? = some (16 * digR x + digR y)
  | [], k, x, y, h, _ => by simp at h
  | [a], k, x, y, h, h' => by simp at h'
  | a :: b :: r, 0, x, y, h, h' => by
    simp at h h'
    subst h h'
    rfl
  | a :: b :: r, k + 1, x, y, h, h' => by
    have e1 : 2 * (k + 1) = 2 * k + 1 + 1 := by omega
    rw [e1] at h h'
    exact unhexP_at r k x y (by simpa using h) (by simpa using h')
set_option maxRecDepth 100000 in
set_option maxHeartbeats 4000000 in
theorem unhex51_any (x : Wd) (hx : x.length ≤ 1000000) (w : World) : Calls Tryz.prog 35 #[.string (bs x)] w fun e w' => ∃ A c, e = .returned (.slice A (unhexR x).length c) ∧ OwnV byteV w' w.heap.size 5 (.slice A (unhexR x).length c) (unhexR x) ∧ Below w.heap.size w w' := by
  have hsz : (bs x).size = x.length := bs_size x
  have HB := Lib.hid (fun k (h : k < x.length) => byte_of h)
  have HUL := Lib.hid (show (unhexR x).length = (x.length - 1) / 2 by unfold unhexR; rw [unhexP_size, List.length_drop])
  have HUA := Lib.hid (show ∀ (k : Nat) (c d : UInt8), x[2 * k + 1]? = some c → x[2 * k + 2]? = some d → (unhexR x)[k]? = some (16 * digR c + digR d) from fun k c d h h' => unhexP_at _ k c d (by rw [List.getElem?_drop, Nat.add_comm]; exact h) (by rw [List.getElem?_drop, Nat.add_comm]; exact h'))
  obtain ⟨U, hU⟩ : ∃ U, U = unhexR x := ⟨_, rfl⟩
  rw [← hU] at HUL HUA ⊢
  obtain ⟨s, hs⟩ : ∃ s, s = bs x := ⟨_, rfl⟩
  rw [← hs] at hsz ⊢
  have HS := Lib.hid hs
  have HSZ := Lib.hid hsz
  have hsb : s.size ≤ 1000000 := by omega
  clear hs hU hsz hx
  go_enter Tryz.func35, Tryz.ntmps35
  go_wp2_with fail
  go_loopw [3, 4] (fun v iv X => ∃ k : Nat, k ≤ U.length ∧ iv = .int .i64 (2 * (k : Int) + 1) ∧ OwnV byteV X w.heap.size 5 v (U.take k) ∧ Below w.heap.size w X) (fun _ iv _ => 2 * U.length + 1 - (intOf iv).toNat)
  case atStart => exact ⟨0, Nat.zero_le _, rfl, OwnV.nil _ _ _, Below.refl _ _⟩
  case round =>
    obtain ⟨k, hk, rfl, hown, hb⟩ := hrel
    have HO := Lib.hid (And.intro hown hb)
    have hU2 : 2 * U.length ≤ s.size := by have := HUL.out; have := HSZ.out; omega
    have w1 : IntKind.i64.wrap (2 * (k : Int) + 1 + 1) = 2 * (k : Int) + 2 := by rw [IntWalk.i64_in _ (by omega)]; omega
    clear hown hb
    by_cases hlt : k < U.length
    · have hi1 : 2 * k + 2 < s.size := by have := HUL.out; have := HSZ.out; omega
      have hlt' : 2 * (k : Int) + 2 < (s.size : Int) := by omega
      obtain ⟨x1, hx1, hsx0⟩ := HB.out (2 * k + 1) (by have := HSZ.out; omega)
      obtain ⟨y1, hy1, hsy0⟩ := HB.out (2 * k + 2) (by have := HSZ.out; omega)
      have HX := Lib.hid (HUA.out k x1 y1 hx1 hy1)
      rw [← HS.out] at hsx0 hsy0
      have HDX := Lib.hid (fun X : World => digit51_any x1 X)
      have HDY := Lib.hid (fun X : World => digit51_any y1 X)
      have hsx : ∀ h : (2 * (k : Int) + 1).toNat < s.size, s[(2 * (k : Int) + 1).toNat]'h = x1 := by
        have e : (2 * (k : Int) + 1).toNat = 2 * k + 1 := by omega
        rw [e]
        exact hsx0
      have hsy : ∀ h : (2 * (k : Int) + 2).toNat < s.size, s[(2 * (k : Int) + 2).toNat]'h = y1 := by
        have e : (2 * (k : Int) + 2).toNat = 2 * k + 2 := by omega
        rw [e]
        exact hsy0
      have hx8 := x1.toNat_lt
      have hy8 := y1.toNat_lt
      have w2 : IntKind.i64.wrap (2 * (k : Int) + 1 + 2) = 2 * (k : Int) + 3 := by rw [IntWalk.i64_in _ (by omega)]; omega
      have m1 : IntKind.u8.wrap (16 * ((digR x1).toNat : Int)) = ((16 * digR x1 : UInt8).toNat : Int) := by
        rw [IntKind.wrap_u8, UInt8.toNat_mul]
        show _ = ((16 * (digR x1).toNat % 256 : Nat) : Int)
        omega
      have m2 : IntKind.u8.wrap (((16 * digR x1 : UInt8).toNat : Int) + ((digR y1).toNat : Int)) = ((16 * digR x1 + digR y1 : UInt8).toNat : Int) := by
        rw [IntKind.wrap_u8, UInt8.toNat_add]
        omega
      obtain ⟨dx, hdx⟩ : ∃ d, d = digR x1 := ⟨_, rfl⟩
      obtain ⟨dy, hdy⟩ : ∃ d, d = digR y1 := ⟨_, rfl⟩
      rw [← hdx] at HX HDX m1 m2
      rw [← hdy] at HX HDY m2
      obtain ⟨mx, hmx⟩ : ∃ m : UInt8, m = 16 * dx := ⟨_, rfl⟩
      rw [← hmx] at m1 m2 HX
      obtain ⟨z, hz⟩ : ∃ z : UInt8, z = mx + dy := ⟨_, rfl⟩
      rw [← hz] at m2 HX
      clear hx1 hy1 hsx0 hsy0 hdx hdy hmx hz
      go_wp2_with fail
      refine wp_region_held_drew (S := fun _ => True) (by kernel_rfl) trivial (fun hHeld => ?_)
      obtain ⟨V, hV⟩ : ∃ V, V = World.drew wr := ⟨_, rfl⟩
      rw [← hV]
      have HV := Lib.hid (And.intro (show OwnV byteV V w.heap.size 5 u3 (U.take k) by rw [hV]; exact HO.out.1) (show Below w.heap.size w V by rw [hV]; exact HO.out.2.drew))
      clear hV
      refine wpAnyH_take (i := 0) (v := u3) rfl (by kernel_rfl) (by kernel_rfl) (by kernel_rfl) (fun _ _ _ h => h) (Or.inl ⟨by rfl, ?_⟩) (by assumption) ?_
      · intro w' hSw
        go_simp
      show wpAnyH _ _ _ _ _ _ _ (Act.put _ (some 12) _) _
      simp only [Act.put, List.setIfInBounds_toArray, List.set_cons_zero, List.set_cons_succ]
      refine wpAnyH_take (i := 1) (v := .string s) rfl (by kernel_rfl) (by kernel_rfl) (by kernel_rfl) (fun _ _ _ h => h) (Or.inl ⟨by rfl, ?_⟩) (by assumption) ?_
      · intro w' hSw
        go_simp
      show wpAnyH _ _ _ _ _ _ _ (Act.put _ (some 13) _) _
      simp only [Act.put, List.setIfInBounds_toArray, List.set_cons_zero, List.set_cons_succ]
      refine wpAnyH_take (i := 2) (v := .int .i64 (2 * (k : Int) + 1)) rfl (by kernel_rfl) (by kernel_rfl) (by kernel_rfl) (fun _ _ _ h => h) (Or.inl ⟨by rfl, ?_⟩) (by assumption) ?_
      · intro w' hSw
        go_simp
      show wpAnyH _ _ _ _ _ _ _ (Act.put _ (some 14) _) _
      simp only [Act.put, List.setIfInBounds_toArray, List.set_cons_zero, List.set_cons_succ]
      refine wpAnyH_take (i := 3) (v := .int .u8 (x1.toNat : Int)) rfl (by kernel_rfl) (by kernel_rfl) (by kernel_rfl) (fun _ _ _ h => h) (Or.inl ⟨by rfl, ?_⟩) (by assumption) ?_
      · intro w' hSw
        go_simp
        intro q
        first | exact absurd (q (by omega)) (by omega) | omega
      show wpAnyH _ _ _ _ _ _ _ (Act.put _ (some 15) _) _
      simp only [Act.put, List.setIfInBounds_toArray, List.set_cons_zero, List.set_cons_succ]
      refine wpAnyH_take (i := 6) (v := .string s) rfl (by kernel_rfl) (by kernel_rfl) (by kernel_rfl) (fun _ _ _ h => h) (Or.inl ⟨by rfl, ?_⟩) (by assumption) ?_
      · intro w' hSw
        go_simp
      show wpAnyH _ _ _ _ _ _ _ (Act.put _ (some 18) _) _
      simp only [Act.put, List.setIfInBounds_toArray, List.set_cons_zero, List.set_cons_succ]
      refine wpAnyH_take (i := 7) (v := .int .i64 (2 * (k : Int) + 1)) rfl (by kernel_rfl) (by kernel_rfl) (by kernel_rfl) (fun _ _ _ h => h) (Or.inl ⟨by rfl, ?_⟩) (by assumption) ?_
      · intro w' hSw
        go_simp
      show wpAnyH _ _ _ _ _ _ _ (Act.put _ (some 19) _) _
      simp only [Act.put, List.setIfInBounds_toArray, List.set_cons_zero, List.set_cons_succ]
      refine wpAnyH_take (i := 8) (v := .int .i64 (2 * (k : Int) + 2)) rfl (by kernel_rfl) (by kernel_rfl) (by kernel_rfl) (fun _ _ _ h => h) (Or.inl ⟨by rfl, ?_⟩) (by assumption) ?_
      · intro w' hSw
        go_simp
      show wpAnyH _ _ _ _ _ _ _ (Act.put _ (some 20) _) _
      simp only [Act.put, List.setIfInBounds_toArray, List.set_cons_zero, List.set_cons_succ]
      refine wpAnyH_take (i := 9) (v := .int .u8 (y1.toNat : Int)) rfl (by kernel_rfl) (by kernel_rfl) (by kernel_rfl) (fun _ _ _ h => h) (Or.inl ⟨by rfl, ?_⟩) (by assumption) ?_
      · intro w' hSw
        go_simp
        intro q
        first | exact absurd (q (by omega)) (by omega) | omega
      show wpAnyH _ _ _ _ _ _ _ (Act.put _ (some 21) _) _
      simp only [Act.put, List.setIfInBounds_toArray, List.set_cons_zero, List.set_cons_succ]
      refine wpAnyH_ready (rs := [4]) (by kernel_rfl) (by simp) ?_
      refine AllReadyH.cons rfl (fun K hK => ?_) AllReadyH.nil
      go_simp
      refine (HDX.out _).mono ?_
      rintro e V1 ⟨rfl, hV⟩
      rw [hV]
      clear hV V1
      go_simp
      refine hK.out _ _ trivial (fun hHeld => ?_)
      clear hK K
      refine wpAnyH_take (i := 5) (v := .int .u8 (mx.toNat : Int)) rfl (by kernel_rfl) (by kernel_rfl) (by kernel_rfl) (fun _ _ _ h => h) (Or.inl ⟨by rfl, ?_⟩) (by assumption) ?_
      · intro w' hSw
        go_simp
      show wpAnyH _ _ _ _ _ _ _ (Act.put _ (some 17) _) _
      simp only [Act.put, List.setIfInBounds_toArray, List.set_cons_zero, List.set_cons_succ]
      refine wpAnyH_ready (rs := [10]) (by kernel_rfl) (by simp) ?_
      refine AllReadyH.cons rfl (fun K hK => ?_) AllReadyH.nil
      go_simp
      refine (HDY.out _).mono ?_
      rintro e V1 ⟨rfl, hV⟩
      rw [hV]
      clear hV V1
      go_simp
      refine hK.out _ _ trivial (fun hHeld => ?_)
      clear hK K
      refine wpAnyH_take (i := 11) (v := .int .u8 (z.toNat : Int)) rfl (by kernel_rfl) (by kernel_rfl) (by kernel_rfl) (fun _ _ _ h => h) (Or.inl ⟨by rfl, ?_⟩) (by assumption) ?_
      · intro w' hSw
        go_simp
      show wpAnyH _ _ _ _ _ _ _ (Act.put _ (some 23) _) _
      simp only [Act.put, List.setIfInBounds_toArray, List.set_cons_zero, List.set_cons_succ]
      refine wpAnyH_ready (rs := [12]) (by kernel_rfl) (by simp) ?_
      refine AllReadyH.cons rfl (fun K hK => ?_) AllReadyH.nil
      go_simp
      refine hK.out _ _ trivial (fun hHeld => ?_)
      clear hK K
      refine wpAnyH_ready (rs := [13]) (by kernel_rfl) (by simp) ?_
      refine AllReadyH.cons rfl (fun K hK => ?_) AllReadyH.nil
      refine step_append_F _ (by rfl) (.tmp 12) (.tmp 24) 23 (by rfl) 5 Tryz.underlying23 byte_info rfl (by decide) w.heap.size u3 (U.take k) (by rfl) (.inl (HV.out.1.alloc _)) (V.heap.size + 1) ⟨V.heap.size, 0, none⟩ 1 1 [z] (by rfl) rfl (by decide) (Sl.more (Sl.lit V ([z].map byteV) 5 rfl) (by simp)) (fun y _ => rfl) (by rw [List.length_take]; simp; omega) (by have := HV.out.2.size; simp; omega) ?_
      intro v9 w9 ho9 hg9
      have HV9 := Lib.hid (And.intro ho9 (show Below w.heap.size w w9 from ((HV.out.2.alloc HV.out.2.size _).grown hg9 (by have := HV.out.2.size; simp; omega) (OwnV.ge_base HV.out.1))))
      refine hK.out _ _ trivial (fun hHeld => ?_)
      clear hK K ho9 hg9
      refine wpAnyH_take (i := 14) (v := v9) rfl (by kernel_rfl) (by kernel_rfl) (by kernel_rfl) (fun _ _ _ h => h) (Or.inl ⟨by rfl, ?_⟩) (by assumption) ?_
      · intro w' hSw
        go_simp
      show wpAnyH _ _ _ _ _ _ _ (Act.put _ (some 3) _) _
      simp only [Act.put, List.setIfInBounds_toArray]
      refine wpAnyH_done (by kernel_rfl) ?_ _
      go_wp2_with fail
      go_roundw
      case rel => exact ⟨k + 1, by omega, by go_num, by rw [take_snoc HX.out]; exact HV9.out.1, HV9.out.2⟩
      case measure => simp [intOf]; omega
    · obtain rfl : k = U.length := by omega
      have hge : (s.size : Int) ≤ 2 * (U.length : Int) + 2 := by have := HUL.out; have := HSZ.out; omega
      have hov := HO.out.1
      rw [List.take_length] at hov
      obtain ⟨B, d, rfl, _⟩ := OwnV.sl hov
      have HVV := Lib.hid hov
      clear hov hlt hk
      go_wp2_with fail
      go_ret
      exact ⟨B, d, rfl, HVV.out, HO.out.2⟩
end
section
open Go.RowKit Go.Maps
open Go.Lib (itoa)

theorem EvO.next {Y Z : World} {base : Nat} {x : EvM} (h : EvO Y base x) (hb : Below Y.heap.size Y Z) : EvO Z base x := ⟨h.act.next hb, own_next h.body hb, h.nob⟩
theorem EvO.base {Y : World} {base base' : Nat} {x : EvM} (h : EvO Y base x) (hb : base' ≤ base) : EvO Y base' x := ⟨h.act.base hb, own_base h.body hb, h.nob⟩
theorem EvO.at {Y : World} {base : Nat} {x : EvM} (h : EvO Y base x) : EvAt Y Y.heap.size x := by
  obtain ⟨A, c, e, hs⟩ := OwnV.sl h.body
  injection e with e1 _ _
  subst e1
  obtain ⟨n1, n2, n3⟩ := h.nob
  exact ⟨hs, h.act.at, by rw [n2]; exact Sl.empty⟩
theorem EvBd.r {e : EvM} (h : EvBd e) : EvR e.con :=
  ⟨h.kind, h.tick, h.who, h.call, h.epoch, h.n, h.eterm, h.ekind, Nat.le_trans h.body (by decide), h.ord, h.sta, h.act.r⟩
/-- what ParseEvent returns. -/
def RetPe (s : Wd) (w : World) (e : Ending) (w' : World) : Prop :=
  (∃ a : EvM, EvOk a.con ∧ VEv a.con ∧ s = evT a.con ∧ s.length ≤ 65536 ∧ e = .returned (.tuple #[evV a, .int .i64 0]) ∧ EvO w' w.heap.size a ∧ EvBd a ∧ Below w.heap.size w w') ∨
  ((65536 < s.length ∨ ∀ b, VEv b → EvOk b → s ≠ evT b) ∧ e = .returned (.tuple #[evV (EvM.zero 0 0), .int .i64 2]) ∧ Below w.heap.size w w')
set_option maxRecDepth 100000 in
set_option maxHeartbeats 16000000 in
theorem parseEv_any (s : Wd) (w : World) (hr : Ready w) : Calls Tryz.prog 9 #[.string (bs s)] w (RetPe s w) := by
  have hb0 : Below w.heap.size w (w.alloc (.cells #[.int .i64 0, .int .i64 0, .int .i64 0, .int .i64 0, .int .i64 0, .int .i64 0, .int .i64 0, .int .i64 0, .slice none 0 0, .int .i64 0, .int .i64 0, .int .i64 0, .int .i64 0, .int .i64 0, .int .i64 0, .int .i64 0, .int .i64 0, .int .i64 0, .int .i64 0, .int .i64 0, .int .i64 0, .int .i64 0, .int .i64 0, .int .i64 0, .int .i64 0, .slice none 0 0, .slice none 0 0, .slice none 0 0] 35)) := (Below.refl _ _).alloc (Nat.le_refl _) _
  have hn0 := new_obj w (.cells #[.int .i64 0, .int .i64 0, .int .i64 0, .int .i64 0, .int .i64 0, .int .i64 0, .int .i64 0, .int .i64 0, .slice none 0 0, .int .i64 0, .int .i64 0, .int .i64 0, .int .i64 0, .int .i64 0, .int .i64 0, .int .i64 0, .int .i64 0, .int .i64 0, .int .i64 0, .int .i64 0, .int .i64 0, .int .i64 0, .int .i64 0, .int .i64 0, .int .i64 0, .slice none 0 0, .slice none 0 0, .slice none 0 0] 35)
  have hs0 : (w.alloc (.cells #[.int .i64 0, .int .i64 0, .int .i64 0, .int .i64 0, .int .i64 0, .int .i64 0, .int .i64 0, .int .i64 0, .slice none 0 0, .int .i64 0, .int .i64 0, .int .i64 0, .int .i64 0, .int .i64 0, .int .i64 0, .int .i64 0, .int .i64 0, .int .i64 0, .int .i64 0, .int .i64 0, .int .i64 0, .int .i64 0, .int .i64 0, .int .i64 0, .int .i64 0, .slice none 0 0, .slice none 0 0, .slice none 0 0] 35)).heap.size = w.heap.size + 1 := by simp
  obtain ⟨ZA, hZA⟩ : ∃ ZA : Array Value, ZA = #[.int .i64 0, .int .i64 0, .int .i64 0, .int .i64 0, .int .i64 0, .int .i64 0, .int .i64 0, .int .i64 0, .slice none 0 0, .int .i64 0, .int .i64 0, .int .i64 0, .int .i64 0, .int .i64 0, .int .i64 0, .int .i64 0, .int .i64 0, .int .i64 0, .int .i64 0, .int .i64 0, .int .i64 0, .int .i64 0, .int .i64 0, .int .i64 0, .int .i64 0, .slice none 0 0, .slice none 0 0, .slice none 0 0] := ⟨_, rfl⟩
  have HZV := Lib.hid (show evV (EvM.zero 0 0) = .agg ZA by rw [hZA]; rfl)
  have hbt : Tryz.prog.built 35 [] = some ZA := by rw [hZA]; rfl
  have hszz : (Tryz.prog.info? 35).map (·.size) = some ZA.size := by rw [hZA]; exact ev_size
  have honez : ZA.all (·.oneCell') = true := by rw [hZA]; exact evCs_one (EvM.zero 0 0)
  obtain ⟨X0, hX0⟩ : ∃ X0, X0 = w.alloc (.cells #[.int .i64 0, .int .i64 0, .int .i64 0, .int .i64 0, .int .i64 0, .int .i64 0, .int .i64 0, .int .i64 0, .slice none 0 0, .int .i64 0, .int .i64 0, .int .i64 0, .int .i64 0, .int .i64 0, .int .i64 0, .int .i64 0, .int .i64 0, .int .i64 0, .int .i64 0, .int .i64 0, .int .i64 0, .int .i64 0, .int .i64 0, .int .i64 0, .int .i64 0, .slice none 0 0, .slice none 0 0, .slice none 0 0] 35) := ⟨_, rfl⟩
  rw [← hX0] at hb0 hn0 hs0
  rw [← hZA] at hn0
  have HZN := Lib.hid (show ∀ a : EvM, ZA.size = (evCs a).toArray.size by rw [hZA]; exact fun _ => rfl)
  have HB0 := Lib.hid (And.intro hb0 (And.intro hn0 hr))
  by_cases hs : s.length ≤ 65536
  rotate_left
  · have d0 := d65_yes hs
    have HS := Lib.hid hs
    clear hs hr hb0 hs0 hZA
    go_enter Tryz.func9, Tryz.ntmps9
    go_wp2_with (first | (rw [← hX0]; refine wpList_build_to rfl 35 #[] rfl ZA (by rw [Array.toList_map]; exact hbt) ?_) | (refine wpList_store_row rfl 35 (.tmp 2) (.tmp 9) rfl w.heap.size ZA rfl rfl 35 _ hn0 hszz rfl honez ?_))
    refine bodyPost_ret (results_cell_tmp Tryz.results9 _ _ w.heap.size 35 ZA (0, 0) _ (by rfl) (setRow_heap _ _ _ _ _ _ (new_obj w _)) Tryz.underlying35 rfl hszz) rfl ?_
    exact .inr ⟨.inl (by have := HS.out; omega), by rw [HZV.out]; rfl, below_row (below_new _ _) _⟩
  have d0 := d65_no hs
  have HS := Lib.hid (And.intro hs hr)
  have hr0 := hr.below hb0
  have HSP := Lib.hid (split_any s hs X0 hr0)
  have HRS := Lib.hid (rd_start X0 s hs)
  obtain ⟨n, hn⟩ : ∃ n, n = (wordsL s).length := ⟨_, rfl⟩
  obtain ⟨X1, hX1⟩ : ∃ X1, X1 = X0.alloc (.cells ((wordsL s).map wdV).toArray 9) := ⟨_, rfl⟩
  have hb1 : Below X0.heap.size X0 X1 := by rw [hX1]; exact below_new _ _
  have hs1 : X1.heap.size = X0.heap.size + 1 := by rw [hX1]; simp
  have hb2 : Below X1.heap.size X1 (X1.alloc (.cells #[.slice (some ⟨X0.heap.size, 0, none⟩) n n, .bool false] RT)) := below_new _ _
  obtain ⟨X2, hX2⟩ : ∃ X2, X2 = X1.alloc (.cells #[.slice (some ⟨X0.heap.size, 0, none⟩) n n, .bool false] RT) := ⟨_, rfl⟩
  have hs2 : X2.heap.size = X1.heap.size + 1 := by rw [hX2]; simp
  rw [← hX1, ← hn] at HSP HRS
  rw [← hX2] at hb2 HRS
  rw [← hs1] at HRS
  obtain ⟨rb, hrb⟩ : ∃ rb, rb = X1.heap.size := ⟨_, rfl⟩
  have hB2 : Below w.heap.size w X2 := hb0.trans ((hb1.mono hb0.size).trans (hb2.mono (Nat.le_trans hb0.size hb1.size)))
  have HRBX := Lib.hid (show rb < X2.heap.size by omega)
  have HB2 := Lib.hid (And.intro hB2 (And.intro (((hb1.trans (hb2.mono hb1.size)).block w.heap.size (by omega)).trans hn0) (show w.heap.size < rb by omega)))
  have hgr : Tryz.prog.globals.size ≤ rb := Nat.le_trans hr.room (by omega)
  rw [← hrb] at HRS
  have HRD := Lib.hid (revent_any rb (some (wordsL s)) X2 HRS.out (hr.below hB2) hgr)
  have HS2 := Lib.hid hs2
  clear hs hr hr0 hb0 hb1 hb2 hB2 hn hgr hs0 hs1 hs2 hZA
  go_enter Tryz.func9, Tryz.ntmps9
  go_wp2_with fail
  rw [← hX0]
  refine HSP.out.mono ?_
  rintro e Xn ⟨rfl, hXn⟩
  rw [hXn]
  clear hXn Xn hX0 hX1
  go_wp2_with fail
  rw [← hX2, ← hrb]
  clear hX2 hrb
  refine HRD.out.mono ?_
  rintro e Y ⟨a, st', rfl, h1, ho, hown, hbd, hrd⟩
  obtain ⟨D, hD⟩ : ∃ D, D = (evCs a).toArray := ⟨_, rfl⟩
  have hv : evV a = .agg D := by rw [hD]; rfl
  have hszd : (Tryz.prog.info? 35).map (·.size) = some D.size := by rw [hD]; exact ev_size
  have honed : D.all (·.oneCell') = true := by rw [hD]; exact evCs_one a
  have hold : (#[.int .i64 0, .int .i64 0, .int .i64 0, .int .i64 0, .int .i64 0, .int .i64 0, .int .i64 0, .int .i64 0, .slice none 0 0, .int .i64 0, .int .i64 0, .int .i64 0, .int .i64 0, .int .i64 0, .int .i64 0, .int .i64 0, .int .i64 0, .int .i64 0, .int .i64 0, .int .i64 0, .int .i64 0, .int .i64 0, .int .i64 0, .int .i64 0, .int .i64 0, .slice none 0 0, .slice none 0 0, .slice none 0 0] : Array Value).size = D.size := by rw [hD]; rfl
  have hoy := new_obj Y (.cells #[.int .i64 0, .int .i64 0, .int .i64 0, .int .i64 0, .int .i64 0, .int .i64 0, .int .i64 0, .int .i64 0, .slice none 0 0, .int .i64 0, .int .i64 0, .int .i64 0, .int .i64 0, .int .i64 0, .int .i64 0, .int .i64 0, .int .i64 0, .int .i64 0, .int .i64 0, .int .i64 0, .int .i64 0, .int .i64 0, .int .i64 0, .int .i64 0, .int .i64 0, .slice none 0 0, .slice none 0 0, .slice none 0 0] 35)
  have HD := Lib.hid (And.intro hD hv)
  have hYB : Below w.heap.size w Y := HB2.out.1.trans ((ho.low (by have := HRBX.out; omega)).mono (Nat.le_of_lt HB2.out.2.2))
  have hb5 := below_new Y (.cells D 35)
  have HQ := Lib.hid (And.intro (h1.next hb5) (And.intro hown (And.intro hbd hrd)))
  have HY := Lib.hid (And.intro hYB (And.intro (((ho.low (by have := HRBX.out; omega)).block w.heap.size HB2.out.2.2).trans HB2.out.2.1) ho.size))
  rw [hv]
  clear h1 ho hown hbd hrd hD hv hYB
  go_wp2_with (refine wpList_store_row rfl 35 (.tmp 5) (.tmp 13) rfl Y.heap.size D rfl rfl 35 _ hoy hszd hold honed ?_)
  rw [World.setRow_alloc_new]
  have hrow5 := new_obj Y (.cells D 35)
  obtain ⟨X5, hX5⟩ : ∃ X5, X5 = Y.alloc (.cells D 35) := ⟨_, rfl⟩
  rw [← hX5] at hb5 HQ hrow5 ⊢
  have HFN := Lib.hid (rfin_any rb st' X5 HQ.out.1)
  have HB5 := Lib.hid (And.intro (HY.out.1.trans (hb5.mono HY.out.1.size)) (And.intro hb5 ((hb5.block w.heap.size (by have := HB2.out.2.2; have := HY.out.2.2; have := HRBX.out; omega)).trans HY.out.2.1)))
  have hrw5 := HB5.out.2.2
  have HNO : Hid (¬ (st' = some [] ∧ EvOk a.con) → ∀ b, VEv b → EvOk b → s ≠ evT b) := Lib.hid (fun q b hb hbo => ev_leave HQ.out.2.2.2 q b hb hbo)
  have HYES : Hid (∀ X6, Below X5.heap.size X5 X6 → st' = some [] → EvOk a.con → RetPe s w (.returned (.tuple #[.agg D, .int .i64 0])) (X6.setRow w.heap.size D)) := Lib.hid (fun X6 hb6 q1 q2 => by
    obtain ⟨t1, t2⟩ := ev_take HQ.out.2.2.2 q1 q2
    have ho6 := only_row2 X6 w.heap.size D
    have hbk : Blk X6 w.heap.size 35 ZA.toList := by
      show X6.heap[w.heap.size]? = _
      rw [hb6.block w.heap.size (Array.getElem?_eq_some_iff.1 HB5.out.2.2).1, HB5.out.2.2]
    have hown2 := ((HQ.out.2.1.next HB5.out.2.1).next hb6).base HB2.out.1.size
    exact .inl ⟨a, q2, t1, t2, HS.out.1, by rw [HD.out.2], (hown2.keep hbk ⟨by decide, by decide, by decide⟩ ho6), HQ.out.2.2.1, below_row (HB5.out.1.trans (hb6.mono HB5.out.1.size)) _⟩)
  clear hoy hold honed hX5
  by_cases hf : st' = some []
  rotate_left
  · rw [tb_false hf] at HFN
    have HF := Lib.hid hf
    clear hf hb5 hrow5
    go_wp2_with fail
    refine HFN.out.mono ?_
    rintro e Xn ⟨rfl, hXn⟩
    rw [hXn]
    clear hXn Xn
    go_wp2_with (first | (refine wpList_build_to rfl 35 #[] rfl ZA (by rw [Array.toList_map]; exact hbt) ?_) | (refine wpList_store_row rfl 35 (.tmp 2) (.tmp 21) rfl w.heap.size ZA rfl rfl 35 _ hrw5 hszz rfl honez ?_))
    refine bodyPost_ret (results_cell_tmp Tryz.results9 _ _ w.heap.size 35 ZA (0, 0) _ (by rfl) (setRow_heap _ _ _ _ _ _ hrw5) Tryz.underlying35 rfl hszz) rfl ?_
    exact .inr ⟨.inr (HNO.out (fun q => HF.out q.1)), by rw [HZV.out]; rfl, below_row HB5.out.1 _⟩
  rw [tb_true hf] at HFN
  have HF := Lib.hid hf
  have HV := Lib.hid (vEv_any a X5 (HQ.out.2.1.next HB5.out.2.1).at HQ.out.2.2.1.act.l)
  rw [HD.out.2] at HV
  clear hf hb5
  go_wp2_with fail
  refine HFN.out.mono ?_
  rintro e Xn ⟨rfl, hXn⟩
  rw [hXn]
  clear hXn Xn
  by_cases hok : EvOk a.con
  · rw [tb_true hok] at HV
    have HOK := Lib.hid hok
    clear hok
    go_wp2_with (refine wpList_load_row_g (by rfl) 35 (.tmp 5) rfl Y.heap.size rfl 35 D (0, 0) _ hrow5 Tryz.underlying35 rfl hszd ?_)
    refine HV.out.mono ?_
    rintro e X6 ⟨rfl, hb6⟩
    have HF6 := Lib.hid (HYES.out X6 hb6 HF.out HOK.out)
    have hrow6 := (hb6.block Y.heap.size (Array.getElem?_eq_some_iff.1 hrow5).1).trans hrow5
    have hrw6 := (hb6.block w.heap.size (Array.getElem?_eq_some_iff.1 hrw5).1).trans hrw5
    have honed : D.all (·.oneCell') = true := by rw [HD.out.1]; exact evCs_one a
    have hzd : ZA.size = D.size := by rw [HD.out.1]; exact HZN.out a
    clear hb6 hrow5 hrw5
    go_wp2_with (first | (refine wpList_load_row_g (by rfl) 35 (.tmp 5) rfl Y.heap.size rfl 35 D (0, 0) _ hrow6 Tryz.underlying35 rfl hszd ?_) | (refine wpList_store_row rfl 35 (.tmp 2) (.tmp 22) rfl w.heap.size D rfl rfl 35 _ hrw6 hszd hzd honed ?_))
    refine bodyPost_ret (results_cell_tmp Tryz.results9 _ _ w.heap.size 35 D (0, 0) _ (by rfl) (setRow_heap _ _ _ _ _ _ hrw6) Tryz.underlying35 rfl hszd) rfl ?_
    exact HF6.out
  · rw [tb_false hok] at HV
    have HOK := Lib.hid hok
    clear hok
    go_wp2_with (refine wpList_load_row_g (by rfl) 35 (.tmp 5) rfl Y.heap.size rfl 35 D (0, 0) _ hrow5 Tryz.underlying35 rfl hszd ?_)
    refine HV.out.mono ?_
    rintro e X6 ⟨rfl, hb6⟩
    have HB6 := Lib.hid (HB5.out.1.trans (hb6.mono HB5.out.1.size))
    have hrw6 := (hb6.block w.heap.size (Array.getElem?_eq_some_iff.1 hrw5).1).trans hrw5
    clear hb6 hrow5 hrw5
    go_wp2_with (first | (refine wpList_build_to rfl 35 #[] rfl ZA (by rw [Array.toList_map]; exact hbt) ?_) | (refine wpList_store_row rfl 35 (.tmp 2) (.tmp 21) rfl w.heap.size ZA rfl rfl 35 _ hrw6 hszz rfl honez ?_))
    refine bodyPost_ret (results_cell_tmp Tryz.results9 _ _ w.heap.size 35 ZA (0, 0) _ (by rfl) (setRow_heap _ _ _ _ _ _ hrw6) Tryz.underlying35 rfl hszz) rfl ?_
    exact .inr ⟨.inr (HNO.out (fun q => HOK.out q.2)), by rw [HZV.out]; rfl, below_row HB6.out _⟩
end
section
open Go.RowKit Go.Maps

theorem own_cap {α : Type} {f : α → Value} {w : World} {base : Nat} {e : TypeId} {A : Option Addr} {n c : Nat} {zs : List α} (h : OwnV f w base e (.slice A n c) zs) : zs.length ≤ c := by
  rcases h.2 with ⟨_, h0⟩ | ⟨g, cap, cur, e1, _, _, hle, _⟩
  · omega
  · injection e1 with _ _ e3
    omega
/-- what Words returns, with the capacity. -/
def RetWc (l : Wd) (w : World) (e : Ending) (w' : World) : Prop := ∃ A c, e = .returned (.slice A (wordsL l).length c) ∧ WdsAt w' w'.heap.size A (wordsL l) ∧ Below w.heap.size w w' ∧ (wordsL l).length ≤ c
set_option maxRecDepth 100000 in
set_option maxHeartbeats 4000000 in
theorem words51_cap (s : ByteArray) (hs : s.size ≤ 1000000000) (w : World) : Calls Tryz.prog 31 #[.string s] w (RetWc s.data.toList w) := by
  go_enter Tryz.func31, Tryz.ntmps31
  go_wp2_with fail
  go_loopw [3, 4, 5] (fun v av iv wr => ∃ (L : List ByteArray) (a k : Nat), WdSt s L a k ∧ iv = .int .i64 k ∧ av = .int .i64 a ∧ OwnV Value.string wr w.heap.size 9 v L ∧ Below w.heap.size w wr) (fun _ _ i _ => s.size + 1 - (intOf i).toNat)
  case atStart => exact ⟨[], 0, 0, .inl ⟨by omega, by omega, by simp, rfl, by simp⟩, rfl, rfl, OwnV.nil _ _ _, Below.refl _ _⟩
  case round =>
    obtain ⟨L, a, k, hat, rfl, rfl, hown, hb⟩ := hrel
    have hk1 : k ≤ s.size + 1 := by rcases hat with ⟨h, _⟩ | ⟨h, _⟩ <;> omega
    have hak : a ≤ k := by rcases hat with ⟨_, h, _⟩ | ⟨_, h, _⟩ <;> omega
    have hLk : L.length ≤ k := by rcases hat with ⟨_, _, h, _⟩ | ⟨_, _, h, _⟩ <;> omega
    have HAT := Lib.hid hat
    have HB := Lib.hid hb
    clear hat hb
    by_cases hend : k = s.size + 1
    · have hv : wordsL s.data.toList = L.map (·.data.toList) := by
        rcases HAT.out with ⟨h, _⟩ | ⟨_, _, _, h⟩
        · omega
        · exact h
      have hlt : ¬ (k : Int) ≤ (s.size : Int) := by omega
      obtain ⟨A, cp, rfl, hsl⟩ := hown.sl
      have hcap := own_cap hown
      have HF : Hid (RetWc s.data.toList w (.returned (.slice A L.length cp)) wr) := Lib.hid (by
        have e1 : (wordsL s.data.toList).map wdV = L.map Value.string := by
          rw [hv, List.map_map]
          refine List.map_congr_left fun x _ => ?_
          show Value.string (bs x.data.toList) = _
          rw [bs_of']
        refine ⟨A, cp, by rw [hv, List.length_map], ?_, HB.out, by rw [hv, List.length_map]; exact hcap⟩
        unfold WdsAt
        rw [e1]
        exact hsl)
      clear hv hend hsl hown hcap
      go_wp2_with fail
      go_ret
      exact HF.out
    · by_cases hlast : k = s.size
      · subst hlast
        have HN := Lib.hid (wds_end HAT.out)
        clear hend
        have hle : (s.size : Int) ≤ (s.size : Int) := by omega
        have hq : ((s.size : Int) == (s.size : Int)) = true := by simp
        go_wp2_with (at_builtin; refine wpList_append_one (f := Value.string) _ rfl _ _ 58 rfl w.heap.size 9 Tryz.underlying58 strC_info rfl (by omega) _ _ wr (s.extract a s.size) rfl rfl rfl hown rfl (by omega) HB.out.size ?_; intro v2 w2 hown2 hg)
        go_roundw
        case rel => exact ⟨L ++ [s.extract a s.size], s.size + 1, s.size + 1, HN.out, by go_num, by go_num, hown2, HB.out.grown hg HB.out.size hown.ge_base⟩
        case measure => simp [intOf]
      · have hks : k < s.size := by omega
        have hq : ((k : Int) == (s.size : Int)) = false := by simp; omega
        have hle : (k : Int) ≤ (s.size : Int) := by omega
        clear hend hlast
        by_cases hc : s[k] = 32
        · have HN := Lib.hid (wds_blank HAT.out hks hc)
          have e1 : ((s[k].toNat : Int) == 32) = true := by rw [hc]; decide
          clear hc
          go_wp2_with (at_builtin; refine wpList_append_one (f := Value.string) _ rfl _ _ 58 rfl w.heap.size 9 Tryz.underlying58 strC_info rfl (by omega) _ _ wr (s.extract a k) rfl rfl rfl hown rfl (by omega) HB.out.size ?_; intro v2 w2 hown2 hg)
          go_roundw
          case rel => exact ⟨L ++ [s.extract a k], k + 1, k + 1, HN.out, by go_num, by go_num, hown2, HB.out.grown hg HB.out.size hown.ge_base⟩
          case measure => simp [intOf]; omega
        · have HN := Lib.hid (wds_more HAT.out hks hc)
          have e1 : ((s[k].toNat : Int) == 32) = false := by
            rw [beq_eq_false_iff_ne]
            intro e
            apply hc
            apply UInt8.toNat_inj.1
            have : s[k].toNat = 32 := by omega
            exact this
          clear hc
          go_wp2_with fail
          go_roundw
          case rel => exact ⟨L, a, k + 1, HN.out, by go_num, rfl, hown, HB.out⟩
          case measure => simp [intOf]; omega
end
section
open Go.RowKit Go.Maps

theorem words_ev (b : EvC) : wordsL (evT b) = evW b := words_line _ (by simp [evW]) (evW_no b)
theorem bdA_of {a : ActM} (h : ActR a.con) (hs : actSize a.con ≤ 100000) : ActBd a := by
  obtain ⟨h1, h2, h3⟩ := size_parts hs
  exact ⟨h.kind, h.who, h.n, h.call, h.other, h.node, ⟨by omega, fun s hq => by
    obtain ⟨k1, _, k3⟩ := h.srcs s.con (List.mem_map_of_mem (f := SrcM.con) hq)
    exact ⟨k1, by have := h3 s hq; omega, k3⟩⟩, ⟨by omega, h.groups⟩⟩
theorem evBd_of {a : EvM} (h : EvR a.con) (hs : actSize a.act.con ≤ 100000) (hb : a.ebody.length ≤ 1000000) : EvBd a :=
  ⟨h.kind, h.tick, h.who, h.call, h.epoch, h.n, h.eterm, h.ekind, hb, h.ord, h.sta, bdA_of h.act hs⟩
/-- the kind after m rounds. -/
def kindU (ws : List Wd) (m : Nat) : Int := match ws with
  | _ :: x :: _ => kindR evN x m
  | _ => 0
theorem kindU_zero (ws : List Wd) : kindU ws 0 = 0 := by
  match ws with
  | [] => rfl
  | [_] => rfl
  | _ :: _ :: _ => rfl
theorem kindU_end (ws : List Wd) : guessE ws = guessEK (kindU ws 13) ws ∧ 0 ≤ kindU ws 13 ∧ kindU ws 13 ≤ 13 := by
  match ws with
  | [] => exact ⟨rfl, Int.le_refl 0, by show (0 : Int) ≤ 13; decide⟩
  | [_] => exact ⟨rfl, Int.le_refl 0, by show (0 : Int) ≤ 13; decide⟩
  | _ :: x :: _ => exact ⟨rfl, kindR_range evN x 13⟩
set_option maxRecDepth 100000 in
set_option maxHeartbeats 16000000 in
theorem parse51_any (s : Wd) (hs : s.length ≤ 65536) (w : World) : Calls Tryz.prog 10 #[.string (bs s)] w (RetPe s w) := by
  obtain ⟨ZA, hZA⟩ : ∃ ZA : Array Value, ZA = #[.int .i64 0, .int .i64 0, .int .i64 0, .int .i64 0, .int .i64 0, .int .i64 0, .int .i64 0, .int .i64 0, .slice none 0 0, .int .i64 0, .int .i64 0, .int .i64 0, .int .i64 0, .int .i64 0, .int .i64 0, .int .i64 0, .int .i64 0, .int .i64 0, .int .i64 0, .int .i64 0, .int .i64 0, .int .i64 0, .int .i64 0, .int .i64 0, .int .i64 0, .slice none 0 0, .slice none 0 0, .slice none 0 0] := ⟨_, rfl⟩
  have HZ := Lib.hid (And.intro (show evV (EvM.zero 0 0) = .agg ZA by rw [hZA]; rfl) (And.intro (show Tryz.prog.built 35 [] = some ZA by rw [hZA]; rfl) (And.intro (show (Tryz.prog.info? 35).map (·.size) = some ZA.size by rw [hZA]; exact ev_size) (And.intro (show ZA.all (·.oneCell') = true by rw [hZA]; exact evCs_one (EvM.zero 0 0)) (show ∀ a : EvM, ZA.size = (evCs a).toArray.size by rw [hZA]; exact fun _ => rfl)))))
  obtain ⟨X0, hX0⟩ : ∃ X0, X0 = w.alloc (.cells #[.int .i64 0, .int .i64 0, .int .i64 0, .int .i64 0, .int .i64 0, .int .i64 0, .int .i64 0, .int .i64 0, .slice none 0 0, .int .i64 0, .int .i64 0, .int .i64 0, .int .i64 0, .int .i64 0, .int .i64 0, .int .i64 0, .int .i64 0, .int .i64 0, .int .i64 0, .int .i64 0, .int .i64 0, .int .i64 0, .int .i64 0, .int .i64 0, .int .i64 0, .slice none 0 0, .slice none 0 0, .slice none 0 0] 35) := ⟨_, rfl⟩
  have HB0 := Lib.hid (And.intro (show Below w.heap.size w X0 by rw [hX0]; exact below_new _ _) (show Blk X0 w.heap.size 35 ZA.toList by rw [hX0, hZA]; exact new_obj _ _))
  have HZS := Lib.hid (show ∀ a : EvM, (#[.int .i64 0, .int .i64 0, .int .i64 0, .int .i64 0, .int .i64 0, .int .i64 0, .int .i64 0, .int .i64 0, .slice none 0 0, .int .i64 0, .int .i64 0, .int .i64 0, .int .i64 0, .int .i64 0, .int .i64 0, .int .i64 0, .int .i64 0, .int .i64 0, .int .i64 0, .int .i64 0, .int .i64 0, .int .i64 0, .int .i64 0, .int .i64 0, .int .i64 0, .slice none 0 0, .slice none 0 0, .slice none 0 0] : Array Value).size = (evCs a).toArray.size from fun _ => rfl)
  have HWD : Hid (Calls Tryz.prog 31 #[.string (bs s)] X0 (RetWc s X0)) := Lib.hid (by
    have h := words51_cap (bs s) (by rw [bs_size]; omega) X0
    rw [bs_data] at h
    exact h)
  have HWL := Lib.hid (And.intro (show (wordsL s).length ≤ 65537 by have := wordsL_len s; omega) (show ∀ x ∈ wordsL s, x.length ≤ 65536 from fun x hx => by have := word_len hx; omega))
  obtain ⟨ws, hwe⟩ : ∃ ws, ws = wordsL s := ⟨_, rfl⟩
  have HSH : Hid ((∃ y, ws = [y]) ∨ ∃ y x r, ws = y :: x :: r) := Lib.hid (by
    match hq : ws with
    | [] => exact absurd hwe.symm (wordsL_ne s)
    | [y] => exact .inl ⟨y, rfl⟩
    | y :: x :: r => exact .inr ⟨y, x, r, rfl⟩)
  have HWS := Lib.hid (And.intro hwe hs)
  rw [← hwe] at HWL
  unfold RetWc at HWD
  rw [← hwe] at HWD
  obtain ⟨n, hnn⟩ : ∃ n, n = ws.length := ⟨_, rfl⟩
  have HNN := Lib.hid hnn
  have hn1 : n ≤ 65537 := by rw [hnn]; exact HWL.out.1
  rw [← hnn] at HWD
  obtain ⟨S1, hS1⟩ : ∃ S, S = bs s := ⟨_, rfl⟩
  have HS1 := Lib.hid hS1
  rw [← hS1] at HWD ⊢
  clear hs hwe hnn hS1 hZA
  go_enter Tryz.func10, Tryz.ntmps10
  go_wp2_with fail
  rw [← hX0]
  clear hX0
  refine HWD.out.mono ?_
  rintro e X1 ⟨A, c, rfl, hat, hb1, hcap⟩
  have HHD0 : Hid (∃ x, ws[0]? = some x) := Lib.hid (by
    rcases HSH.out with ⟨y, e⟩ | ⟨y, x, r, e⟩ <;> exact ⟨y, by rw [e]; rfl⟩)
  obtain ⟨x0, hx0⟩ := HHD0.out
  obtain ⟨b, o, rfl, hb, _⟩ := hat.at hx0
  clear hx0
  have HAT := Lib.hid (fun (j : Nat) (X : World) (hX : Below X1.heap.size X1 X) => at51_any ws (some ⟨b, o, none⟩) c j X X1.heap.size (Sl.below hat hX) (fun x hx => Nat.le_trans (HWL.out.2 x hx) (by decide)) (by have := HWL.out.1; omega))
  rw [← HNN.out] at HAT
  have HWA := Lib.hid hat
  have HCP := Lib.hid hcap
  have HB1 := Lib.hid (And.intro (HB0.out.1.trans (hb1.mono HB0.out.1.size)) (HB0.out.2.next hb1))
  have HA0 := Lib.hid (HAT.out 0 X1 (Below.refl _ _))
  obtain ⟨v0, hv0⟩ : ∃ v, v = atR ws 0 := ⟨_, rfl⟩
  have HV0 := Lib.hid hv0
  rw [← hv0] at HA0
  obtain ⟨D0, hD0⟩ : ∃ D, D = (evCs (EvM.zero 0 v0)).toArray := ⟨_, rfl⟩
  have HD0 := Lib.hid (And.intro (show Tryz.prog.built 35 [(1, .int .i64 v0)] = some D0 by rw [hD0]; rfl) (And.intro (show (Tryz.prog.info? 35).map (·.size) = some D0.size by rw [hD0]; exact ev_size) (And.intro (show (#[.int .i64 0, .int .i64 0, .int .i64 0, .int .i64 0, .int .i64 0, .int .i64 0, .int .i64 0, .int .i64 0, .slice none 0 0, .int .i64 0, .int .i64 0, .int .i64 0, .int .i64 0, .int .i64 0, .int .i64 0, .int .i64 0, .int .i64 0, .int .i64 0, .int .i64 0, .int .i64 0, .int .i64 0, .int .i64 0, .int .i64 0, .int .i64 0, .int .i64 0, .slice none 0 0, .slice none 0 0, .slice none 0 0] : Array Value).size = D0.size by rw [hD0]; exact HZS.out _) (show D0.all (·.oneCell') = true by rw [hD0]; exact evCs_one _))))
  have HOY := Lib.hid (new_obj X1 (.cells #[.int .i64 0, .int .i64 0, .int .i64 0, .int .i64 0, .int .i64 0, .int .i64 0, .int .i64 0, .int .i64 0, .slice none 0 0, .int .i64 0, .int .i64 0, .int .i64 0, .int .i64 0, .int .i64 0, .int .i64 0, .int .i64 0, .int .i64 0, .int .i64 0, .int .i64 0, .int .i64 0, .int .i64 0, .int .i64 0, .int .i64 0, .int .i64 0, .int .i64 0, .slice none 0 0, .slice none 0 0, .slice none 0 0] 35))
  obtain ⟨X2, hX2⟩ : ∃ X, X = X1.alloc (.cells D0 35) := ⟨_, rfl⟩
  have HSR := Lib.hid (show (X1.alloc (.cells #[.int .i64 0, .int .i64 0, .int .i64 0, .int .i64 0, .int .i64 0, .int .i64 0, .int .i64 0, .int .i64 0, .slice none 0 0, .int .i64 0, .int .i64 0, .int .i64 0, .int .i64 0, .int .i64 0, .int .i64 0, .int .i64 0, .int .i64 0, .int .i64 0, .int .i64 0, .int .i64 0, .int .i64 0, .int .i64 0, .int .i64 0, .int .i64 0, .int .i64 0, .slice none 0 0, .slice none 0 0, .slice none 0 0] 35)).setRow X1.heap.size D0 = X2 by rw [hX2]; exact World.setRow_alloc_new X1 _ D0 35)
  have HX2 := Lib.hid (And.intro (show Below X1.heap.size X1 X2 by rw [hX2]; exact below_new _ _) (show Blk X2 X1.heap.size 35 (evCs (EvM.zero 0 v0)) by rw [hX2, hD0]; exact new_obj _ _))
  have HEA := Lib.hid (fun (k : Int) (X : World) => evWord_any k X)
  clear hat hb hb1 hcap hv0 hD0 hX2 HWD
  go_wp2_with fail
  refine HA0.out.mono ?_
  rintro e Y ⟨rfl, hY⟩
  rw [hY]
  clear hY Y HA0
  go_wp2_with (first | ((with_reducible refine wpList_at 16 rfl ?_); refine wpList_build_v rfl 35 #[(1, .tmp 15)] rfl D0 [(1, .int .i64 v0)] (by rw [Array.toList_map]; rfl) HD0.out.1 ?_) | ((with_reducible refine wpList_op (.store 35 (.tmp 5) (.tmp 16)) rfl ?_); refine wpList_store_row rfl 35 (.tmp 5) (.tmp 16) rfl X1.heap.size D0 rfl rfl 35 _ HOY.out HD0.out.2.1 HD0.out.2.2.1 HD0.out.2.2.2 ?_; rw [HSR.out]))
  go_loopw [6] (fun jv X => ∃ m : Nat, m ≤ 13 ∧ jv = .int .i64 ((m : Int) + 1) ∧ Blk X X1.heap.size 35 (evCs (EvM.zero (kindU ws m) v0)) ∧ Blk X w.heap.size 35 ZA.toList ∧ Below X1.heap.size X1 X) (fun jv _ => 14 - (intOf jv).toNat)
  case atStart => exact ⟨0, Nat.zero_le _, rfl, by rw [kindU_zero]; exact HX2.out.2, HB1.out.2.next HX2.out.1, HX2.out.1⟩
  case round =>
    obtain ⟨m, hm, rfl, hba, hbr, hbl⟩ := hrel
    have HW := Lib.hid (And.intro hba (And.intro hbr hbl))
    clear hba hbr hbl
    by_cases hlt : m < 13
    · have hlt' : (m : Int) + 1 ≤ 13 := by omega
      rcases HSH.out with ⟨y, hws⟩ | ⟨y, x, r, hws⟩
      · have HN1 := Lib.hid hws
        have hn2' : decide ((1 : Int) < (n : Int)) = false := decide_eq_false (by rw [HNN.out, hws]; simp)
        clear hws
        have HHD := Lib.hid (show Below wr.heap.size wr wr.drew from below_dr (Below.refl _ _) 1)
        go_wp2_with fail
        refine wp_region_held_drew (S := fun W' => Below wr.heap.size wr W') (by kernel_rfl) HHD.out (fun hHeld => ?_)
        refine wpAnyH_take (i := 0) (v := .slice (some ⟨b, o, none⟩) n c) rfl (by kernel_rfl) (by kernel_rfl) (by kernel_rfl) (fun _ _ _ h => h) (Or.inl ⟨by rfl, ?_⟩) (by assumption) ?_
        · intro w' hSw
          go_simp
        show wpAnyH _ _ _ _ _ _ _ (Act.put _ (some 21) _) _
        simp only [Act.put, List.setIfInBounds_toArray, List.set_cons_zero, List.set_cons_succ]
        refine wpAnyH_take (i := 1) (v := .int .i64 n) rfl (by kernel_rfl) (by kernel_rfl) (by kernel_rfl) (fun _ _ _ h => h) (Or.inl ⟨by rfl, ?_⟩) (by assumption) ?_
        · intro w' hSw
          go_simp
        show wpAnyH _ _ _ _ _ _ _ (Act.put _ (some 22) _) _
        simp only [Act.put, List.setIfInBounds_toArray, List.set_cons_zero, List.set_cons_succ]
        refine wpAnyH_take (i := 2) (v := .bool false) rfl (by kernel_rfl) (by kernel_rfl) (by kernel_rfl) (fun _ _ _ h => h) (Or.inl ⟨by rfl, ?_⟩) (by assumption) ?_
        · intro w' hSw
          go_simp
        show wpAnyH _ _ _ _ _ _ _ (Act.put _ (some 23) _) _
        simp only [Act.put, List.setIfInBounds_toArray, List.set_cons_zero, List.set_cons_succ]
        refine wpAnyH_take (i := 3) (v := .bool false) rfl (by kernel_rfl) (by kernel_rfl) (by kernel_rfl) (fun _ _ _ h => h) (Or.inl ⟨by rfl, ?_⟩) (by assumption) ?_
        · intro w' hSw
          go_simp
        show wpAnyH _ _ _ _ _ _ _ (Act.put _ (some 24) _) _
        simp only [Act.put, List.setIfInBounds_toArray, List.set_cons_zero, List.set_cons_succ]
        refine wpAnyH_take (i := 4) (v := undef) rfl (by kernel_rfl) (by kernel_rfl) (by kernel_rfl) (fun _ _ _ h => h) (Or.inr ⟨by rfl, rfl⟩) (by assumption) ?_
        show wpAnyH _ _ _ _ _ _ _ (Act.put _ (some 25) _) _
        simp only [Act.put, List.setIfInBounds_toArray, List.set_cons_zero, List.set_cons_succ]
        refine wpAnyH_take (i := 5) (v := undef) rfl (by kernel_rfl) (by kernel_rfl) (by kernel_rfl) (fun _ _ _ h => h) (Or.inr ⟨by rfl, rfl⟩) (by assumption) ?_
        show wpAnyH _ _ _ _ _ _ _ (Act.put _ (some 26) _) _
        simp only [Act.put, List.setIfInBounds_toArray, List.set_cons_zero, List.set_cons_succ]
        refine wpAnyH_take (i := 6) (v := undef) rfl (by kernel_rfl) (by kernel_rfl) (by kernel_rfl) (fun _ _ _ h => h) (Or.inr ⟨by rfl, rfl⟩) (by assumption) ?_
        show wpAnyH _ _ _ _ _ _ _ (Act.put _ (some 27) _) _
        simp only [Act.put, List.setIfInBounds_toArray, List.set_cons_zero, List.set_cons_succ]
        refine wpAnyH_take (i := 7) (v := undef) rfl (by kernel_rfl) (by kernel_rfl) (by kernel_rfl) (fun _ _ _ h => h) (Or.inr ⟨by rfl, rfl⟩) (by assumption) ?_
        show wpAnyH _ _ _ _ _ _ _ (Act.put _ (some 28) _) _
        simp only [Act.put, List.setIfInBounds_toArray, List.set_cons_zero, List.set_cons_succ]
        refine wpAnyH_take (i := 8) (v := undef) rfl (by kernel_rfl) (by kernel_rfl) (by kernel_rfl) (fun _ _ _ h => h) (Or.inr ⟨by rfl, rfl⟩) (by assumption) ?_
        show wpAnyH _ _ _ _ _ _ _ (Act.put _ (some 29) _) _
        simp only [Act.put, List.setIfInBounds_toArray, List.set_cons_zero, List.set_cons_succ]
        refine wpAnyH_take (i := 9) (v := undef) rfl (by kernel_rfl) (by kernel_rfl) (by kernel_rfl) (fun _ _ _ h => h) (Or.inr ⟨by rfl, rfl⟩) (by assumption) ?_
        show wpAnyH _ _ _ _ _ _ _ (Act.put _ (some 30) _) _
        simp only [Act.put, List.setIfInBounds_toArray, List.set_cons_zero, List.set_cons_succ]
        refine wpAnyH_take (i := 10) (v := .bool false) rfl (by kernel_rfl) (by kernel_rfl) (by kernel_rfl) (fun _ _ _ h => h) (Or.inl ⟨by rfl, ?_⟩) (by assumption) ?_
        · intro w' hSw
          go_simp
        show wpAnyH _ _ _ _ _ _ _ (Act.put _ (some 31) _) _
        simp only [Act.put, List.setIfInBounds_toArray, List.set_cons_zero, List.set_cons_succ]
        refine wpAnyH_done (by kernel_rfl) ?_ _
        have HBA := Lib.hid (HW.out.1.next HHD.out)
        have HBR := Lib.hid (HW.out.2.1.next HHD.out)
        have HBL := Lib.hid (HW.out.2.2.trans (HHD.out.mono HW.out.2.2.size))
        go_wp2_with fail
        go_roundw
        case rel => exact ⟨m + 1, by omega, by go_num, by have h1 := HBA.out; rw [HN1.out] at h1 ⊢; exact h1, HBR.out, HBL.out⟩
        case measure => simp [intOf]; omega
      have hcx0 : X1.cell? ⟨b, o + 1, none⟩ = some (.string (bs x)) ∧ b < X1.heap.size := by
        obtain ⟨b', o', e', hb', hc⟩ := (show WdsAt X1 X1.heap.size (some ⟨b, o, none⟩) ws from HWA.out).at (i := 1) (x := x) (by rw [hws]; rfl)
        injection e' with e'
        injection e' with e1 e2
        subst e1 e2
        exact ⟨hc, hb'⟩
      obtain ⟨hcx, hbx⟩ := hcx0
      have HKU := Lib.hid (show ∀ j : Nat, kindU ws j = kindR evN x j from fun j => by rw [hws]; rfl)
      have hn2' : (1 : Int) < (n : Int) := by rw [HNN.out, hws]; simp; omega
      clear hws
      have HHD := Lib.hid (show Below wr.heap.size wr wr.drew from below_dr (Below.refl _ _) 1)
      obtain ⟨s1, hs1⟩ : ∃ s, s = bs (evN ((m : Int) + 1)) := ⟨_, rfl⟩
      obtain ⟨s2, hs2⟩ : ∃ s, s = bs x := ⟨_, rfl⟩
      have HC0 := Lib.hid (show ∀ X : World, Below wr.heap.size wr X → X.cell? ⟨b, o + 1, none⟩ = some (.string s2) from fun X hX => by rw [hs2]; exact (((HW.out.2.2.trans (hX.mono HW.out.2.2.size))).cell (p := ⟨b, o + 1, none⟩) hbx).trans hcx)
      have HEQ := Lib.hid (show s1.toList = s2.toList ↔ evN ((m : Int) + 1) = x by rw [hs1, hs2]; exact bs_lists)
      have HAW1 := Lib.hid (fun X : World => HEA.out ((m : Int) + 1) X)
      rw [← hs1] at HAW1
      clear hs2 hs1 hbx hcx
      go_wp2_with fail
      by_cases he : s1.toList = s2.toList
      · have HE := Lib.hid (HEQ.out.1 he)
        refine wp_region_held_drew (S := fun W' => Below wr.heap.size wr W') (by kernel_rfl) HHD.out (fun hHeld => ?_)
        refine wpAnyH_take (i := 0) (v := .slice (some ⟨b, o, none⟩) n c) rfl (by kernel_rfl) (by kernel_rfl) (by kernel_rfl) (fun _ _ _ h => h) (Or.inl ⟨by rfl, ?_⟩) (by assumption) ?_
        · intro w' hSw
          go_simp
        show wpAnyH _ _ _ _ _ _ _ (Act.put _ (some 21) _) _
        simp only [Act.put, List.setIfInBounds_toArray, List.set_cons_zero, List.set_cons_succ]
        refine wpAnyH_take (i := 1) (v := .int .i64 n) rfl (by kernel_rfl) (by kernel_rfl) (by kernel_rfl) (fun _ _ _ h => h) (Or.inl ⟨by rfl, ?_⟩) (by assumption) ?_
        · intro w' hSw
          go_simp
        show wpAnyH _ _ _ _ _ _ _ (Act.put _ (some 22) _) _
        simp only [Act.put, List.setIfInBounds_toArray, List.set_cons_zero, List.set_cons_succ]
        refine wpAnyH_take (i := 2) (v := .bool true) rfl (by kernel_rfl) (by kernel_rfl) (by kernel_rfl) (fun _ _ _ h => h) (Or.inl ⟨by rfl, ?_⟩) (by assumption) ?_
        · intro w' hSw
          go_simp
        show wpAnyH _ _ _ _ _ _ _ (Act.put _ (some 23) _) _
        simp only [Act.put, List.setIfInBounds_toArray, List.set_cons_zero, List.set_cons_succ]
        refine wpAnyH_take (i := 3) (v := .bool true) rfl (by kernel_rfl) (by kernel_rfl) (by kernel_rfl) (fun _ _ _ h => h) (Or.inl ⟨by rfl, ?_⟩) (by assumption) ?_
        · intro w' hSw
          go_simp
        show wpAnyH _ _ _ _ _ _ _ (Act.put _ (some 24) _) _
        simp only [Act.put, List.setIfInBounds_toArray, List.set_cons_zero, List.set_cons_succ]
        refine wpAnyH_take (i := 4) (v := .int .i64 ((m : Int) + 1)) rfl (by kernel_rfl) (by kernel_rfl) (by kernel_rfl) (fun _ _ _ h => h) (Or.inl ⟨by rfl, ?_⟩) (by assumption) ?_
        · intro w' hSw
          go_simp
        show wpAnyH _ _ _ _ _ _ _ (Act.put _ (some 25) _) _
        simp only [Act.put, List.setIfInBounds_toArray, List.set_cons_zero, List.set_cons_succ]
        refine wpAnyH_take (i := 6) (v := .slice (some ⟨b, o, none⟩) n c) rfl (by kernel_rfl) (by kernel_rfl) (by kernel_rfl) (fun _ _ _ h => h) (Or.inl ⟨by rfl, ?_⟩) (by assumption) ?_
        · intro w' hSw
          go_simp
        show wpAnyH _ _ _ _ _ _ _ (Act.put _ (some 27) _) _
        simp only [Act.put, List.setIfInBounds_toArray, List.set_cons_zero, List.set_cons_succ]
        refine wpAnyH_take (i := 7) (v := .pointer (some ⟨b, o + 1, none⟩)) rfl (by kernel_rfl) (by kernel_rfl) (by kernel_rfl) (fun _ _ _ h => h) (Or.inl ⟨by rfl, ?_⟩) (by assumption) ?_
        · intro w' hSw
          go_simp
        show wpAnyH _ _ _ _ _ _ _ (Act.put _ (some 28) _) _
        simp only [Act.put, List.setIfInBounds_toArray, List.set_cons_zero, List.set_cons_succ]
        refine wpAnyH_take (i := 8) (v := .string s2) rfl (by kernel_rfl) (by kernel_rfl) (by kernel_rfl) (fun _ _ _ h => h) (Or.inl ⟨by rfl, ?_⟩) (by assumption) ?_
        · intro w' hSw
          have hc := HC0.out w' hSw
          go_simp
        show wpAnyH _ _ _ _ _ _ _ (Act.put _ (some 29) _) _
        simp only [Act.put, List.setIfInBounds_toArray, List.set_cons_zero, List.set_cons_succ]
        refine wpAnyH_ready (rs := [5]) (by kernel_rfl) (by simp) ?_
        refine AllReadyH.cons rfl (fun K hK => ?_) AllReadyH.nil
        go_simp
        refine (HAW1.out _).mono ?_
        rintro e Y1 ⟨rfl, hy1⟩
        go_simp
        refine hK.out _ _ (HHD.out.trans (hy1.mono HHD.out.size)) (fun hHeld => ?_)
        clear hK K
        have HY1 := Lib.hid hHeld
        clear hy1
        refine wpAnyH_take (i := 9) (v := .bool true) rfl (by kernel_rfl) (by kernel_rfl) (by kernel_rfl) (fun _ _ _ h => h) (Or.inl ⟨by rfl, ?_⟩) (by assumption) ?_
        · intro w' hSw
          go_simp
        show wpAnyH _ _ _ _ _ _ _ (Act.put _ (some 30) _) _
        simp only [Act.put, List.setIfInBounds_toArray, List.set_cons_zero, List.set_cons_succ]
        refine wpAnyH_take (i := 10) (v := .bool true) rfl (by kernel_rfl) (by kernel_rfl) (by kernel_rfl) (fun _ _ _ h => h) (Or.inl ⟨by rfl, ?_⟩) (by assumption) ?_
        · intro w' hSw
          go_simp
        show wpAnyH _ _ _ _ _ _ _ (Act.put _ (some 31) _) _
        simp only [Act.put, List.setIfInBounds_toArray, List.set_cons_zero, List.set_cons_succ]
        refine wpAnyH_done (by kernel_rfl) ?_ _
        have HBA := Lib.hid (HW.out.1.next HY1.out)
        have HBR := Lib.hid (HW.out.2.1.next HY1.out)
        have HBL := Lib.hid (HW.out.2.2.trans (HY1.out.mono HW.out.2.2.size))
        have hz := HBA.out.free 0
        have hy := HBA.out.cell (j := 0) rfl
        have hl3 := HBA.out.lt
        have HSET := Lib.hid (And.intro (HBA.out.set 0 (.int .i64 ((m : Int) + 1))) (And.intro (HBR.out.other (g := X1.heap.size) (by have := HB1.out.2.lt; omega) 0 (.int .i64 ((m : Int) + 1))) (HBL.out.setCell (p := ⟨X1.heap.size, 0, none⟩) (Nat.le_refl _) (.int .i64 ((m : Int) + 1)))))
        clear he
        go_wp2_with fail
        go_roundw
        case rel => exact ⟨m + 1, by omega, by go_num, by rw [HKU.out (m + 1), kindR_yes HE.out]; exact HSET.out.1, HSET.out.2.1, HSET.out.2.2⟩
        case measure => simp [intOf]; omega
      · have HE := Lib.hid (show ¬ evN ((m : Int) + 1) = x from fun q => he (HEQ.out.2 q))
        have hbq : (s1.toList == s2.toList) = false := beq_eq_false_iff_ne.2 he
        refine wp_region_held_drew (S := fun W' => Below wr.heap.size wr W') (by kernel_rfl) HHD.out (fun hHeld => ?_)
        refine wpAnyH_take (i := 0) (v := .slice (some ⟨b, o, none⟩) n c) rfl (by kernel_rfl) (by kernel_rfl) (by kernel_rfl) (fun _ _ _ h => h) (Or.inl ⟨by rfl, ?_⟩) (by assumption) ?_
        · intro w' hSw
          go_simp
        show wpAnyH _ _ _ _ _ _ _ (Act.put _ (some 21) _) _
        simp only [Act.put, List.setIfInBounds_toArray, List.set_cons_zero, List.set_cons_succ]
        refine wpAnyH_take (i := 1) (v := .int .i64 n) rfl (by kernel_rfl) (by kernel_rfl) (by kernel_rfl) (fun _ _ _ h => h) (Or.inl ⟨by rfl, ?_⟩) (by assumption) ?_
        · intro w' hSw
          go_simp
        show wpAnyH _ _ _ _ _ _ _ (Act.put _ (some 22) _) _
        simp only [Act.put, List.setIfInBounds_toArray, List.set_cons_zero, List.set_cons_succ]
        refine wpAnyH_take (i := 2) (v := .bool true) rfl (by kernel_rfl) (by kernel_rfl) (by kernel_rfl) (fun _ _ _ h => h) (Or.inl ⟨by rfl, ?_⟩) (by assumption) ?_
        · intro w' hSw
          go_simp
        show wpAnyH _ _ _ _ _ _ _ (Act.put _ (some 23) _) _
        simp only [Act.put, List.setIfInBounds_toArray, List.set_cons_zero, List.set_cons_succ]
        refine wpAnyH_take (i := 3) (v := .bool true) rfl (by kernel_rfl) (by kernel_rfl) (by kernel_rfl) (fun _ _ _ h => h) (Or.inl ⟨by rfl, ?_⟩) (by assumption) ?_
        · intro w' hSw
          go_simp
        show wpAnyH _ _ _ _ _ _ _ (Act.put _ (some 24) _) _
        simp only [Act.put, List.setIfInBounds_toArray, List.set_cons_zero, List.set_cons_succ]
        refine wpAnyH_take (i := 4) (v := .int .i64 ((m : Int) + 1)) rfl (by kernel_rfl) (by kernel_rfl) (by kernel_rfl) (fun _ _ _ h => h) (Or.inl ⟨by rfl, ?_⟩) (by assumption) ?_
        · intro w' hSw
          go_simp
        show wpAnyH _ _ _ _ _ _ _ (Act.put _ (some 25) _) _
        simp only [Act.put, List.setIfInBounds_toArray, List.set_cons_zero, List.set_cons_succ]
        refine wpAnyH_take (i := 6) (v := .slice (some ⟨b, o, none⟩) n c) rfl (by kernel_rfl) (by kernel_rfl) (by kernel_rfl) (fun _ _ _ h => h) (Or.inl ⟨by rfl, ?_⟩) (by assumption) ?_
        · intro w' hSw
          go_simp
        show wpAnyH _ _ _ _ _ _ _ (Act.put _ (some 27) _) _
        simp only [Act.put, List.setIfInBounds_toArray, List.set_cons_zero, List.set_cons_succ]
        refine wpAnyH_take (i := 7) (v := .pointer (some ⟨b, o + 1, none⟩)) rfl (by kernel_rfl) (by kernel_rfl) (by kernel_rfl) (fun _ _ _ h => h) (Or.inl ⟨by rfl, ?_⟩) (by assumption) ?_
        · intro w' hSw
          go_simp
        show wpAnyH _ _ _ _ _ _ _ (Act.put _ (some 28) _) _
        simp only [Act.put, List.setIfInBounds_toArray, List.set_cons_zero, List.set_cons_succ]
        refine wpAnyH_take (i := 8) (v := .string s2) rfl (by kernel_rfl) (by kernel_rfl) (by kernel_rfl) (fun _ _ _ h => h) (Or.inl ⟨by rfl, ?_⟩) (by assumption) ?_
        · intro w' hSw
          have hc := HC0.out w' hSw
          go_simp
        show wpAnyH _ _ _ _ _ _ _ (Act.put _ (some 29) _) _
        simp only [Act.put, List.setIfInBounds_toArray, List.set_cons_zero, List.set_cons_succ]
        refine wpAnyH_ready (rs := [5]) (by kernel_rfl) (by simp) ?_
        refine AllReadyH.cons rfl (fun K hK => ?_) AllReadyH.nil
        go_simp
        refine (HAW1.out _).mono ?_
        rintro e Y1 ⟨rfl, hy1⟩
        go_simp
        refine hK.out _ _ (HHD.out.trans (hy1.mono HHD.out.size)) (fun hHeld => ?_)
        clear hK K
        have HY1 := Lib.hid hHeld
        clear hy1
        refine wpAnyH_take (i := 9) (v := .bool false) rfl (by kernel_rfl) (by kernel_rfl) (by kernel_rfl) (fun _ _ _ h => h) (Or.inl ⟨by rfl, ?_⟩) (by assumption) ?_
        · intro w' hSw
          go_simp
        show wpAnyH _ _ _ _ _ _ _ (Act.put _ (some 30) _) _
        simp only [Act.put, List.setIfInBounds_toArray, List.set_cons_zero, List.set_cons_succ]
        refine wpAnyH_take (i := 10) (v := .bool false) rfl (by kernel_rfl) (by kernel_rfl) (by kernel_rfl) (fun _ _ _ h => h) (Or.inl ⟨by rfl, ?_⟩) (by assumption) ?_
        · intro w' hSw
          go_simp
        show wpAnyH _ _ _ _ _ _ _ (Act.put _ (some 31) _) _
        simp only [Act.put, List.setIfInBounds_toArray, List.set_cons_zero, List.set_cons_succ]
        refine wpAnyH_done (by kernel_rfl) ?_ _
        have HBA := Lib.hid (HW.out.1.next HY1.out)
        have HBR := Lib.hid (HW.out.2.1.next HY1.out)
        have HBL := Lib.hid (HW.out.2.2.trans (HY1.out.mono HW.out.2.2.size))
        clear he hbq
        go_wp2_with fail
        go_roundw
        case rel => exact ⟨m + 1, by omega, by go_num, by rw [HKU.out (m + 1), kindR_no HE.out, ← HKU.out m]; exact HBA.out, HBR.out, HBL.out⟩
        case measure => simp [intOf]; omega
    · obtain rfl : m = 13 := by omega
      obtain ⟨hge, hk0, hk1⟩ := kindU_end ws
      obtain ⟨k, hk⟩ : ∃ k, k = kindU ws 13 := ⟨_, rfl⟩
      rw [← hk] at HW hge hk0 hk1
      have HKG := Lib.hid hge
      have HKR := Lib.hid (show k = 0 ∨ k = 1 ∨ k = 2 ∨ k = 3 ∨ k = 4 ∨ k = 5 ∨ k = 6 ∨ k = 7 ∨ k = 8 ∨ k = 9 ∨ k = 10 ∨ k = 11 ∨ k = 12 ∨ k = 13 by omega)
      clear hk hge hk0 hk1
      have HA2 := Lib.hid (HAT.out 2 wr HW.out.2.2)
      obtain ⟨v2, hv2⟩ : ∃ v, v = atR ws 2 := ⟨_, rfl⟩
      have HV2 := Lib.hid hv2
      rw [← hv2] at HA2
      clear hv2
      have HA3 := Lib.hid (HAT.out 3 wr HW.out.2.2)
      obtain ⟨v3, hv3⟩ : ∃ v, v = atR ws 3 := ⟨_, rfl⟩
      have HV3 := Lib.hid hv3
      rw [← hv3] at HA3
      clear hv3
      have HA4 := Lib.hid (HAT.out 4 wr HW.out.2.2)
      obtain ⟨v4, hv4⟩ : ∃ v, v = atR ws 4 := ⟨_, rfl⟩
      have HV4 := Lib.hid hv4
      rw [← hv4] at HA4
      clear hv4
      have hz0 := HW.out.1.cell (j := 0) rfl
      go_wp2_with fail
      refine HA2.out.mono ?_
      rintro e Y ⟨rfl, hY⟩
      rw [hY]
      clear hY Y
      go_wp2_with fail
      refine HA3.out.mono ?_
      rintro e Y ⟨rfl, hY⟩
      rw [hY]
      clear hY Y
      go_wp2_with fail
      refine HA4.out.mono ?_
      rintro e Y ⟨rfl, hY⟩
      rw [hY]
      clear hY Y
      go_upto_block 2 with fail
      clear hz0
      go_cut [5] from 42 (fun v wx => v = .pointer (some ⟨X1.heap.size, 0, none⟩) ∧ ∃ M : EvM, M.con = guessE ws ∧ Blk wx X1.heap.size 35 (evCs M) ∧ Blk wx w.heap.size 35 ZA.toList ∧ EvO wx w.heap.size M ∧ Below X1.heap.size X1 wx)
      case first =>
        rcases HKR.out with rfl | rfl | rfl | rfl | rfl | rfl | rfl | rfl | rfl | rfl | rfl | rfl | rfl | rfl
        · have _k0 := True.intro
          have hl3 := HW.out.1.lt
          go_wp2_with fail
          go_meet
          case rel => exact ⟨rfl, (EvM.zero 0 v0), by rw [HKG.out]; rw [HV0.out]; rfl, HW.out.1, HW.out.2.1, ⟨ActO.kind _ _ _, OwnV.nil _ _ _, rfl, rfl, rfl⟩, HW.out.2.2⟩
        · have _k0 := True.intro
          by_cases h6 : n ≤ 2
          · have hl3 := HW.out.1.lt
            have d6 : decide ((2 : Int) < (n : Int)) = false := decide_eq_false (by omega)
            have H6 := Lib.hid (show ¬ 2 < ws.length by have := HNN.out; omega)
            clear h6
            go_wp2_with fail
            go_meet
            case rel => exact ⟨rfl, (EvM.zero 1 v0), by rw [HKG.out]; (show _ = ({ kindE 1 (atR ws 0) with act := if 2 < ws.length then guessA (ws.drop 2) else act0 } : EvC)); rw [if_neg H6.out, HV0.out]; rfl, HW.out.1, HW.out.2.1, ⟨ActO.kind _ _ _, OwnV.nil _ _ _, rfl, rfl, rfl⟩, HW.out.2.2⟩
          have d6 : decide ((2 : Int) < (n : Int)) = true := decide_eq_true (by omega)
          have h2n : 2 ≤ n := by omega
          have H2L := Lib.hid (show 2 < ws.length by have := HNN.out; omega)
          have HSL := Lib.hid (show Sl wr X1.heap.size (some ⟨b, o, none⟩) (ws.map wdV) from Sl.below HWA.out HW.out.2.2)
          have HMC := Lib.hid (show 2 < (ws.map wdV).length → 2 < c by rw [List.length_map, ← HNN.out]; have := HCP.out; omega)
          have HGS := Lib.hid (fun (A1 : Option Addr) (c1 : Nat) (h : Sl wr X1.heap.size A1 ((ws.map wdV).drop 2)) => show Calls Tryz.prog 34 #[.slice A1 (n - 2) c1] wr (RetG (ws.drop 2) wr) by
            have e : WdsAt wr wr.heap.size A1 (ws.drop 2) := by
              unfold WdsAt
              rw [List.map_drop]
              exact Sl.more h HW.out.2.2.size
            have h2 := guess51_any (ws.drop 2) A1 c1 wr e (fun x hx => Nat.le_trans (HWL.out.2 x (List.mem_of_mem_drop hx)) (by decide)) (by rw [List.length_drop]; have := HWL.out.1; omega) (by
              intro q
              have h3 := congrArg List.length q
              rw [List.length_drop] at h3
              have h4 := H2L.out
              rw [List.length_nil] at h3
              omega)
            rw [List.length_drop, ← HNN.out] at h2
            exact h2)
          have hl3 := HW.out.1.lt
          clear h6
          go_wp2_with ((with_reducible refine wpList_at 48 rfl ?_); refine wpList_cut _ rfl (.tmp 47) (.const (.int .i64 2)) 58 rfl 9 Tryz.underlying58 (by kernel_rfl) (by kernel_rfl) _ _ _ 2 rfl rfl h2n _ _ HSL.out HMC.out ?_; intro A1 c1 hA1 hc1 hc1' hn1 hn1'; have HG := Lib.hid (HGS.out A1 c1 hA1); clear hA1 hc1 hc1' hn1 hn1')
          refine HG.out.mono ?_
          rintro e Y ⟨a1, rfl, hcon, hown, hby⟩
          have HGC := Lib.hid hcon
          have HY := Lib.hid (And.intro (HW.out.1.next hby) (And.intro (HW.out.2.1.next hby) (And.intro (HW.out.2.2.trans (hby.mono HW.out.2.2.size)) (ActO.base (base' := w.heap.size) hown (Nat.le_trans HB1.out.1.size HW.out.2.2.size)))))
          clear hown hby hcon hl3 HG
          have HMI := Lib.hid (And.intro (show (Tryz.prog.info? 33).map (·.size) = some 8 by kernel_rfl) (show (#[.int .i64 a1.kind, .int .i64 a1.who, .int .i64 a1.n, .int .i64 a1.call, .int .i64 a1.other, .int .i64 a1.node, .slice a1.sA a1.srcs.length a1.sc, .slice a1.gA a1.groups.length a1.gc] : Array Value).all (·.oneCell') = true by simp [Value.oneCell']))
          have hl3 := HY.out.1.lt
          go_wp2_with ((with_reducible refine wpList_op (.store 33 (.tmp 50) (.tmp 49)) rfl ?_); refine wpList_store_to rfl 33 (.tmp 50) (.tmp 49) rfl X1.heap.size 19 #[.int .i64 a1.kind, .int .i64 a1.who, .int .i64 a1.n, .int .i64 a1.call, .int .i64 a1.other, .int .i64 a1.node, .slice a1.sA a1.srcs.length a1.sc, .slice a1.gA a1.groups.length a1.gc] rfl rfl (blk_there HY.out.1 (Nat.le_of_ble_eq_true rfl)) HMI.out.1 HMI.out.2 ((((((((Y.setCell ⟨X1.heap.size, 19, none⟩ (.int .i64 a1.kind)).setCell ⟨X1.heap.size, 20, none⟩ (.int .i64 a1.who)).setCell ⟨X1.heap.size, 21, none⟩ (.int .i64 a1.n)).setCell ⟨X1.heap.size, 22, none⟩ (.int .i64 a1.call)).setCell ⟨X1.heap.size, 23, none⟩ (.int .i64 a1.other)).setCell ⟨X1.heap.size, 24, none⟩ (.int .i64 a1.node)).setCell ⟨X1.heap.size, 25, none⟩ (.slice a1.sA a1.srcs.length a1.sc)).setCell ⟨X1.heap.size, 26, none⟩ (.slice a1.gA a1.groups.length a1.gc)) rfl ?_)
          go_meet
          case rel => exact ⟨rfl, ({ EvM.zero 1 v0 with act := a1 } : EvM), by rw [HKG.out]; (show _ = ({ kindE 1 (atR ws 0) with act := if 2 < ws.length then guessA (ws.drop 2) else act0 } : EvC)); rw [if_pos H2L.out, ← HGC.out, HV0.out]; rfl, ((((((((HY.out.1.set 19 (.int .i64 a1.kind)).set 20 (.int .i64 a1.who)).set 21 (.int .i64 a1.n)).set 22 (.int .i64 a1.call)).set 23 (.int .i64 a1.other)).set 24 (.int .i64 a1.node)).set 25 (.slice a1.sA a1.srcs.length a1.sc)).set 26 (.slice a1.gA a1.groups.length a1.gc)), ((((((((HY.out.2.1.other (g := X1.heap.size) (by have := HB1.out.2.lt; omega) 19 (.int .i64 a1.kind)).other (g := X1.heap.size) (by have := HB1.out.2.lt; omega) 20 (.int .i64 a1.who)).other (g := X1.heap.size) (by have := HB1.out.2.lt; omega) 21 (.int .i64 a1.n)).other (g := X1.heap.size) (by have := HB1.out.2.lt; omega) 22 (.int .i64 a1.call)).other (g := X1.heap.size) (by have := HB1.out.2.lt; omega) 23 (.int .i64 a1.other)).other (g := X1.heap.size) (by have := HB1.out.2.lt; omega) 24 (.int .i64 a1.node)).other (g := X1.heap.size) (by have := HB1.out.2.lt; omega) 25 (.slice a1.sA a1.srcs.length a1.sc)).other (g := X1.heap.size) (by have := HB1.out.2.lt; omega) 26 (.slice a1.gA a1.groups.length a1.gc)), ⟨((((((((HY.out.2.2.2.blk HY.out.1 ⟨by decide, by decide⟩ 19 (.int .i64 a1.kind)).blk (HY.out.1.set 19 (.int .i64 a1.kind)) ⟨by decide, by decide⟩ 20 (.int .i64 a1.who)).blk ((HY.out.1.set 19 (.int .i64 a1.kind)).set 20 (.int .i64 a1.who)) ⟨by decide, by decide⟩ 21 (.int .i64 a1.n)).blk (((HY.out.1.set 19 (.int .i64 a1.kind)).set 20 (.int .i64 a1.who)).set 21 (.int .i64 a1.n)) ⟨by decide, by decide⟩ 22 (.int .i64 a1.call)).blk ((((HY.out.1.set 19 (.int .i64 a1.kind)).set 20 (.int .i64 a1.who)).set 21 (.int .i64 a1.n)).set 22 (.int .i64 a1.call)) ⟨by decide, by decide⟩ 23 (.int .i64 a1.other)).blk (((((HY.out.1.set 19 (.int .i64 a1.kind)).set 20 (.int .i64 a1.who)).set 21 (.int .i64 a1.n)).set 22 (.int .i64 a1.call)).set 23 (.int .i64 a1.other)) ⟨by decide, by decide⟩ 24 (.int .i64 a1.node)).blk ((((((HY.out.1.set 19 (.int .i64 a1.kind)).set 20 (.int .i64 a1.who)).set 21 (.int .i64 a1.n)).set 22 (.int .i64 a1.call)).set 23 (.int .i64 a1.other)).set 24 (.int .i64 a1.node)) ⟨by decide, by decide⟩ 25 (.slice a1.sA a1.srcs.length a1.sc)).blk (((((((HY.out.1.set 19 (.int .i64 a1.kind)).set 20 (.int .i64 a1.who)).set 21 (.int .i64 a1.n)).set 22 (.int .i64 a1.call)).set 23 (.int .i64 a1.other)).set 24 (.int .i64 a1.node)).set 25 (.slice a1.sA a1.srcs.length a1.sc)) ⟨by decide, by decide⟩ 26 (.slice a1.gA a1.groups.length a1.gc)), OwnV.nil _ _ _, rfl, rfl, rfl⟩, ((((((((HY.out.2.2.1.setCell (p := ⟨X1.heap.size, 19, none⟩) (Nat.le_refl _) (.int .i64 a1.kind)).setCell (p := ⟨X1.heap.size, 20, none⟩) (Nat.le_refl _) (.int .i64 a1.who)).setCell (p := ⟨X1.heap.size, 21, none⟩) (Nat.le_refl _) (.int .i64 a1.n)).setCell (p := ⟨X1.heap.size, 22, none⟩) (Nat.le_refl _) (.int .i64 a1.call)).setCell (p := ⟨X1.heap.size, 23, none⟩) (Nat.le_refl _) (.int .i64 a1.other)).setCell (p := ⟨X1.heap.size, 24, none⟩) (Nat.le_refl _) (.int .i64 a1.node)).setCell (p := ⟨X1.heap.size, 25, none⟩) (Nat.le_refl _) (.slice a1.sA a1.srcs.length a1.sc)).setCell (p := ⟨X1.heap.size, 26, none⟩) (Nat.le_refl _) (.slice a1.gA a1.groups.length a1.gc))⟩
        · have _k0 := True.intro
          have hy3 := HW.out.1.cell (j := 3) rfl
          have hf3 := HW.out.1.free 3
          have hy2 := HW.out.1.cell (j := 2) rfl
          have hf2 := HW.out.1.free 2
          have hl3 := HW.out.1.lt
          go_wp2_with fail
          go_meet
          case rel => exact ⟨rfl, ({ EvM.zero 2 v0 with call := v2, who := v3 } : EvM), by rw [HKG.out]; rw [HV0.out, HV2.out, HV3.out]; rfl, ((HW.out.1.set 3 (.int .i64 v2)).set 2 (.int .i64 v3)), ((HW.out.2.1.other (g := X1.heap.size) (by have := HB1.out.2.lt; omega) 3 (.int .i64 v2)).other (g := X1.heap.size) (by have := HB1.out.2.lt; omega) 2 (.int .i64 v3)), ⟨ActO.kind _ _ _, OwnV.nil _ _ _, rfl, rfl, rfl⟩, ((HW.out.2.2.setCell (p := ⟨X1.heap.size, 3, none⟩) (Nat.le_refl _) (.int .i64 v2)).setCell (p := ⟨X1.heap.size, 2, none⟩) (Nat.le_refl _) (.int .i64 v3))⟩
        · have _k0 := True.intro
          have hy3 := HW.out.1.cell (j := 3) rfl
          have hf3 := HW.out.1.free 3
          have hy2 := HW.out.1.cell (j := 2) rfl
          have hf2 := HW.out.1.free 2
          have hy4 := HW.out.1.cell (j := 4) rfl
          have hf4 := HW.out.1.free 4
          have hl3 := HW.out.1.lt
          go_wp2_with fail
          go_meet
          case rel => exact ⟨rfl, ({ EvM.zero 3 v0 with call := v2, who := v3, epoch := v4 } : EvM), by rw [HKG.out]; rw [HV0.out, HV2.out, HV3.out, HV4.out]; rfl, (((HW.out.1.set 3 (.int .i64 v2)).set 2 (.int .i64 v3)).set 4 (.int .i64 v4)), (((HW.out.2.1.other (g := X1.heap.size) (by have := HB1.out.2.lt; omega) 3 (.int .i64 v2)).other (g := X1.heap.size) (by have := HB1.out.2.lt; omega) 2 (.int .i64 v3)).other (g := X1.heap.size) (by have := HB1.out.2.lt; omega) 4 (.int .i64 v4)), ⟨ActO.kind _ _ _, OwnV.nil _ _ _, rfl, rfl, rfl⟩, (((HW.out.2.2.setCell (p := ⟨X1.heap.size, 3, none⟩) (Nat.le_refl _) (.int .i64 v2)).setCell (p := ⟨X1.heap.size, 2, none⟩) (Nat.le_refl _) (.int .i64 v3)).setCell (p := ⟨X1.heap.size, 4, none⟩) (Nat.le_refl _) (.int .i64 v4))⟩
        · have _k0 := True.intro
          have hy3 := HW.out.1.cell (j := 3) rfl
          have hf3 := HW.out.1.free 3
          have hy5 := HW.out.1.cell (j := 5) rfl
          have hf5 := HW.out.1.free 5
          have hl3 := HW.out.1.lt
          go_wp2_with fail
          go_meet
          case rel => exact ⟨rfl, ({ EvM.zero 4 v0 with call := v2, n := v3 } : EvM), by rw [HKG.out]; rw [HV0.out, HV2.out, HV3.out]; rfl, ((HW.out.1.set 3 (.int .i64 v2)).set 5 (.int .i64 v3)), ((HW.out.2.1.other (g := X1.heap.size) (by have := HB1.out.2.lt; omega) 3 (.int .i64 v2)).other (g := X1.heap.size) (by have := HB1.out.2.lt; omega) 5 (.int .i64 v3)), ⟨ActO.kind _ _ _, OwnV.nil _ _ _, rfl, rfl, rfl⟩, ((HW.out.2.2.setCell (p := ⟨X1.heap.size, 3, none⟩) (Nat.le_refl _) (.int .i64 v2)).setCell (p := ⟨X1.heap.size, 5, none⟩) (Nat.le_refl _) (.int .i64 v3))⟩
        · have _k0 := True.intro
          have hy3 := HW.out.1.cell (j := 3) rfl
          have hf3 := HW.out.1.free 3
          have hl3 := HW.out.1.lt
          go_wp2_with fail
          go_meet
          case rel => exact ⟨rfl, ({ EvM.zero 5 v0 with call := v2 } : EvM), by rw [HKG.out]; rw [HV0.out, HV2.out]; rfl, (HW.out.1.set 3 (.int .i64 v2)), (HW.out.2.1.other (g := X1.heap.size) (by have := HB1.out.2.lt; omega) 3 (.int .i64 v2)), ⟨ActO.kind _ _ _, OwnV.nil _ _ _, rfl, rfl, rfl⟩, (HW.out.2.2.setCell (p := ⟨X1.heap.size, 3, none⟩) (Nat.le_refl _) (.int .i64 v2))⟩
        · have _k0 := True.intro
          have hy3 := HW.out.1.cell (j := 3) rfl
          have hf3 := HW.out.1.free 3
          have hy2 := HW.out.1.cell (j := 2) rfl
          have hf2 := HW.out.1.free 2
          have hy4 := HW.out.1.cell (j := 4) rfl
          have hf4 := HW.out.1.free 4
          have hl3 := HW.out.1.lt
          go_wp2_with fail
          go_meet
          case rel => exact ⟨rfl, ({ EvM.zero 6 v0 with call := v2, who := v3, epoch := v4 } : EvM), by rw [HKG.out]; rw [HV0.out, HV2.out, HV3.out, HV4.out]; rfl, (((HW.out.1.set 3 (.int .i64 v2)).set 2 (.int .i64 v3)).set 4 (.int .i64 v4)), (((HW.out.2.1.other (g := X1.heap.size) (by have := HB1.out.2.lt; omega) 3 (.int .i64 v2)).other (g := X1.heap.size) (by have := HB1.out.2.lt; omega) 2 (.int .i64 v3)).other (g := X1.heap.size) (by have := HB1.out.2.lt; omega) 4 (.int .i64 v4)), ⟨ActO.kind _ _ _, OwnV.nil _ _ _, rfl, rfl, rfl⟩, (((HW.out.2.2.setCell (p := ⟨X1.heap.size, 3, none⟩) (Nat.le_refl _) (.int .i64 v2)).setCell (p := ⟨X1.heap.size, 2, none⟩) (Nat.le_refl _) (.int .i64 v3)).setCell (p := ⟨X1.heap.size, 4, none⟩) (Nat.le_refl _) (.int .i64 v4))⟩
        · have _k0 := True.intro
          have HA5 := Lib.hid (HAT.out 5 wr HW.out.2.2)
          obtain ⟨v5, hv5⟩ : ∃ v, v = atR ws 5 := ⟨_, rfl⟩
          have HV5 := Lib.hid hv5
          rw [← hv5] at HA5
          clear hv5
          by_cases h6 : n ≤ 6
          · have hy2 := HW.out.1.cell (j := 2) rfl
            have hf2 := HW.out.1.free 2
            have hy5 := HW.out.1.cell (j := 5) rfl
            have hf5 := HW.out.1.free 5
            have hy6 := HW.out.1.cell (j := 6) rfl
            have hf6 := HW.out.1.free 6
            have hy7 := HW.out.1.cell (j := 7) rfl
            have hf7 := HW.out.1.free 7
            have hl3 := HW.out.1.lt
            have d6 : decide ((6 : Int) < (n : Int)) = false := decide_eq_false (by omega)
            have H6 := Lib.hid (show ws[6]? = none from List.getElem?_eq_none (by rw [← HNN.out]; exact h6))
            clear h6
            go_wp2_with fail
            refine HA5.out.mono ?_
            rintro e Y ⟨rfl, hY⟩
            rw [hY]
            clear hY Y
            go_wp2_with fail
            go_meet
            case rel => exact ⟨rfl, ({ EvM.zero 7 v0 with who := v2, n := v3, eterm := v4, ekind := v5 } : EvM), by rw [HKG.out]; (show _ = ({ kindE 7 (atR ws 0) with who := atR ws 2, n := atR ws 3, eterm := atR ws 4, ekind := atR ws 5, ebody := match ws[6]? with | some x => unhexR x | none => [] } : EvC)); rw [H6.out, HV0.out, HV2.out, HV3.out, HV4.out, HV5.out]; rfl, ((((HW.out.1.set 2 (.int .i64 v2)).set 5 (.int .i64 v3)).set 6 (.int .i64 v4)).set 7 (.int .i64 v5)), ((((HW.out.2.1.other (g := X1.heap.size) (by have := HB1.out.2.lt; omega) 2 (.int .i64 v2)).other (g := X1.heap.size) (by have := HB1.out.2.lt; omega) 5 (.int .i64 v3)).other (g := X1.heap.size) (by have := HB1.out.2.lt; omega) 6 (.int .i64 v4)).other (g := X1.heap.size) (by have := HB1.out.2.lt; omega) 7 (.int .i64 v5)), ⟨ActO.kind _ _ _, OwnV.nil _ _ _, rfl, rfl, rfl⟩, ((((HW.out.2.2.setCell (p := ⟨X1.heap.size, 2, none⟩) (Nat.le_refl _) (.int .i64 v2)).setCell (p := ⟨X1.heap.size, 5, none⟩) (Nat.le_refl _) (.int .i64 v3)).setCell (p := ⟨X1.heap.size, 6, none⟩) (Nat.le_refl _) (.int .i64 v4)).setCell (p := ⟨X1.heap.size, 7, none⟩) (Nat.le_refl _) (.int .i64 v5))⟩
          obtain ⟨x6, hx6⟩ : ∃ x, ws[6]? = some x := ⟨ws[6]'(by have := HNN.out; omega), by simp⟩
          have d6 : decide ((6 : Int) < (n : Int)) = true := decide_eq_true (by omega)
          have hi6 : (6 : Int) < (n : Int) := by omega
          have HX6 := Lib.hid hx6
          have HU := Lib.hid (show Blk ((((wr.setCell ⟨X1.heap.size, 2, none⟩ (.int .i64 v2)).setCell ⟨X1.heap.size, 5, none⟩ (.int .i64 v3)).setCell ⟨X1.heap.size, 6, none⟩ (.int .i64 v4)).setCell ⟨X1.heap.size, 7, none⟩ (.int .i64 v5)) X1.heap.size 35 (evCs ({ EvM.zero 7 v0 with who := v2, n := v3, eterm := v4, ekind := v5 } : EvM)) ∧ Blk ((((wr.setCell ⟨X1.heap.size, 2, none⟩ (.int .i64 v2)).setCell ⟨X1.heap.size, 5, none⟩ (.int .i64 v3)).setCell ⟨X1.heap.size, 6, none⟩ (.int .i64 v4)).setCell ⟨X1.heap.size, 7, none⟩ (.int .i64 v5)) w.heap.size 35 ZA.toList ∧ Below X1.heap.size X1 ((((wr.setCell ⟨X1.heap.size, 2, none⟩ (.int .i64 v2)).setCell ⟨X1.heap.size, 5, none⟩ (.int .i64 v3)).setCell ⟨X1.heap.size, 6, none⟩ (.int .i64 v4)).setCell ⟨X1.heap.size, 7, none⟩ (.int .i64 v5)) from ⟨((((HW.out.1.set 2 (.int .i64 v2)).set 5 (.int .i64 v3)).set 6 (.int .i64 v4)).set 7 (.int .i64 v5)), ((((HW.out.2.1.other (g := X1.heap.size) (by have := HB1.out.2.lt; omega) 2 (.int .i64 v2)).other (g := X1.heap.size) (by have := HB1.out.2.lt; omega) 5 (.int .i64 v3)).other (g := X1.heap.size) (by have := HB1.out.2.lt; omega) 6 (.int .i64 v4)).other (g := X1.heap.size) (by have := HB1.out.2.lt; omega) 7 (.int .i64 v5)), ((((HW.out.2.2.setCell (p := ⟨X1.heap.size, 2, none⟩) (Nat.le_refl _) (.int .i64 v2)).setCell (p := ⟨X1.heap.size, 5, none⟩) (Nat.le_refl _) (.int .i64 v3)).setCell (p := ⟨X1.heap.size, 6, none⟩) (Nat.le_refl _) (.int .i64 v4)).setCell (p := ⟨X1.heap.size, 7, none⟩) (Nat.le_refl _) (.int .i64 v5))⟩)
          have hc6 : ((((wr.setCell ⟨X1.heap.size, 2, none⟩ (.int .i64 v2)).setCell ⟨X1.heap.size, 5, none⟩ (.int .i64 v3)).setCell ⟨X1.heap.size, 6, none⟩ (.int .i64 v4)).setCell ⟨X1.heap.size, 7, none⟩ (.int .i64 v5)).cell? ⟨b, o + 6, none⟩ = some (.string (bs x6)) := by
            obtain ⟨b', o', e', hb', hc⟩ := (show WdsAt X1 X1.heap.size (some ⟨b, o, none⟩) ws from HWA.out).at hx6
            injection e' with e'
            injection e' with e1 e2
            subst e1 e2
            exact (HU.out.2.2.cell (p := ⟨b, o + 6, none⟩) hb').trans hc
          have HUN := Lib.hid (unhex51_any x6 (Nat.le_trans (HWL.out.2 x6 (List.mem_of_getElem? hx6)) (by decide)) ((((wr.setCell ⟨X1.heap.size, 2, none⟩ (.int .i64 v2)).setCell ⟨X1.heap.size, 5, none⟩ (.int .i64 v3)).setCell ⟨X1.heap.size, 6, none⟩ (.int .i64 v4)).setCell ⟨X1.heap.size, 7, none⟩ (.int .i64 v5)))
          obtain ⟨L, hL⟩ : ∃ L, L = unhexR x6 := ⟨_, rfl⟩
          have HLL := Lib.hid hL
          rw [← hL] at HUN
          have hy2 := HW.out.1.cell (j := 2) rfl
          have hf2 := HW.out.1.free 2
          have hy5 := HW.out.1.cell (j := 5) rfl
          have hf5 := HW.out.1.free 5
          have hy6 := HW.out.1.cell (j := 6) rfl
          have hf6 := HW.out.1.free 6
          have hy7 := HW.out.1.cell (j := 7) rfl
          have hf7 := HW.out.1.free 7
          have hl3 := HW.out.1.lt
          clear h6 hx6 hL
          go_wp2_with fail
          refine HA5.out.mono ?_
          rintro e Y ⟨rfl, hY⟩
          rw [hY]
          clear hY Y
          go_wp2_with fail
          refine HUN.out.mono ?_
          rintro e Y ⟨B, d, rfl, hown, hby⟩
          have HY := Lib.hid (And.intro (HU.out.1.next hby) (And.intro (HU.out.2.1.next hby) (And.intro (HU.out.2.2.trans (hby.mono HU.out.2.2.size)) (OwnV.base_le (base' := w.heap.size) hown (Nat.le_trans HB1.out.1.size HU.out.2.2.size)))))
          clear hown hby hc6 hy2 hf2 hy5 hf5 hy6 hf6 hy7 hf7 hl3
          have hy8 := HY.out.1.cell (j := 8) rfl
          have hf8 := HY.out.1.free 8
          have hl8 := HY.out.1.lt
          go_wp2_with fail
          go_meet
          case rel => exact ⟨rfl, ({ EvM.zero 7 v0 with who := v2, n := v3, eterm := v4, ekind := v5, eA := B, ec := d, ebody := L } : EvM), by rw [HKG.out]; (show _ = ({ kindE 7 (atR ws 0) with who := atR ws 2, n := atR ws 3, eterm := atR ws 4, ekind := atR ws 5, ebody := match ws[6]? with | some x => unhexR x | none => [] } : EvC)); rw [HX6.out, HV0.out, HV2.out, HV3.out, HV4.out, HV5.out, HLL.out]; rfl, (HY.out.1.set 8 (.slice B L.length d)), (HY.out.2.1.other (g := X1.heap.size) (by have := HB1.out.2.lt; omega) 8 (.slice B L.length d)), ⟨ActO.kind _ _ _, own_blk HY.out.2.2.2 HY.out.1 (by decide) 8 (.slice B L.length d), rfl, rfl, rfl⟩, (HY.out.2.2.1.setCell (p := ⟨X1.heap.size, 8, none⟩) (Nat.le_refl _) (.slice B L.length d))⟩
        · have _k0 := True.intro
          have HA5 := Lib.hid (HAT.out 5 wr HW.out.2.2)
          obtain ⟨v5, hv5⟩ : ∃ v, v = atR ws 5 := ⟨_, rfl⟩
          have HV5 := Lib.hid hv5
          rw [← hv5] at HA5
          clear hv5
          have HA6 := Lib.hid (HAT.out 6 wr HW.out.2.2)
          obtain ⟨v6, hv6⟩ : ∃ v, v = atR ws 6 := ⟨_, rfl⟩
          have HV6 := Lib.hid hv6
          rw [← hv6] at HA6
          clear hv6
          have HA7 := Lib.hid (HAT.out 7 wr HW.out.2.2)
          obtain ⟨v7, hv7⟩ : ∃ v, v = atR ws 7 := ⟨_, rfl⟩
          have HV7 := Lib.hid hv7
          rw [← hv7] at HA7
          clear hv7
          have HBO := Lib.hid (show Tryz.prog.built 27 [(0, .int .i64 v3), (1, .int .i64 v4), (2, .int .i64 v5), (3, .int .i64 v6), (4, .int .i64 v7)] = some #[.int .i64 v3, .int .i64 v4, .int .i64 v5, .int .i64 v6, .int .i64 v7] from rfl)
          have HMI := Lib.hid (And.intro (show (Tryz.prog.info? 27).map (·.size) = some 5 by kernel_rfl) (show (#[.int .i64 v3, .int .i64 v4, .int .i64 v5, .int .i64 v6, .int .i64 v7] : Array Value).all (·.oneCell') = true by simp [Value.oneCell']))
          have hy2 := HW.out.1.cell (j := 2) rfl
          have hf2 := HW.out.1.free 2
          have hl3 := HW.out.1.lt
          go_wp2_with fail
          refine HA5.out.mono ?_
          rintro e Y ⟨rfl, hY⟩
          rw [hY]
          clear hY Y
          go_wp2_with fail
          refine HA6.out.mono ?_
          rintro e Y ⟨rfl, hY⟩
          rw [hY]
          clear hY Y
          go_wp2_with fail
          refine HA7.out.mono ?_
          rintro e Y ⟨rfl, hY⟩
          rw [hY]
          clear hY Y
          go_wp2_with (first | ((with_reducible refine wpList_at 109 rfl ?_); refine wpList_build_v rfl 27 #[(0, .tmp 101), (1, .tmp 102), (2, .tmp 104), (3, .tmp 106), (4, .tmp 108)] rfl #[.int .i64 v3, .int .i64 v4, .int .i64 v5, .int .i64 v6, .int .i64 v7] [(0, .int .i64 v3), (1, .int .i64 v4), (2, .int .i64 v5), (3, .int .i64 v6), (4, .int .i64 v7)] (by rw [Array.toList_map]; rfl) HBO.out ?_) | ((with_reducible refine wpList_op (.store 27 (.tmp 111) (.tmp 109)) rfl ?_); refine wpList_store_to rfl 27 (.tmp 111) (.tmp 109) rfl X1.heap.size 9 #[.int .i64 v3, .int .i64 v4, .int .i64 v5, .int .i64 v6, .int .i64 v7] rfl rfl (blk_there (HW.out.1.set 2 (.int .i64 v2)) (Nat.le_of_ble_eq_true rfl)) HMI.out.1 HMI.out.2 ((((((wr.setCell ⟨X1.heap.size, 2, none⟩ (.int .i64 v2)).setCell ⟨X1.heap.size, 9, none⟩ (.int .i64 v3)).setCell ⟨X1.heap.size, 10, none⟩ (.int .i64 v4)).setCell ⟨X1.heap.size, 11, none⟩ (.int .i64 v5)).setCell ⟨X1.heap.size, 12, none⟩ (.int .i64 v6)).setCell ⟨X1.heap.size, 13, none⟩ (.int .i64 v7)) rfl ?_))
          go_meet
          case rel => exact ⟨rfl, ({ EvM.zero 8 v0 with who := v2, ord := ⟨v3, v4, v5, v6, v7⟩ } : EvM), by rw [HKG.out]; rw [HV0.out, HV2.out, HV3.out, HV4.out, HV5.out, HV6.out, HV7.out]; rfl, ((((((HW.out.1.set 2 (.int .i64 v2)).set 9 (.int .i64 v3)).set 10 (.int .i64 v4)).set 11 (.int .i64 v5)).set 12 (.int .i64 v6)).set 13 (.int .i64 v7)), ((((((HW.out.2.1.other (g := X1.heap.size) (by have := HB1.out.2.lt; omega) 2 (.int .i64 v2)).other (g := X1.heap.size) (by have := HB1.out.2.lt; omega) 9 (.int .i64 v3)).other (g := X1.heap.size) (by have := HB1.out.2.lt; omega) 10 (.int .i64 v4)).other (g := X1.heap.size) (by have := HB1.out.2.lt; omega) 11 (.int .i64 v5)).other (g := X1.heap.size) (by have := HB1.out.2.lt; omega) 12 (.int .i64 v6)).other (g := X1.heap.size) (by have := HB1.out.2.lt; omega) 13 (.int .i64 v7)), ⟨ActO.kind _ _ _, OwnV.nil _ _ _, rfl, rfl, rfl⟩, ((((((HW.out.2.2.setCell (p := ⟨X1.heap.size, 2, none⟩) (Nat.le_refl _) (.int .i64 v2)).setCell (p := ⟨X1.heap.size, 9, none⟩) (Nat.le_refl _) (.int .i64 v3)).setCell (p := ⟨X1.heap.size, 10, none⟩) (Nat.le_refl _) (.int .i64 v4)).setCell (p := ⟨X1.heap.size, 11, none⟩) (Nat.le_refl _) (.int .i64 v5)).setCell (p := ⟨X1.heap.size, 12, none⟩) (Nat.le_refl _) (.int .i64 v6)).setCell (p := ⟨X1.heap.size, 13, none⟩) (Nat.le_refl _) (.int .i64 v7))⟩
        · have _k0 := True.intro
          have HA5 := Lib.hid (HAT.out 5 wr HW.out.2.2)
          obtain ⟨v5, hv5⟩ : ∃ v, v = atR ws 5 := ⟨_, rfl⟩
          have HV5 := Lib.hid hv5
          rw [← hv5] at HA5
          clear hv5
          have HA6 := Lib.hid (HAT.out 6 wr HW.out.2.2)
          obtain ⟨v6, hv6⟩ : ∃ v, v = atR ws 6 := ⟨_, rfl⟩
          have HV6 := Lib.hid hv6
          rw [← hv6] at HA6
          clear hv6
          have HA7 := Lib.hid (HAT.out 7 wr HW.out.2.2)
          obtain ⟨v7, hv7⟩ : ∃ v, v = atR ws 7 := ⟨_, rfl⟩
          have HV7 := Lib.hid hv7
          rw [← hv7] at HA7
          clear hv7
          have HBO := Lib.hid (show Tryz.prog.built 29 [(0, .int .i64 v3), (1, .int .i64 v4), (2, .int .i64 v5), (3, .int .i64 v6), (4, .int .i64 v7)] = some #[.int .i64 v3, .int .i64 v4, .int .i64 v5, .int .i64 v6, .int .i64 v7] from rfl)
          have HMI := Lib.hid (And.intro (show (Tryz.prog.info? 29).map (·.size) = some 5 by kernel_rfl) (show (#[.int .i64 v3, .int .i64 v4, .int .i64 v5, .int .i64 v6, .int .i64 v7] : Array Value).all (·.oneCell') = true by simp [Value.oneCell']))
          have hy2 := HW.out.1.cell (j := 2) rfl
          have hf2 := HW.out.1.free 2
          have hl3 := HW.out.1.lt
          go_wp2_with fail
          refine HA5.out.mono ?_
          rintro e Y ⟨rfl, hY⟩
          rw [hY]
          clear hY Y
          go_wp2_with fail
          refine HA6.out.mono ?_
          rintro e Y ⟨rfl, hY⟩
          rw [hY]
          clear hY Y
          go_wp2_with fail
          refine HA7.out.mono ?_
          rintro e Y ⟨rfl, hY⟩
          rw [hY]
          clear hY Y
          go_wp2_with (first | ((with_reducible refine wpList_at 123 rfl ?_); refine wpList_build_v rfl 29 #[(0, .tmp 115), (1, .tmp 116), (2, .tmp 118), (3, .tmp 120), (4, .tmp 122)] rfl #[.int .i64 v3, .int .i64 v4, .int .i64 v5, .int .i64 v6, .int .i64 v7] [(0, .int .i64 v3), (1, .int .i64 v4), (2, .int .i64 v5), (3, .int .i64 v6), (4, .int .i64 v7)] (by rw [Array.toList_map]; rfl) HBO.out ?_) | ((with_reducible refine wpList_op (.store 29 (.tmp 125) (.tmp 123)) rfl ?_); refine wpList_store_to rfl 29 (.tmp 125) (.tmp 123) rfl X1.heap.size 14 #[.int .i64 v3, .int .i64 v4, .int .i64 v5, .int .i64 v6, .int .i64 v7] rfl rfl (blk_there (HW.out.1.set 2 (.int .i64 v2)) (Nat.le_of_ble_eq_true rfl)) HMI.out.1 HMI.out.2 ((((((wr.setCell ⟨X1.heap.size, 2, none⟩ (.int .i64 v2)).setCell ⟨X1.heap.size, 14, none⟩ (.int .i64 v3)).setCell ⟨X1.heap.size, 15, none⟩ (.int .i64 v4)).setCell ⟨X1.heap.size, 16, none⟩ (.int .i64 v5)).setCell ⟨X1.heap.size, 17, none⟩ (.int .i64 v6)).setCell ⟨X1.heap.size, 18, none⟩ (.int .i64 v7)) rfl ?_))
          go_meet
          case rel => exact ⟨rfl, ({ EvM.zero 9 v0 with who := v2, sta := ⟨v3, v4, v5, v6, v7⟩ } : EvM), by rw [HKG.out]; rw [HV0.out, HV2.out, HV3.out, HV4.out, HV5.out, HV6.out, HV7.out]; rfl, ((((((HW.out.1.set 2 (.int .i64 v2)).set 14 (.int .i64 v3)).set 15 (.int .i64 v4)).set 16 (.int .i64 v5)).set 17 (.int .i64 v6)).set 18 (.int .i64 v7)), ((((((HW.out.2.1.other (g := X1.heap.size) (by have := HB1.out.2.lt; omega) 2 (.int .i64 v2)).other (g := X1.heap.size) (by have := HB1.out.2.lt; omega) 14 (.int .i64 v3)).other (g := X1.heap.size) (by have := HB1.out.2.lt; omega) 15 (.int .i64 v4)).other (g := X1.heap.size) (by have := HB1.out.2.lt; omega) 16 (.int .i64 v5)).other (g := X1.heap.size) (by have := HB1.out.2.lt; omega) 17 (.int .i64 v6)).other (g := X1.heap.size) (by have := HB1.out.2.lt; omega) 18 (.int .i64 v7)), ⟨ActO.kind _ _ _, OwnV.nil _ _ _, rfl, rfl, rfl⟩, ((((((HW.out.2.2.setCell (p := ⟨X1.heap.size, 2, none⟩) (Nat.le_refl _) (.int .i64 v2)).setCell (p := ⟨X1.heap.size, 14, none⟩) (Nat.le_refl _) (.int .i64 v3)).setCell (p := ⟨X1.heap.size, 15, none⟩) (Nat.le_refl _) (.int .i64 v4)).setCell (p := ⟨X1.heap.size, 16, none⟩) (Nat.le_refl _) (.int .i64 v5)).setCell (p := ⟨X1.heap.size, 17, none⟩) (Nat.le_refl _) (.int .i64 v6)).setCell (p := ⟨X1.heap.size, 18, none⟩) (Nat.le_refl _) (.int .i64 v7))⟩
        · have _k0 := True.intro
          have hy2 := HW.out.1.cell (j := 2) rfl
          have hf2 := HW.out.1.free 2
          have hl3 := HW.out.1.lt
          go_wp2_with fail
          go_meet
          case rel => exact ⟨rfl, ({ EvM.zero 10 v0 with who := v2 } : EvM), by rw [HKG.out]; rw [HV0.out, HV2.out]; rfl, (HW.out.1.set 2 (.int .i64 v2)), (HW.out.2.1.other (g := X1.heap.size) (by have := HB1.out.2.lt; omega) 2 (.int .i64 v2)), ⟨ActO.kind _ _ _, OwnV.nil _ _ _, rfl, rfl, rfl⟩, (HW.out.2.2.setCell (p := ⟨X1.heap.size, 2, none⟩) (Nat.le_refl _) (.int .i64 v2))⟩
        · have _k0 := True.intro
          have hy2 := HW.out.1.cell (j := 2) rfl
          have hf2 := HW.out.1.free 2
          have hl3 := HW.out.1.lt
          go_wp2_with fail
          go_meet
          case rel => exact ⟨rfl, ({ EvM.zero 11 v0 with who := v2 } : EvM), by rw [HKG.out]; rw [HV0.out, HV2.out]; rfl, (HW.out.1.set 2 (.int .i64 v2)), (HW.out.2.1.other (g := X1.heap.size) (by have := HB1.out.2.lt; omega) 2 (.int .i64 v2)), ⟨ActO.kind _ _ _, OwnV.nil _ _ _, rfl, rfl, rfl⟩, (HW.out.2.2.setCell (p := ⟨X1.heap.size, 2, none⟩) (Nat.le_refl _) (.int .i64 v2))⟩
        · have _k0 := True.intro
          have hy2 := HW.out.1.cell (j := 2) rfl
          have hf2 := HW.out.1.free 2
          have hy5 := HW.out.1.cell (j := 5) rfl
          have hf5 := HW.out.1.free 5
          have hy4 := HW.out.1.cell (j := 4) rfl
          have hf4 := HW.out.1.free 4
          have hl3 := HW.out.1.lt
          go_wp2_with fail
          go_meet
          case rel => exact ⟨rfl, ({ EvM.zero 12 v0 with who := v2, n := v3, epoch := v4 } : EvM), by rw [HKG.out]; rw [HV0.out, HV2.out, HV3.out, HV4.out]; rfl, (((HW.out.1.set 2 (.int .i64 v2)).set 5 (.int .i64 v3)).set 4 (.int .i64 v4)), (((HW.out.2.1.other (g := X1.heap.size) (by have := HB1.out.2.lt; omega) 2 (.int .i64 v2)).other (g := X1.heap.size) (by have := HB1.out.2.lt; omega) 5 (.int .i64 v3)).other (g := X1.heap.size) (by have := HB1.out.2.lt; omega) 4 (.int .i64 v4)), ⟨ActO.kind _ _ _, OwnV.nil _ _ _, rfl, rfl, rfl⟩, (((HW.out.2.2.setCell (p := ⟨X1.heap.size, 2, none⟩) (Nat.le_refl _) (.int .i64 v2)).setCell (p := ⟨X1.heap.size, 5, none⟩) (Nat.le_refl _) (.int .i64 v3)).setCell (p := ⟨X1.heap.size, 4, none⟩) (Nat.le_refl _) (.int .i64 v4))⟩
        · have _k0 := True.intro
          have hy2 := HW.out.1.cell (j := 2) rfl
          have hf2 := HW.out.1.free 2
          have hy5 := HW.out.1.cell (j := 5) rfl
          have hf5 := HW.out.1.free 5
          have hl3 := HW.out.1.lt
          go_wp2_with fail
          go_meet
          case rel => exact ⟨rfl, ({ EvM.zero 13 v0 with who := v2, n := v3 } : EvM), by rw [HKG.out]; rw [HV0.out, HV2.out, HV3.out]; rfl, ((HW.out.1.set 2 (.int .i64 v2)).set 5 (.int .i64 v3)), ((HW.out.2.1.other (g := X1.heap.size) (by have := HB1.out.2.lt; omega) 2 (.int .i64 v2)).other (g := X1.heap.size) (by have := HB1.out.2.lt; omega) 5 (.int .i64 v3)), ⟨ActO.kind _ _ _, OwnV.nil _ _ _, rfl, rfl, rfl⟩, ((HW.out.2.2.setCell (p := ⟨X1.heap.size, 2, none⟩) (Nat.le_refl _) (.int .i64 v2)).setCell (p := ⟨X1.heap.size, 5, none⟩) (Nat.le_refl _) (.int .i64 v3))⟩
      case rest =>
      obtain ⟨rfl, M, hcon, hba, hbr, hown, hbl⟩ := hcut
      obtain ⟨D, hD⟩ : ∃ D, D = (evCs M).toArray := ⟨_, rfl⟩
      obtain ⟨V, hV⟩ : ∃ V, V = wc := ⟨_, rfl⟩
      have HVV := Lib.hid (And.intro (show V.heap[X1.heap.size]? = some (.cells D 35 (0, 0)) by rw [hV, hD]; exact hba) (And.intro (show Blk V w.heap.size 35 ZA.toList by rw [hV]; exact hbr) (show Below X1.heap.size X1 V by rw [hV]; exact hbl)))
      have HCON := Lib.hid hcon
      have HOWN := Lib.hid (show EvO V w.heap.size M by rw [hV]; exact hown)
      have HFG := Lib.hid (guessE_r ws (by have := HWL.out.1; omega) HWL.out.2)
      have HAR := Lib.hid (show EvR (M : EvM).con by rw [HCON.out]; exact HFG.out.r)
      have HAZ := Lib.hid (show actSize (M : EvM).act.con ≤ 100000 by
        have h := HFG.out.sz
        rw [← HCON.out] at h
        have := HWL.out.1
        exact Nat.le_trans h (by omega))
      have HAB := Lib.hid (show (M : EvM).ebody.length ≤ 100000 by
        have h := HFG.out.bl
        rw [← HCON.out] at h
        exact Nat.le_trans h (by decide))
      have HBD := Lib.hid (evBd_of HAR.out HAZ.out (Nat.le_trans HAB.out (by decide)))
      have HTX := Lib.hid (text51_any M V HOWN.out.at HBD.out.act.l HAR.out HAZ.out HAB.out)
      have HDV := Lib.hid (show evV M = .agg D by rw [hD]; rfl)
      rw [HDV.out] at HTX
      have HDD := Lib.hid (And.intro (show (Tryz.prog.info? 35).map (·.size) = some D.size by rw [hD]; exact ev_size) (And.intro (show D.all (·.oneCell') = true by rw [hD]; exact evCs_one _) (show ZA.size = D.size by rw [hD]; exact HZ.out.2.2.2.2 _)))
      clear hD hcon hba hbr hown hbl
      go_wp2_with ((with_reducible refine wpList_at 146 rfl ?_); rw [← hV]; refine wpList_load_row_g (by rfl) 35 (.tmp 5) rfl X1.heap.size rfl 35 D (0, 0) _ HVV.out.1 Tryz.underlying35 rfl HDD.out.1 ?_)
      try rw [← hV]
      clear hV
      refine HTX.out.mono ?_
      rintro e X4 ⟨hf, hb4⟩
      have HB4 := Lib.hid (HB1.out.1.trans ((HVV.out.2.2.trans (hb4.mono HVV.out.2.2.size)).mono HB1.out.1.size))
      have HR4 := Lib.hid (And.intro (show X4.heap[w.heap.size]? = some (.cells ZA 35 (0, 0)) from HVV.out.2.1.next hb4) (show X4.heap[X1.heap.size]? = some (.cells D 35 (0, 0)) from (hb4.block X1.heap.size (Array.getElem?_eq_some_iff.1 HVV.out.1).1).trans HVV.out.1))
      have HO4 := Lib.hid (HOWN.out.next hb4)
      have HNO : Hid (∀ b, VEv b → EvOk b → s = evT b → (M : EvM).con = b) := Lib.hid (fun b hb _ q => by
        rw [HCON.out, HWS.out.1, q, words_ev, guess_ev hb])
      clear hb4
      rcases hf with ⟨hok, hlen, rfl⟩ | ⟨hok, hlen, rfl⟩ | ⟨hok, rfl⟩
      · obtain ⟨T1, hT1⟩ : ∃ T, T = bs (evT (M : EvM).con) := ⟨_, rfl⟩
        have HEQ := Lib.hid (show T1.toList = S1.toList ↔ evT (M : EvM).con = s by rw [hT1, HS1.out]; exact bs_lists)
        rw [← hT1]
        have HOK := Lib.hid hok
        clear hT1 hok hlen
        by_cases hq : T1.toList = S1.toList
        · have HFIN : Hid (RetPe s w (.returned (.tuple #[.agg D, .int .i64 0])) (X4.setRow w.heap.size D)) := Lib.hid (by
            have hbk : Blk X4 w.heap.size 35 ZA.toList := HR4.out.1
            exact .inl ⟨M, HOK.out, HAR.out.vev HOK.out, (HEQ.out.1 hq).symm, HWS.out.2, by rw [HDV.out], HO4.out.keep hbk ⟨by decide, by decide, by decide⟩ (only_row2 X4 w.heap.size D), HBD.out, below_row HB4.out _⟩)
          go_wp2_with (first | ((with_reducible refine wpList_at 158 rfl ?_); refine wpList_load_row_g (by rfl) 35 (.tmp 5) rfl X1.heap.size rfl 35 D (0, 0) _ HR4.out.2 Tryz.underlying35 rfl HDD.out.1 ?_) | ((with_reducible refine wpList_op (.store 35 (.tmp 2) (.tmp 158)) rfl ?_); refine wpList_store_row rfl 35 (.tmp 2) (.tmp 158) rfl w.heap.size D rfl rfl 35 _ HR4.out.1 HDD.out.1 HDD.out.2.2 HDD.out.2.1 ?_))
          refine bodyPost_ret (results_cell_tmp Tryz.results10 _ _ w.heap.size 35 D (0, 0) _ (by rfl) (setRow_heap _ _ _ _ _ _ HR4.out.1) Tryz.underlying35 rfl HDD.out.1) rfl ?_
          exact HFIN.out
        · have HNE := Lib.hid (show ¬ evT (M : EvM).con = s from fun q => hq (HEQ.out.2 q))
          have hbq : (T1.toList == S1.toList) = false := beq_eq_false_iff_ne.2 hq
          go_wp2_with (first | ((with_reducible refine wpList_at 157 rfl ?_); refine wpList_build_to rfl 35 #[] rfl ZA (by rw [Array.toList_map]; exact HZ.out.2.1) ?_) | ((with_reducible refine wpList_op (.store 35 (.tmp 2) (.tmp 157)) rfl ?_); refine wpList_store_row rfl 35 (.tmp 2) (.tmp 157) rfl w.heap.size ZA rfl rfl 35 _ HR4.out.1 HZ.out.2.2.1 rfl HZ.out.2.2.2.1 ?_))
          refine bodyPost_ret (results_cell_tmp Tryz.results10 _ _ w.heap.size 35 ZA (0, 0) _ (by rfl) (setRow_heap _ _ _ _ _ _ HR4.out.1) Tryz.underlying35 rfl HZ.out.2.2.1) rfl ?_
          exact .inr ⟨.inr (fun b hb hbo q => HNE.out (by rw [HNO.out b hb hbo q, q])), by rw [HZ.out.1]; rfl, below_row HB4.out _⟩
      · have HLN := Lib.hid hlen
        clear hok hlen
        go_wp2_with (first | ((with_reducible refine wpList_at 157 rfl ?_); refine wpList_build_to rfl 35 #[] rfl ZA (by rw [Array.toList_map]; exact HZ.out.2.1) ?_) | ((with_reducible refine wpList_op (.store 35 (.tmp 2) (.tmp 157)) rfl ?_); refine wpList_store_row rfl 35 (.tmp 2) (.tmp 157) rfl w.heap.size ZA rfl rfl 35 _ HR4.out.1 HZ.out.2.2.1 rfl HZ.out.2.2.2.1 ?_))
        refine bodyPost_ret (results_cell_tmp Tryz.results10 _ _ w.heap.size 35 ZA (0, 0) _ (by rfl) (setRow_heap _ _ _ _ _ _ HR4.out.1) Tryz.underlying35 rfl HZ.out.2.2.1) rfl ?_
        exact .inr ⟨.inr (fun b hb hbo q => by have h := HLN.out; rw [HNO.out b hb hbo q, ← q] at h; have := HWS.out.2; omega), by rw [HZ.out.1]; rfl, below_row HB4.out _⟩
      · have HNK := Lib.hid hok
        clear hok
        go_wp2_with (first | ((with_reducible refine wpList_at 157 rfl ?_); refine wpList_build_to rfl 35 #[] rfl ZA (by rw [Array.toList_map]; exact HZ.out.2.1) ?_) | ((with_reducible refine wpList_op (.store 35 (.tmp 2) (.tmp 157)) rfl ?_); refine wpList_store_row rfl 35 (.tmp 2) (.tmp 157) rfl w.heap.size ZA rfl rfl 35 _ HR4.out.1 HZ.out.2.2.1 rfl HZ.out.2.2.2.1 ?_))
        refine bodyPost_ret (results_cell_tmp Tryz.results10 _ _ w.heap.size 35 ZA (0, 0) _ (by rfl) (setRow_heap _ _ _ _ _ _ HR4.out.1) Tryz.underlying35 rfl HZ.out.2.2.1) rfl ?_
        exact .inr ⟨.inr (fun b hb hbo q => HNK.out (by rw [HNO.out b hb hbo q]; exact hbo)), by rw [HZ.out.1]; rfl, below_row HB4.out _⟩
end
end Go.Proofs.YtakdkiggaalimaaGreatDoor
