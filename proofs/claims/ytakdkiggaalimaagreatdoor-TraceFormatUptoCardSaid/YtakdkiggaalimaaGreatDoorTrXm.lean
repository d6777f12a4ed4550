/-
  samaritanref51: guess, by kinds (printed by gentrxm.py).
-/
import Derived.Test.YtakdkiggaalimaaGreatDoorTrXh
import Derived.Test.YtakdkiggaalimaaGreatDoorTrXd
import Derived.Test.YtakdkiggaalimaaGreatDoorTrPc
import Derived.OrdersHeld
import Derived.Deep.RegionHeld3
namespace Go.Proofs.YtakdkiggaalimaaGreatDoor
open Go.RowKit Go.Maps

theorem Blk.next {X Y : World} {b : Nat} {T : TypeId} {cs : List Value} (h : Blk X b T cs) (hb : Below X.heap.size X Y) : Blk Y b T cs := (hb.block b h.lt).trans h
theorem kindR_yes {nm : Int → Wd} {x : Wd} {m : Nat} (h : nm ((m : Int) + 1) = x) : kindR nm x (m + 1) = (m : Int) + 1 := by
  rw [kindR, if_pos h]
theorem kindR_no {nm : Int → Wd} {x : Wd} {m : Nat} (h : ¬ nm ((m : Int) + 1) = x) : kindR nm x (m + 1) = kindR nm x m := by
  rw [kindR, if_neg h]
theorem guess_kind {ws : List Wd} {x : Wd} {r : List Wd} (h : ws = x :: r) {k : Int} (hk : kindR actN x 19 = k) : guessA ws = guessK k ws := by
  rw [← hk, h]
  rfl
theorem bs_lists {a b : Wd} : (bs a).toList = (bs b).toList ↔ a = b := by
  rw [ByteArray.toList_eq, ByteArray.toList_eq, bs_data, bs_data]
theorem below_setR {B : Nat} {w X : World} (h : Below B w X) {g : Nat} (hg : B ≤ g) (cs : Array Value) : Below B w (X.setRow g cs) :=
  ⟨h.os, h.tape, h.output, by simpa using h.size, fun k hk => (setRow_other X g k cs (by omega)).trans (h.block k hk)⟩
/-- what guess returns. -/
def RetG (ws : List Wd) (w : World) (e : Ending) (w' : World) : Prop := ∃ a : ActM, e = .returned (actV a) ∧ a.con = guessA ws ∧ ActO w' w.heap.size a ∧ Below w.heap.size w w'
set_option maxRecDepth 100000 in
set_option maxHeartbeats 8000000 in
theorem guess51_0 (ws : List Wd) (A : Option Addr) (c : Nat) (w : World) (hat : WdsAt w w.heap.size A ws) (hl : ∀ x ∈ ws, x.length ≤ 1000000000) (hn : ws.length ≤ 1000000) (x : Wd) (r : List Wd) (hws : ws = x :: r) (hk : kindR actN x 19 = 0) : Calls Tryz.prog 34 #[.slice A ws.length c] w (RetG ws w) := by
  obtain ⟨b, o, rfl, hb, hc⟩ := hat.at (i := 0) (x := x) (by rw [hws]; rfl)
  have hc : w.cell? ⟨b, o, none⟩ = some (.string (bs x)) := hc
  have HAT := Lib.hid (fun (j : Nat) (X : World) (hb : Below w.heap.size w X) => at51_any ws (some ⟨b, o, none⟩) c j X w.heap.size (Sl.below hat hb) hl (by omega))
  have HSP := Lib.hid (fun (j : Nat) (X : World) (hb : Below w.heap.size w X) (hj : j ≤ 1000000000) => span51_any ws (some ⟨b, o, none⟩) c j X (Sl.more (Sl.below hat hb) hb.size) hl hn hj)
  have HAW := Lib.hid (fun (k : Int) (X : World) => actWord_any k X)
  have HKD := Lib.hid (And.intro hk (And.intro (guess_kind hws hk) hn))
  have HCW := Lib.hid (show ∀ X : World, Below w.heap.size w X → X.cell? ⟨b, o, none⟩ = some (.string (bs x)) from fun X hX => (hX.cell (p := ⟨b, o, none⟩) hb).trans hc)
  obtain ⟨n, hnn⟩ : ∃ n, n = ws.length := ⟨_, rfl⟩
  have hn1 : n ≤ 1000000 := by omega
  have hn0 : 0 < n := by rw [hnn, hws]; simp
  have hn0' : (0 : Int) < (n : Int) := by omega
  have HNN := Lib.hid hnn
  rw [← hnn] at HAT HSP ⊢
  obtain ⟨X0, hX0⟩ : ∃ X0, X0 = ((w.alloc (.cells #[.int .i64 0, .int .i64 0, .int .i64 0, .int .i64 0, .int .i64 0, .int .i64 0, .slice none 0 0, .slice none 0 0] 33)).alloc (.cells #[.int .i64 0, .int .i64 0, .int .i64 0, .int .i64 0, .int .i64 0, .int .i64 0, .slice none 0 0, .slice none 0 0] 33)) := ⟨_, rfl⟩
  have HX0 : Hid (Blk X0 w.heap.size 33 [.int .i64 0, .int .i64 0, .int .i64 0, .int .i64 0, .int .i64 0, .int .i64 0, .slice none 0 0, .slice none 0 0] ∧ Blk X0 (w.heap.size + 1) 33 [.int .i64 0, .int .i64 0, .int .i64 0, .int .i64 0, .int .i64 0, .int .i64 0, .slice none 0 0, .slice none 0 0] ∧ Below w.heap.size w X0) := Lib.hid (by
    rw [hX0]
    obtain ⟨h1, h2⟩ := two_blk w [.int .i64 0, .int .i64 0, .int .i64 0, .int .i64 0, .int .i64 0, .int .i64 0, .slice none 0 0, .slice none 0 0] [.int .i64 0, .int .i64 0, .int .i64 0, .int .i64 0, .int .i64 0, .int .i64 0, .slice none 0 0, .slice none 0 0] 33 33
    exact ⟨h1, h2, ((Below.refl _ _).alloc (Nat.le_refl _) _).alloc (by simp) _⟩)
  clear hat hl hn hws hk hb hc hnn
  go_enter Tryz.func34, Tryz.ntmps34
  go_wp2_with fail
  rw [← hX0]
  clear hX0
  go_loopw [4] (fun jv X => ∃ m : Nat, m ≤ 19 ∧ jv = .int .i64 ((m : Int) + 1) ∧ Blk X (w.heap.size + 1) 33 (.int .i64 (kindR actN x m) :: [.int .i64 0, .int .i64 0, .int .i64 0, .int .i64 0, .int .i64 0, .slice none 0 0, .slice none 0 0]) ∧ Blk X w.heap.size 33 [.int .i64 0, .int .i64 0, .int .i64 0, .int .i64 0, .int .i64 0, .int .i64 0, .slice none 0 0, .slice none 0 0] ∧ Below w.heap.size w X) (fun jv _ => 20 - (intOf jv).toNat)
  case atStart => exact ⟨0, Nat.zero_le _, rfl, HX0.out.2.1, HX0.out.1, HX0.out.2.2⟩
  case round =>
    obtain ⟨m, hm, rfl, hba, hbr, hbl⟩ := hrel
    have HW := Lib.hid (And.intro hba (And.intro hbr hbl))
    clear hba hbr hbl
    by_cases hlt : m < 19
    · have hlt' : (m : Int) + 1 ≤ 19 := by omega
      have HHD := Lib.hid (show Below wr.heap.size wr wr.drew from below_dr (Below.refl _ _) 1)
      obtain ⟨s1, hs1⟩ : ∃ s, s = bs (actN ((m : Int) + 1)) := ⟨_, rfl⟩
      obtain ⟨s2, hs2⟩ : ∃ s, s = bs x := ⟨_, rfl⟩
      have HC0 := Lib.hid (show ∀ X : World, Below wr.heap.size wr X → X.cell? ⟨b, o, none⟩ = some (.string s2) from fun X hX => by rw [hs2]; exact HCW.out X (HW.out.2.2.trans (hX.mono HW.out.2.2.size)))
      have HEQ := Lib.hid (show s1.toList = s2.toList ↔ actN ((m : Int) + 1) = x by rw [hs1, hs2]; exact bs_lists)
      have HAW1 := Lib.hid (fun X : World => HAW.out ((m : Int) + 1) X)
      rw [← hs1] at HAW1
      clear hs2 hs1
      go_wp2_with fail
      by_cases he : s1.toList = s2.toList
      · have HE := Lib.hid (HEQ.out.1 he)
        refine wp_region_held_drew (S := fun W' => Below wr.heap.size wr W') (by kernel_rfl) HHD.out (fun hHeld => ?_)
        refine wpAnyH_take (i := 0) (v := .slice (some ⟨b, o, none⟩) n c) rfl (by kernel_rfl) (by kernel_rfl) (by kernel_rfl) (fun _ _ _ h => h) (Or.inl ⟨by rfl, ?_⟩) (by assumption) ?_
        · intro w' hSw
          go_simp
        show wpAnyH _ _ _ _ _ _ _ (Act.put _ (some 13) _) _
        simp only [Act.put, List.setIfInBounds_toArray, List.set_cons_zero, List.set_cons_succ]
        refine wpAnyH_take (i := 1) (v := .int .i64 n) rfl (by kernel_rfl) (by kernel_rfl) (by kernel_rfl) (fun _ _ _ h => h) (Or.inl ⟨by rfl, ?_⟩) (by assumption) ?_
        · intro w' hSw
          go_simp
        show wpAnyH _ _ _ _ _ _ _ (Act.put _ (some 14) _) _
        simp only [Act.put, List.setIfInBounds_toArray, List.set_cons_zero, List.set_cons_succ]
        refine wpAnyH_take (i := 2) (v := .bool true) rfl (by kernel_rfl) (by kernel_rfl) (by kernel_rfl) (fun _ _ _ h => h) (Or.inl ⟨by rfl, ?_⟩) (by assumption) ?_
        · intro w' hSw
          go_simp
        show wpAnyH _ _ _ _ _ _ _ (Act.put _ (some 15) _) _
        simp only [Act.put, List.setIfInBounds_toArray, List.set_cons_zero, List.set_cons_succ]
        refine wpAnyH_take (i := 3) (v := .bool true) rfl (by kernel_rfl) (by kernel_rfl) (by kernel_rfl) (fun _ _ _ h => h) (Or.inl ⟨by rfl, ?_⟩) (by assumption) ?_
        · intro w' hSw
          go_simp
        show wpAnyH _ _ _ _ _ _ _ (Act.put _ (some 16) _) _
        simp only [Act.put, List.setIfInBounds_toArray, List.set_cons_zero, List.set_cons_succ]
        refine wpAnyH_take (i := 4) (v := .int .i64 ((m : Int) + 1)) rfl (by kernel_rfl) (by kernel_rfl) (by kernel_rfl) (fun _ _ _ h => h) (Or.inl ⟨by rfl, ?_⟩) (by assumption) ?_
        · intro w' hSw
          go_simp
        show wpAnyH _ _ _ _ _ _ _ (Act.put _ (some 17) _) _
        simp only [Act.put, List.setIfInBounds_toArray, List.set_cons_zero, List.set_cons_succ]
        refine wpAnyH_take (i := 6) (v := .slice (some ⟨b, o, none⟩) n c) rfl (by kernel_rfl) (by kernel_rfl) (by kernel_rfl) (fun _ _ _ h => h) (Or.inl ⟨by rfl, ?_⟩) (by assumption) ?_
        · intro w' hSw
          go_simp
        show wpAnyH _ _ _ _ _ _ _ (Act.put _ (some 19) _) _
        simp only [Act.put, List.setIfInBounds_toArray, List.set_cons_zero, List.set_cons_succ]
        refine wpAnyH_take (i := 7) (v := .pointer (some ⟨b, o, none⟩)) rfl (by kernel_rfl) (by kernel_rfl) (by kernel_rfl) (fun _ _ _ h => h) (Or.inl ⟨by rfl, ?_⟩) (by assumption) ?_
        · intro w' hSw
          go_simp
        show wpAnyH _ _ _ _ _ _ _ (Act.put _ (some 20) _) _
        simp only [Act.put, List.setIfInBounds_toArray, List.set_cons_zero, List.set_cons_succ]
        refine wpAnyH_take (i := 8) (v := .string s2) rfl (by kernel_rfl) (by kernel_rfl) (by kernel_rfl) (fun _ _ _ h => h) (Or.inl ⟨by rfl, ?_⟩) (by assumption) ?_
        · intro w' hSw
          have hc := HC0.out w' hSw
          go_simp
        show wpAnyH _ _ _ _ _ _ _ (Act.put _ (some 21) _) _
        simp only [Act.put, List.setIfInBounds_toArray, List.set_cons_zero, List.set_cons_succ]
        refine wpAnyH_ready (rs := [5]) (by kernel_rfl) (by simp) ?_
        refine AllReadyH.cons rfl (fun K hK => ?_) AllReadyH.nil
        go_simp
        refine (HAW1.out _).mono ?_
        rintro e Y1 ⟨rfl, hy1⟩
        go_simp
        refine hK.out _ _ (HHD.out.trans (hy1.mono HHD.out.size)) (fun hHeld => ?_)
        clear hK K
        have HY1 := Lib.hid hHeld
        clear hy1
        refine wpAnyH_take (i := 9) (v := .bool true) rfl (by kernel_rfl) (by kernel_rfl) (by kernel_rfl) (fun _ _ _ h => h) (Or.inl ⟨by rfl, ?_⟩) (by assumption) ?_
        · intro w' hSw
          go_simp
        show wpAnyH _ _ _ _ _ _ _ (Act.put _ (some 22) _) _
        simp only [Act.put, List.setIfInBounds_toArray, List.set_cons_zero, List.set_cons_succ]
        refine wpAnyH_take (i := 10) (v := .bool true) rfl (by kernel_rfl) (by kernel_rfl) (by kernel_rfl) (fun _ _ _ h => h) (Or.inl ⟨by rfl, ?_⟩) (by assumption) ?_
        · intro w' hSw
          go_simp
        show wpAnyH _ _ _ _ _ _ _ (Act.put _ (some 23) _) _
        simp only [Act.put, List.setIfInBounds_toArray, List.set_cons_zero, List.set_cons_succ]
        refine wpAnyH_done (by kernel_rfl) ?_ _
        have HBA := Lib.hid (HW.out.1.next HY1.out)
        have HBR := Lib.hid (HW.out.2.1.next HY1.out)
        have HBL := Lib.hid (HW.out.2.2.trans (HY1.out.mono HW.out.2.2.size))
        have hz := HBA.out.free 0
        have hy := HBA.out.cell (j := 0) rfl
        have hl3 := HBA.out.lt
        have HSET := Lib.hid (And.intro (HBA.out.set 0 (.int .i64 ((m : Int) + 1))) (And.intro (HBR.out.other (g := w.heap.size + 1) (by omega) 0 (.int .i64 ((m : Int) + 1))) (HBL.out.setCell (p := ⟨w.heap.size + 1, 0, none⟩) (by show w.heap.size ≤ w.heap.size + 1; omega) (.int .i64 ((m : Int) + 1)))))
        clear he
        go_wp2_with fail
        go_roundw
        case rel => exact ⟨m + 1, by omega, by go_num, by rw [kindR_yes HE.out]; exact HSET.out.1, HSET.out.2.1, HSET.out.2.2⟩
        case measure => simp [intOf]; omega
      · have HE := Lib.hid (show ¬ actN ((m : Int) + 1) = x from fun q => he (HEQ.out.2 q))
        refine wp_region_held_drew (S := fun W' => Below wr.heap.size wr W') (by kernel_rfl) HHD.out (fun hHeld => ?_)
        refine wpAnyH_take (i := 0) (v := .slice (some ⟨b, o, none⟩) n c) rfl (by kernel_rfl) (by kernel_rfl) (by kernel_rfl) (fun _ _ _ h => h) (Or.inl ⟨by rfl, ?_⟩) (by assumption) ?_
        · intro w' hSw
          go_simp
        show wpAnyH _ _ _ _ _ _ _ (Act.put _ (some 13) _) _
        simp only [Act.put, List.setIfInBounds_toArray, List.set_cons_zero, List.set_cons_succ]
        refine wpAnyH_take (i := 1) (v := .int .i64 n) rfl (by kernel_rfl) (by kernel_rfl) (by kernel_rfl) (fun _ _ _ h => h) (Or.inl ⟨by rfl, ?_⟩) (by assumption) ?_
        · intro w' hSw
          go_simp
        show wpAnyH _ _ _ _ _ _ _ (Act.put _ (some 14) _) _
        simp only [Act.put, List.setIfInBounds_toArray, List.set_cons_zero, List.set_cons_succ]
        refine wpAnyH_take (i := 2) (v := .bool true) rfl (by kernel_rfl) (by kernel_rfl) (by kernel_rfl) (fun _ _ _ h => h) (Or.inl ⟨by rfl, ?_⟩) (by assumption) ?_
        · intro w' hSw
          go_simp
        show wpAnyH _ _ _ _ _ _ _ (Act.put _ (some 15) _) _
        simp only [Act.put, List.setIfInBounds_toArray, List.set_cons_zero, List.set_cons_succ]
        refine wpAnyH_take (i := 3) (v := .bool true) rfl (by kernel_rfl) (by kernel_rfl) (by kernel_rfl) (fun _ _ _ h => h) (Or.inl ⟨by rfl, ?_⟩) (by assumption) ?_
        · intro w' hSw
          go_simp
        show wpAnyH _ _ _ _ _ _ _ (Act.put _ (some 16) _) _
        simp only [Act.put, List.setIfInBounds_toArray, List.set_cons_zero, List.set_cons_succ]
        refine wpAnyH_take (i := 4) (v := .int .i64 ((m : Int) + 1)) rfl (by kernel_rfl) (by kernel_rfl) (by kernel_rfl) (fun _ _ _ h => h) (Or.inl ⟨by rfl, ?_⟩) (by assumption) ?_
        · intro w' hSw
          go_simp
        show wpAnyH _ _ _ _ _ _ _ (Act.put _ (some 17) _) _
        simp only [Act.put, List.setIfInBounds_toArray, List.set_cons_zero, List.set_cons_succ]
        refine wpAnyH_take (i := 6) (v := .slice (some ⟨b, o, none⟩) n c) rfl (by kernel_rfl) (by kernel_rfl) (by kernel_rfl) (fun _ _ _ h => h) (Or.inl ⟨by rfl, ?_⟩) (by assumption) ?_
        · intro w' hSw
          go_simp
        show wpAnyH _ _ _ _ _ _ _ (Act.put _ (some 19) _) _
        simp only [Act.put, List.setIfInBounds_toArray, List.set_cons_zero, List.set_cons_succ]
        refine wpAnyH_take (i := 7) (v := .pointer (some ⟨b, o, none⟩)) rfl (by kernel_rfl) (by kernel_rfl) (by kernel_rfl) (fun _ _ _ h => h) (Or.inl ⟨by rfl, ?_⟩) (by assumption) ?_
        · intro w' hSw
          go_simp
        show wpAnyH _ _ _ _ _ _ _ (Act.put _ (some 20) _) _
        simp only [Act.put, List.setIfInBounds_toArray, List.set_cons_zero, List.set_cons_succ]
        refine wpAnyH_take (i := 8) (v := .string s2) rfl (by kernel_rfl) (by kernel_rfl) (by kernel_rfl) (fun _ _ _ h => h) (Or.inl ⟨by rfl, ?_⟩) (by assumption) ?_
        · intro w' hSw
          have hc := HC0.out w' hSw
          go_simp
        show wpAnyH _ _ _ _ _ _ _ (Act.put _ (some 21) _) _
        simp only [Act.put, List.setIfInBounds_toArray, List.set_cons_zero, List.set_cons_succ]
        refine wpAnyH_ready (rs := [5]) (by kernel_rfl) (by simp) ?_
        refine AllReadyH.cons rfl (fun K hK => ?_) AllReadyH.nil
        go_simp
        refine (HAW1.out _).mono ?_
        rintro e Y1 ⟨rfl, hy1⟩
        go_simp
        refine hK.out _ _ (HHD.out.trans (hy1.mono HHD.out.size)) (fun hHeld => ?_)
        clear hK K
        have HY1 := Lib.hid hHeld
        clear hy1
        refine wpAnyH_take (i := 9) (v := .bool false) rfl (by kernel_rfl) (by kernel_rfl) (by kernel_rfl) (fun _ _ _ h => h) (Or.inl ⟨by rfl, ?_⟩) (by assumption) ?_
        · intro w' hSw
          go_simp
        show wpAnyH _ _ _ _ _ _ _ (Act.put _ (some 22) _) _
        simp only [Act.put, List.setIfInBounds_toArray, List.set_cons_zero, List.set_cons_succ]
        refine wpAnyH_take (i := 10) (v := .bool false) rfl (by kernel_rfl) (by kernel_rfl) (by kernel_rfl) (fun _ _ _ h => h) (Or.inl ⟨by rfl, ?_⟩) (by assumption) ?_
        · intro w' hSw
          go_simp
        show wpAnyH _ _ _ _ _ _ _ (Act.put _ (some 23) _) _
        simp only [Act.put, List.setIfInBounds_toArray, List.set_cons_zero, List.set_cons_succ]
        refine wpAnyH_done (by kernel_rfl) ?_ _
        have HBA := Lib.hid (HW.out.1.next HY1.out)
        have HBR := Lib.hid (HW.out.2.1.next HY1.out)
        have HBL := Lib.hid (HW.out.2.2.trans (HY1.out.mono HW.out.2.2.size))
        clear he
        go_wp2_with fail
        go_roundw
        case rel => exact ⟨m + 1, by omega, by go_num, by rw [kindR_no HE.out]; exact HBA.out, HBR.out, HBL.out⟩
        case measure => simp [intOf]; omega
    · obtain rfl : m = 19 := by omega
      rw [HKD.out.1] at HW
      have HA1 := Lib.hid (HAT.out 1 wr HW.out.2.2)
      obtain ⟨v1, hv1⟩ : ∃ v, v = atR ws 1 := ⟨_, rfl⟩
      have HV1 := Lib.hid hv1
      rw [← hv1] at HA1
      clear hv1
      go_wp2_with fail
      refine HA1.out.mono ?_
      rintro e Y ⟨rfl, hY⟩
      rw [hY]
      clear hY Y
      have hz0 := HW.out.1.cell (j := 0) rfl
      clear HA1
      have hl3 := HW.out.1.lt
      obtain ⟨D, hD⟩ : ∃ D, D = (actCs (kindM 0)).toArray := ⟨_, rfl⟩
      have hrow : (wr).heap[w.heap.size + 1]? = some (.cells D 33 (0, 0)) := by rw [hD]; exact HW.out.1
      have hrw : (wr).heap[w.heap.size]? = some (.cells #[.int .i64 0, .int .i64 0, .int .i64 0, .int .i64 0, .int .i64 0, .int .i64 0, .slice none 0 0, .slice none 0 0] 33 (0, 0)) := HW.out.2.1
      have hsz : (Tryz.prog.info? 33).map (·.size) = some D.size := by rw [hD]; exact act_size
      have hold : (#[.int .i64 0, .int .i64 0, .int .i64 0, .int .i64 0, .int .i64 0, .int .i64 0, .slice none 0 0, .slice none 0 0] : Array Value).size = D.size := by rw [hD]; rfl
      have hone : D.all (·.oneCell') = true := by rw [hD]; exact actCs_one _
      have HDV := Lib.hid (show actV (kindM 0) = .agg D by rw [hD]; rfl)
      clear hD
      go_wp2_with (first | (refine wpList_load_row_g (by rfl) 33 (.tmp 3) rfl (w.heap.size + 1) rfl 33 D (0, 0) _ hrow Tryz.underlying33 rfl hsz ?_) | (refine wpList_store_row rfl 33 (.tmp 2) (.tmp 142) rfl w.heap.size D rfl rfl 33 _ hrw hsz hold hone ?_))
      refine bodyPost_ret (results_cell1 Tryz.results34 _ _ w.heap.size 33 D (0, 0) _ (by rfl) (setRow_heap _ _ _ _ _ _ hrw) Tryz.underlying33 rfl hsz) rfl ?_
      refine ⟨(kindM 0), by rw [HDV.out], ?_, ⟨SrcO.nil _ _, nil_own _ _⟩, below_setR (HW.out.2.2) (Nat.le_refl _) _⟩
      rw [HKD.out.2.1]
      rfl
set_option maxRecDepth 100000 in
set_option maxHeartbeats 8000000 in
theorem guess51_2 (ws : List Wd) (A : Option Addr) (c : Nat) (w : World) (hat : WdsAt w w.heap.size A ws) (hl : ∀ x ∈ ws, x.length ≤ 1000000000) (hn : ws.length ≤ 1000000) (x : Wd) (r : List Wd) (hws : ws = x :: r) (hk : kindR actN x 19 = 2) : Calls Tryz.prog 34 #[.slice A ws.length c] w (RetG ws w) := by
  obtain ⟨b, o, rfl, hb, hc⟩ := hat.at (i := 0) (x := x) (by rw [hws]; rfl)
  have hc : w.cell? ⟨b, o, none⟩ = some (.string (bs x)) := hc
  have HAT := Lib.hid (fun (j : Nat) (X : World) (hb : Below w.heap.size w X) => at51_any ws (some ⟨b, o, none⟩) c j X w.heap.size (Sl.below hat hb) hl (by omega))
  have HSP := Lib.hid (fun (j : Nat) (X : World) (hb : Below w.heap.size w X) (hj : j ≤ 1000000000) => span51_any ws (some ⟨b, o, none⟩) c j X (Sl.more (Sl.below hat hb) hb.size) hl hn hj)
  have HAW := Lib.hid (fun (k : Int) (X : World) => actWord_any k X)
  have HKD := Lib.hid (And.intro hk (And.intro (guess_kind hws hk) hn))
  have HCW := Lib.hid (show ∀ X : World, Below w.heap.size w X → X.cell? ⟨b, o, none⟩ = some (.string (bs x)) from fun X hX => (hX.cell (p := ⟨b, o, none⟩) hb).trans hc)
  obtain ⟨n, hnn⟩ : ∃ n, n = ws.length := ⟨_, rfl⟩
  have hn1 : n ≤ 1000000 := by omega
  have hn0 : 0 < n := by rw [hnn, hws]; simp
  have hn0' : (0 : Int) < (n : Int) := by omega
  have HNN := Lib.hid hnn
  rw [← hnn] at HAT HSP ⊢
  obtain ⟨X0, hX0⟩ : ∃ X0, X0 = ((w.alloc (.cells #[.int .i64 0, .int .i64 0, .int .i64 0, .int .i64 0, .int .i64 0, .int .i64 0, .slice none 0 0, .slice none 0 0] 33)).alloc (.cells #[.int .i64 0, .int .i64 0, .int .i64 0, .int .i64 0, .int .i64 0, .int .i64 0, .slice none 0 0, .slice none 0 0] 33)) := ⟨_, rfl⟩
  have HX0 : Hid (Blk X0 w.heap.size 33 [.int .i64 0, .int .i64 0, .int .i64 0, .int .i64 0, .int .i64 0, .int .i64 0, .slice none 0 0, .slice none 0 0] ∧ Blk X0 (w.heap.size + 1) 33 [.int .i64 0, .int .i64 0, .int .i64 0, .int .i64 0, .int .i64 0, .int .i64 0, .slice none 0 0, .slice none 0 0] ∧ Below w.heap.size w X0) := Lib.hid (by
    rw [hX0]
    obtain ⟨h1, h2⟩ := two_blk w [.int .i64 0, .int .i64 0, .int .i64 0, .int .i64 0, .int .i64 0, .int .i64 0, .slice none 0 0, .slice none 0 0] [.int .i64 0, .int .i64 0, .int .i64 0, .int .i64 0, .int .i64 0, .int .i64 0, .slice none 0 0, .slice none 0 0] 33 33
    exact ⟨h1, h2, ((Below.refl _ _).alloc (Nat.le_refl _) _).alloc (by simp) _⟩)
  clear hat hl hn hws hk hb hc hnn
  go_enter Tryz.func34, Tryz.ntmps34
  go_wp2_with fail
  rw [← hX0]
  clear hX0
  go_loopw [4] (fun jv X => ∃ m : Nat, m ≤ 19 ∧ jv = .int .i64 ((m : Int) + 1) ∧ Blk X (w.heap.size + 1) 33 (.int .i64 (kindR actN x m) :: [.int .i64 0, .int .i64 0, .int .i64 0, .int .i64 0, .int .i64 0, .slice none 0 0, .slice none 0 0]) ∧ Blk X w.heap.size 33 [.int .i64 0, .int .i64 0, .int .i64 0, .int .i64 0, .int .i64 0, .int .i64 0, .slice none 0 0, .slice none 0 0] ∧ Below w.heap.size w X) (fun jv _ => 20 - (intOf jv).toNat)
  case atStart => exact ⟨0, Nat.zero_le _, rfl, HX0.out.2.1, HX0.out.1, HX0.out.2.2⟩
  case round =>
    obtain ⟨m, hm, rfl, hba, hbr, hbl⟩ := hrel
    have HW := Lib.hid (And.intro hba (And.intro hbr hbl))
    clear hba hbr hbl
    by_cases hlt : m < 19
    · have hlt' : (m : Int) + 1 ≤ 19 := by omega
      have HHD := Lib.hid (show Below wr.heap.size wr wr.drew from below_dr (Below.refl _ _) 1)
      obtain ⟨s1, hs1⟩ : ∃ s, s = bs (actN ((m : Int) + 1)) := ⟨_, rfl⟩
      obtain ⟨s2, hs2⟩ : ∃ s, s = bs x := ⟨_, rfl⟩
      have HC0 := Lib.hid (show ∀ X : World, Below wr.heap.size wr X → X.cell? ⟨b, o, none⟩ = some (.string s2) from fun X hX => by rw [hs2]; exact HCW.out X (HW.out.2.2.trans (hX.mono HW.out.2.2.size)))
      have HEQ := Lib.hid (show s1.toList = s2.toList ↔ actN ((m : Int) + 1) = x by rw [hs1, hs2]; exact bs_lists)
      have HAW1 := Lib.hid (fun X : World => HAW.out ((m : Int) + 1) X)
      rw [← hs1] at HAW1
      clear hs2 hs1
      go_wp2_with fail
      by_cases he : s1.toList = s2.toList
      · have HE := Lib.hid (HEQ.out.1 he)
        refine wp_region_held_drew (S := fun W' => Below wr.heap.size wr W') (by kernel_rfl) HHD.out (fun hHeld => ?_)
        refine wpAnyH_take (i := 0) (v := .slice (some ⟨b, o, none⟩) n c) rfl (by kernel_rfl) (by kernel_rfl) (by kernel_rfl) (fun _ _ _ h => h) (Or.inl ⟨by rfl, ?_⟩) (by assumption) ?_
        · intro w' hSw
          go_simp
        show wpAnyH _ _ _ _ _ _ _ (Act.put _ (some 13) _) _
        simp only [Act.put, List.setIfInBounds_toArray, List.set_cons_zero, List.set_cons_succ]
        refine wpAnyH_take (i := 1) (v := .int .i64 n) rfl (by kernel_rfl) (by kernel_rfl) (by kernel_rfl) (fun _ _ _ h => h) (Or.inl ⟨by rfl, ?_⟩) (by assumption) ?_
        · intro w' hSw
          go_simp
        show wpAnyH _ _ _ _ _ _ _ (Act.put _ (some 14) _) _
        simp only [Act.put, List.setIfInBounds_toArray, List.set_cons_zero, List.set_cons_succ]
        refine wpAnyH_take (i := 2) (v := .bool true) rfl (by kernel_rfl) (by kernel_rfl) (by kernel_rfl) (fun _ _ _ h => h) (Or.inl ⟨by rfl, ?_⟩) (by assumption) ?_
        · intro w' hSw
          go_simp
        show wpAnyH _ _ _ _ _ _ _ (Act.put _ (some 15) _) _
        simp only [Act.put, List.setIfInBounds_toArray, List.set_cons_zero, List.set_cons_succ]
        refine wpAnyH_take (i := 3) (v := .bool true) rfl (by kernel_rfl) (by kernel_rfl) (by kernel_rfl) (fun _ _ _ h => h) (Or.inl ⟨by rfl, ?_⟩) (by assumption) ?_
        · intro w' hSw
          go_simp
        show wpAnyH _ _ _ _ _ _ _ (Act.put _ (some 16) _) _
        simp only [Act.put, List.setIfInBounds_toArray, List.set_cons_zero, List.set_cons_succ]
        refine wpAnyH_take (i := 4) (v := .int .i64 ((m : Int) + 1)) rfl (by kernel_rfl) (by kernel_rfl) (by kernel_rfl) (fun _ _ _ h => h) (Or.inl ⟨by rfl, ?_⟩) (by assumption) ?_
        · intro w' hSw
          go_simp
        show wpAnyH _ _ _ _ _ _ _ (Act.put _ (some 17) _) _
        simp only [Act.put, List.setIfInBounds_toArray, List.set_cons_zero, List.set_cons_succ]
        refine wpAnyH_take (i := 6) (v := .slice (some ⟨b, o, none⟩) n c) rfl (by kernel_rfl) (by kernel_rfl) (by kernel_rfl) (fun _ _ _ h => h) (Or.inl ⟨by rfl, ?_⟩) (by assumption) ?_
        · intro w' hSw
          go_simp
        show wpAnyH _ _ _ _ _ _ _ (Act.put _ (some 19) _) _
        simp only [Act.put, List.setIfInBounds_toArray, List.set_cons_zero, List.set_cons_succ]
        refine wpAnyH_take (i := 7) (v := .pointer (some ⟨b, o, none⟩)) rfl (by kernel_rfl) (by kernel_rfl) (by kernel_rfl) (fun _ _ _ h => h) (Or.inl ⟨by rfl, ?_⟩) (by assumption) ?_
        · intro w' hSw
          go_simp
        show wpAnyH _ _ _ _ _ _ _ (Act.put _ (some 20) _) _
        simp only [Act.put, List.setIfInBounds_toArray, List.set_cons_zero, List.set_cons_succ]
        refine wpAnyH_take (i := 8) (v := .string s2) rfl (by kernel_rfl) (by kernel_rfl) (by kernel_rfl) (fun _ _ _ h => h) (Or.inl ⟨by rfl, ?_⟩) (by assumption) ?_
        · intro w' hSw
          have hc := HC0.out w' hSw
          go_simp
        show wpAnyH _ _ _ _ _ _ _ (Act.put _ (some 21) _) _
        simp only [Act.put, List.setIfInBounds_toArray, List.set_cons_zero, List.set_cons_succ]
        refine wpAnyH_ready (rs := [5]) (by kernel_rfl) (by simp) ?_
        refine AllReadyH.cons rfl (fun K hK => ?_) AllReadyH.nil
        go_simp
        refine (HAW1.out _).mono ?_
        rintro e Y1 ⟨rfl, hy1⟩
        go_simp
        refine hK.out _ _ (HHD.out.trans (hy1.mono HHD.out.size)) (fun hHeld => ?_)
        clear hK K
        have HY1 := Lib.hid hHeld
        clear hy1
        refine wpAnyH_take (i := 9) (v := .bool true) rfl (by kernel_rfl) (by kernel_rfl) (by kernel_rfl) (fun _ _ _ h => h) (Or.inl ⟨by rfl, ?_⟩) (by assumption) ?_
        · intro w' hSw
          go_simp
        show wpAnyH _ _ _ _ _ _ _ (Act.put _ (some 22) _) _
        simp only [Act.put, List.setIfInBounds_toArray, List.set_cons_zero, List.set_cons_succ]
        refine wpAnyH_take (i := 10) (v := .bool true) rfl (by kernel_rfl) (by kernel_rfl) (by kernel_rfl) (fun _ _ _ h => h) (Or.inl ⟨by rfl, ?_⟩) (by assumption) ?_
        · intro w' hSw
          go_simp
        show wpAnyH _ _ _ _ _ _ _ (Act.put _ (some 23) _) _
        simp only [Act.put, List.setIfInBounds_toArray, List.set_cons_zero, List.set_cons_succ]
        refine wpAnyH_done (by kernel_rfl) ?_ _
        have HBA := Lib.hid (HW.out.1.next HY1.out)
        have HBR := Lib.hid (HW.out.2.1.next HY1.out)
        have HBL := Lib.hid (HW.out.2.2.trans (HY1.out.mono HW.out.2.2.size))
        have hz := HBA.out.free 0
        have hy := HBA.out.cell (j := 0) rfl
        have hl3 := HBA.out.lt
        have HSET := Lib.hid (And.intro (HBA.out.set 0 (.int .i64 ((m : Int) + 1))) (And.intro (HBR.out.other (g := w.heap.size + 1) (by omega) 0 (.int .i64 ((m : Int) + 1))) (HBL.out.setCell (p := ⟨w.heap.size + 1, 0, none⟩) (by show w.heap.size ≤ w.heap.size + 1; omega) (.int .i64 ((m : Int) + 1)))))
        clear he
        go_wp2_with fail
        go_roundw
        case rel => exact ⟨m + 1, by omega, by go_num, by rw [kindR_yes HE.out]; exact HSET.out.1, HSET.out.2.1, HSET.out.2.2⟩
        case measure => simp [intOf]; omega
      · have HE := Lib.hid (show ¬ actN ((m : Int) + 1) = x from fun q => he (HEQ.out.2 q))
        refine wp_region_held_drew (S := fun W' => Below wr.heap.size wr W') (by kernel_rfl) HHD.out (fun hHeld => ?_)
        refine wpAnyH_take (i := 0) (v := .slice (some ⟨b, o, none⟩) n c) rfl (by kernel_rfl) (by kernel_rfl) (by kernel_rfl) (fun _ _ _ h => h) (Or.inl ⟨by rfl, ?_⟩) (by assumption) ?_
        · intro w' hSw
          go_simp
        show wpAnyH _ _ _ _ _ _ _ (Act.put _ (some 13) _) _
        simp only [Act.put, List.setIfInBounds_toArray, List.set_cons_zero, List.set_cons_succ]
        refine wpAnyH_take (i := 1) (v := .int .i64 n) rfl (by kernel_rfl) (by kernel_rfl) (by kernel_rfl) (fun _ _ _ h => h) (Or.inl ⟨by rfl, ?_⟩) (by assumption) ?_
        · intro w' hSw
          go_simp
        show wpAnyH _ _ _ _ _ _ _ (Act.put _ (some 14) _) _
        simp only [Act.put, List.setIfInBounds_toArray, List.set_cons_zero, List.set_cons_succ]
        refine wpAnyH_take (i := 2) (v := .bool true) rfl (by kernel_rfl) (by kernel_rfl) (by kernel_rfl) (fun _ _ _ h => h) (Or.inl ⟨by rfl, ?_⟩) (by assumption) ?_
        · intro w' hSw
          go_simp
        show wpAnyH _ _ _ _ _ _ _ (Act.put _ (some 15) _) _
        simp only [Act.put, List.setIfInBounds_toArray, List.set_cons_zero, List.set_cons_succ]
        refine wpAnyH_take (i := 3) (v := .bool true) rfl (by kernel_rfl) (by kernel_rfl) (by kernel_rfl) (fun _ _ _ h => h) (Or.inl ⟨by rfl, ?_⟩) (by assumption) ?_
        · intro w' hSw
          go_simp
        show wpAnyH _ _ _ _ _ _ _ (Act.put _ (some 16) _) _
        simp only [Act.put, List.setIfInBounds_toArray, List.set_cons_zero, List.set_cons_succ]
        refine wpAnyH_take (i := 4) (v := .int .i64 ((m : Int) + 1)) rfl (by kernel_rfl) (by kernel_rfl) (by kernel_rfl) (fun _ _ _ h => h) (Or.inl ⟨by rfl, ?_⟩) (by assumption) ?_
        · intro w' hSw
          go_simp
        show wpAnyH _ _ _ _ _ _ _ (Act.put _ (some 17) _) _
        simp only [Act.put, List.setIfInBounds_toArray, List.set_cons_zero, List.set_cons_succ]
        refine wpAnyH_take (i := 6) (v := .slice (some ⟨b, o, none⟩) n c) rfl (by kernel_rfl) (by kernel_rfl) (by kernel_rfl) (fun _ _ _ h => h) (Or.inl ⟨by rfl, ?_⟩) (by assumption) ?_
        · intro w' hSw
          go_simp
        show wpAnyH _ _ _ _ _ _ _ (Act.put _ (some 19) _) _
        simp only [Act.put, List.setIfInBounds_toArray, List.set_cons_zero, List.set_cons_succ]
        refine wpAnyH_take (i := 7) (v := .pointer (some ⟨b, o, none⟩)) rfl (by kernel_rfl) (by kernel_rfl) (by kernel_rfl) (fun _ _ _ h => h) (Or.inl ⟨by rfl, ?_⟩) (by assumption) ?_
        · intro w' hSw
          go_simp
        show wpAnyH _ _ _ _ _ _ _ (Act.put _ (some 20) _) _
        simp only [Act.put, List.setIfInBounds_toArray, List.set_cons_zero, List.set_cons_succ]
        refine wpAnyH_take (i := 8) (v := .string s2) rfl (by kernel_rfl) (by kernel_rfl) (by kernel_rfl) (fun _ _ _ h => h) (Or.inl ⟨by rfl, ?_⟩) (by assumption) ?_
        · intro w' hSw
          have hc := HC0.out w' hSw
          go_simp
        show wpAnyH _ _ _ _ _ _ _ (Act.put _ (some 21) _) _
        simp only [Act.put, List.setIfInBounds_toArray, List.set_cons_zero, List.set_cons_succ]
        refine wpAnyH_ready (rs := [5]) (by kernel_rfl) (by simp) ?_
        refine AllReadyH.cons rfl (fun K hK => ?_) AllReadyH.nil
        go_simp
        refine (HAW1.out _).mono ?_
        rintro e Y1 ⟨rfl, hy1⟩
        go_simp
        refine hK.out _ _ (HHD.out.trans (hy1.mono HHD.out.size)) (fun hHeld => ?_)
        clear hK K
        have HY1 := Lib.hid hHeld
        clear hy1
        refine wpAnyH_take (i := 9) (v := .bool false) rfl (by kernel_rfl) (by kernel_rfl) (by kernel_rfl) (fun _ _ _ h => h) (Or.inl ⟨by rfl, ?_⟩) (by assumption) ?_
        · intro w' hSw
          go_simp
        show wpAnyH _ _ _ _ _ _ _ (Act.put _ (some 22) _) _
        simp only [Act.put, List.setIfInBounds_toArray, List.set_cons_zero, List.set_cons_succ]
        refine wpAnyH_take (i := 10) (v := .bool false) rfl (by kernel_rfl) (by kernel_rfl) (by kernel_rfl) (fun _ _ _ h => h) (Or.inl ⟨by rfl, ?_⟩) (by assumption) ?_
        · intro w' hSw
          go_simp
        show wpAnyH _ _ _ _ _ _ _ (Act.put _ (some 23) _) _
        simp only [Act.put, List.setIfInBounds_toArray, List.set_cons_zero, List.set_cons_succ]
        refine wpAnyH_done (by kernel_rfl) ?_ _
        have HBA := Lib.hid (HW.out.1.next HY1.out)
        have HBR := Lib.hid (HW.out.2.1.next HY1.out)
        have HBL := Lib.hid (HW.out.2.2.trans (HY1.out.mono HW.out.2.2.size))
        clear he
        go_wp2_with fail
        go_roundw
        case rel => exact ⟨m + 1, by omega, by go_num, by rw [kindR_no HE.out]; exact HBA.out, HBR.out, HBL.out⟩
        case measure => simp [intOf]; omega
    · obtain rfl : m = 19 := by omega
      rw [HKD.out.1] at HW
      have HA1 := Lib.hid (HAT.out 1 wr HW.out.2.2)
      obtain ⟨v1, hv1⟩ : ∃ v, v = atR ws 1 := ⟨_, rfl⟩
      have HV1 := Lib.hid hv1
      rw [← hv1] at HA1
      clear hv1
      go_wp2_with fail
      refine HA1.out.mono ?_
      rintro e Y ⟨rfl, hY⟩
      rw [hY]
      clear hY Y
      have hz0 := HW.out.1.cell (j := 0) rfl
      clear HA1
      have HA2 := Lib.hid (HAT.out 2 wr HW.out.2.2)
      obtain ⟨v2, hv2⟩ : ∃ v, v = atR ws 2 := ⟨_, rfl⟩
      have HV2 := Lib.hid hv2
      rw [← hv2] at HA2
      clear hv2
      have HA1 := Lib.hid (HAT.out 1 wr HW.out.2.2)
      rw [← HV1.out] at HA1
      have hy3 := HW.out.1.cell (j := 3) rfl
      have hf3 := HW.out.1.free 3
      have hy2 := HW.out.1.cell (j := 2) rfl
      have hf2 := HW.out.1.free 2
      have hl3 := HW.out.1.lt
      obtain ⟨D, hD⟩ : ∃ D, D = (actCs ({ kindM 2 with call := v1, n := v2 } : ActM)).toArray := ⟨_, rfl⟩
      have hrow : ((wr.setCell ⟨w.heap.size + 1, 3, none⟩ (.int .i64 v1)).setCell ⟨w.heap.size + 1, 2, none⟩ (.int .i64 v2)).heap[w.heap.size + 1]? = some (.cells D 33 (0, 0)) := by rw [hD]; exact ((HW.out.1.set 3 (.int .i64 v1)).set 2 (.int .i64 v2))
      have hrw : ((wr.setCell ⟨w.heap.size + 1, 3, none⟩ (.int .i64 v1)).setCell ⟨w.heap.size + 1, 2, none⟩ (.int .i64 v2)).heap[w.heap.size]? = some (.cells #[.int .i64 0, .int .i64 0, .int .i64 0, .int .i64 0, .int .i64 0, .int .i64 0, .slice none 0 0, .slice none 0 0] 33 (0, 0)) := ((HW.out.2.1.other (g := w.heap.size + 1) (by omega) 3 (.int .i64 v1)).other (g := w.heap.size + 1) (by omega) 2 (.int .i64 v2))
      have hsz : (Tryz.prog.info? 33).map (·.size) = some D.size := by rw [hD]; exact act_size
      have hold : (#[.int .i64 0, .int .i64 0, .int .i64 0, .int .i64 0, .int .i64 0, .int .i64 0, .slice none 0 0, .slice none 0 0] : Array Value).size = D.size := by rw [hD]; rfl
      have hone : D.all (·.oneCell') = true := by rw [hD]; exact actCs_one _
      have HDV := Lib.hid (show actV ({ kindM 2 with call := v1, n := v2 } : ActM) = .agg D by rw [hD]; rfl)
      clear hD
      go_wp2_with (first | (refine wpList_load_row_g (by rfl) 33 (.tmp 3) rfl (w.heap.size + 1) rfl 33 D (0, 0) _ hrow Tryz.underlying33 rfl hsz ?_) | (refine wpList_store_row rfl 33 (.tmp 2) (.tmp 142) rfl w.heap.size D rfl rfl 33 _ hrw hsz hold hone ?_))
      refine HA1.out.mono ?_
      rintro e Y ⟨rfl, hY⟩
      rw [hY]
      clear hY Y
      go_wp2_with (first | (refine wpList_load_row_g (by rfl) 33 (.tmp 3) rfl (w.heap.size + 1) rfl 33 D (0, 0) _ hrow Tryz.underlying33 rfl hsz ?_) | (refine wpList_store_row rfl 33 (.tmp 2) (.tmp 142) rfl w.heap.size D rfl rfl 33 _ hrw hsz hold hone ?_))
      refine HA2.out.mono ?_
      rintro e Y ⟨rfl, hY⟩
      rw [hY]
      clear hY Y
      go_wp2_with (first | (refine wpList_load_row_g (by rfl) 33 (.tmp 3) rfl (w.heap.size + 1) rfl 33 D (0, 0) _ hrow Tryz.underlying33 rfl hsz ?_) | (refine wpList_store_row rfl 33 (.tmp 2) (.tmp 142) rfl w.heap.size D rfl rfl 33 _ hrw hsz hold hone ?_))
      refine bodyPost_ret (results_cell1 Tryz.results34 _ _ w.heap.size 33 D (0, 0) _ (by rfl) (setRow_heap _ _ _ _ _ _ hrw) Tryz.underlying33 rfl hsz) rfl ?_
      refine ⟨({ kindM 2 with call := v1, n := v2 } : ActM), by rw [HDV.out], ?_, ⟨SrcO.nil _ _, nil_own _ _⟩, below_setR (((HW.out.2.2.setCell (p := ⟨w.heap.size + 1, 3, none⟩) (by show w.heap.size ≤ w.heap.size + 1; omega) (.int .i64 v1)).setCell (p := ⟨w.heap.size + 1, 2, none⟩) (by show w.heap.size ≤ w.heap.size + 1; omega) (.int .i64 v2))) (Nat.le_refl _) _⟩
      rw [HKD.out.2.1]
      rw [HV1.out, HV2.out]
      rfl
set_option maxRecDepth 100000 in
set_option maxHeartbeats 8000000 in
theorem guess51_3 (ws : List Wd) (A : Option Addr) (c : Nat) (w : World) (hat : WdsAt w w.heap.size A ws) (hl : ∀ x ∈ ws, x.length ≤ 1000000000) (hn : ws.length ≤ 1000000) (x : Wd) (r : List Wd) (hws : ws = x :: r) (hk : kindR actN x 19 = 3) : Calls Tryz.prog 34 #[.slice A ws.length c] w (RetG ws w) := by
  obtain ⟨b, o, rfl, hb, hc⟩ := hat.at (i := 0) (x := x) (by rw [hws]; rfl)
  have hc : w.cell? ⟨b, o, none⟩ = some (.string (bs x)) := hc
  have HAT := Lib.hid (fun (j : Nat) (X : World) (hb : Below w.heap.size w X) => at51_any ws (some ⟨b, o, none⟩) c j X w.heap.size (Sl.below hat hb) hl (by omega))
  have HSP := Lib.hid (fun (j : Nat) (X : World) (hb : Below w.heap.size w X) (hj : j ≤ 1000000000) => span51_any ws (some ⟨b, o, none⟩) c j X (Sl.more (Sl.below hat hb) hb.size) hl hn hj)
  have HAW := Lib.hid (fun (k : Int) (X : World) => actWord_any k X)
  have HKD := Lib.hid (And.intro hk (And.intro (guess_kind hws hk) hn))
  have HCW := Lib.hid (show ∀ X : World, Below w.heap.size w X → X.cell? ⟨b, o, none⟩ = some (.string (bs x)) from fun X hX => (hX.cell (p := ⟨b, o, none⟩) hb).trans hc)
  obtain ⟨n, hnn⟩ : ∃ n, n = ws.length := ⟨_, rfl⟩
  have hn1 : n ≤ 1000000 := by omega
  have hn0 : 0 < n := by rw [hnn, hws]; simp
  have hn0' : (0 : Int) < (n : Int) := by omega
  have HNN := Lib.hid hnn
  rw [← hnn] at HAT HSP ⊢
  obtain ⟨X0, hX0⟩ : ∃ X0, X0 = ((w.alloc (.cells #[.int .i64 0, .int .i64 0, .int .i64 0, .int .i64 0, .int .i64 0, .int .i64 0, .slice none 0 0, .slice none 0 0] 33)).alloc (.cells #[.int .i64 0, .int .i64 0, .int .i64 0, .int .i64 0, .int .i64 0, .int .i64 0, .slice none 0 0, .slice none 0 0] 33)) := ⟨_, rfl⟩
  have HX0 : Hid (Blk X0 w.heap.size 33 [.int .i64 0, .int .i64 0, .int .i64 0, .int .i64 0, .int .i64 0, .int .i64 0, .slice none 0 0, .slice none 0 0] ∧ Blk X0 (w.heap.size + 1) 33 [.int .i64 0, .int .i64 0, .int .i64 0, .int .i64 0, .int .i64 0, .int .i64 0, .slice none 0 0, .slice none 0 0] ∧ Below w.heap.size w X0) := Lib.hid (by
    rw [hX0]
    obtain ⟨h1, h2⟩ := two_blk w [.int .i64 0, .int .i64 0, .int .i64 0, .int .i64 0, .int .i64 0, .int .i64 0, .slice none 0 0, .slice none 0 0] [.int .i64 0, .int .i64 0, .int .i64 0, .int .i64 0, .int .i64 0, .int .i64 0, .slice none 0 0, .slice none 0 0] 33 33
    exact ⟨h1, h2, ((Below.refl _ _).alloc (Nat.le_refl _) _).alloc (by simp) _⟩)
  clear hat hl hn hws hk hb hc hnn
  go_enter Tryz.func34, Tryz.ntmps34
  go_wp2_with fail
  rw [← hX0]
  clear hX0
  go_loopw [4] (fun jv X => ∃ m : Nat, m ≤ 19 ∧ jv = .int .i64 ((m : Int) + 1) ∧ Blk X (w.heap.size + 1) 33 (.int .i64 (kindR actN x m) :: [.int .i64 0, .int .i64 0, .int .i64 0, .int .i64 0, .int .i64 0, .slice none 0 0, .slice none 0 0]) ∧ Blk X w.heap.size 33 [.int .i64 0, .int .i64 0, .int .i64 0, .int .i64 0, .int .i64 0, .int .i64 0, .slice none 0 0, .slice none 0 0] ∧ Below w.heap.size w X) (fun jv _ => 20 - (intOf jv).toNat)
  case atStart => exact ⟨0, Nat.zero_le _, rfl, HX0.out.2.1, HX0.out.1, HX0.out.2.2⟩
  case round =>
    obtain ⟨m, hm, rfl, hba, hbr, hbl⟩ := hrel
    have HW := Lib.hid (And.intro hba (And.intro hbr hbl))
    clear hba hbr hbl
    by_cases hlt : m < 19
    · have hlt' : (m : Int) + 1 ≤ 19 := by omega
      have HHD := Lib.hid (show Below wr.heap.size wr wr.drew from below_dr (Below.refl _ _) 1)
      obtain ⟨s1, hs1⟩ : ∃ s, s = bs (actN ((m : Int) + 1)) := ⟨_, rfl⟩
      obtain ⟨s2, hs2⟩ : ∃ s, s = bs x := ⟨_, rfl⟩
      have HC0 := Lib.hid (show ∀ X : World, Below wr.heap.size wr X → X.cell? ⟨b, o, none⟩ = some (.string s2) from fun X hX => by rw [hs2]; exact HCW.out X (HW.out.2.2.trans (hX.mono HW.out.2.2.size)))
      have HEQ := Lib.hid (show s1.toList = s2.toList ↔ actN ((m : Int) + 1) = x by rw [hs1, hs2]; exact bs_lists)
      have HAW1 := Lib.hid (fun X : World => HAW.out ((m : Int) + 1) X)
      rw [← hs1] at HAW1
      clear hs2 hs1
      go_wp2_with fail
      by_cases he : s1.toList = s2.toList
      · have HE := Lib.hid (HEQ.out.1 he)
        refine wp_region_held_drew (S := fun W' => Below wr.heap.size wr W') (by kernel_rfl) HHD.out (fun hHeld => ?_)
        refine wpAnyH_take (i := 0) (v := .slice (some ⟨b, o, none⟩) n c) rfl (by kernel_rfl) (by kernel_rfl) (by kernel_rfl) (fun _ _ _ h => h) (Or.inl ⟨by rfl, ?_⟩) (by assumption) ?_
        · intro w' hSw
          go_simp
        show wpAnyH _ _ _ _ _ _ _ (Act.put _ (some 13) _) _
        simp only [Act.put, List.setIfInBounds_toArray, List.set_cons_zero, List.set_cons_succ]
        refine wpAnyH_take (i := 1) (v := .int .i64 n) rfl (by kernel_rfl) (by kernel_rfl) (by kernel_rfl) (fun _ _ _ h => h) (Or.inl ⟨by rfl, ?_⟩) (by assumption) ?_
        · intro w' hSw
          go_simp
        show wpAnyH _ _ _ _ _ _ _ (Act.put _ (some 14) _) _
        simp only [Act.put, List.setIfInBounds_toArray, List.set_cons_zero, List.set_cons_succ]
        refine wpAnyH_take (i := 2) (v := .bool true) rfl (by kernel_rfl) (by kernel_rfl) (by kernel_rfl) (fun _ _ _ h => h) (Or.inl ⟨by rfl, ?_⟩) (by assumption) ?_
        · intro w' hSw
          go_simp
        show wpAnyH _ _ _ _ _ _ _ (Act.put _ (some 15) _) _
        simp only [Act.put, List.setIfInBounds_toArray, List.set_cons_zero, List.set_cons_succ]
        refine wpAnyH_take (i := 3) (v := .bool true) rfl (by kernel_rfl) (by kernel_rfl) (by kernel_rfl) (fun _ _ _ h => h) (Or.inl ⟨by rfl, ?_⟩) (by assumption) ?_
        · intro w' hSw
          go_simp
        show wpAnyH _ _ _ _ _ _ _ (Act.put _ (some 16) _) _
        simp only [Act.put, List.setIfInBounds_toArray, List.set_cons_zero, List.set_cons_succ]
        refine wpAnyH_take (i := 4) (v := .int .i64 ((m : Int) + 1)) rfl (by kernel_rfl) (by kernel_rfl) (by kernel_rfl) (fun _ _ _ h => h) (Or.inl ⟨by rfl, ?_⟩) (by assumption) ?_
        · intro w' hSw
          go_simp
        show wpAnyH _ _ _ _ _ _ _ (Act.put _ (some 17) _) _
        simp only [Act.put, List.setIfInBounds_toArray, List.set_cons_zero, List.set_cons_succ]
        refine wpAnyH_take (i := 6) (v := .slice (some ⟨b, o, none⟩) n c) rfl (by kernel_rfl) (by kernel_rfl) (by kernel_rfl) (fun _ _ _ h => h) (Or.inl ⟨by rfl, ?_⟩) (by assumption) ?_
        · intro w' hSw
          go_simp
        show wpAnyH _ _ _ _ _ _ _ (Act.put _ (some 19) _) _
        simp only [Act.put, List.setIfInBounds_toArray, List.set_cons_zero, List.set_cons_succ]
        refine wpAnyH_take (i := 7) (v := .pointer (some ⟨b, o, none⟩)) rfl (by kernel_rfl) (by kernel_rfl) (by kernel_rfl) (fun _ _ _ h => h) (Or.inl ⟨by rfl, ?_⟩) (by assumption) ?_
        · intro w' hSw
          go_simp
        show wpAnyH _ _ _ _ _ _ _ (Act.put _ (some 20) _) _
        simp only [Act.put, List.setIfInBounds_toArray, List.set_cons_zero, List.set_cons_succ]
        refine wpAnyH_take (i := 8) (v := .string s2) rfl (by kernel_rfl) (by kernel_rfl) (by kernel_rfl) (fun _ _ _ h => h) (Or.inl ⟨by rfl, ?_⟩) (by assumption) ?_
        · intro w' hSw
          have hc := HC0.out w' hSw
          go_simp
        show wpAnyH _ _ _ _ _ _ _ (Act.put _ (some 21) _) _
        simp only [Act.put, List.setIfInBounds_toArray, List.set_cons_zero, List.set_cons_succ]
        refine wpAnyH_ready (rs := [5]) (by kernel_rfl) (by simp) ?_
        refine AllReadyH.cons rfl (fun K hK => ?_) AllReadyH.nil
        go_simp
        refine (HAW1.out _).mono ?_
        rintro e Y1 ⟨rfl, hy1⟩
        go_simp
        refine hK.out _ _ (HHD.out.trans (hy1.mono HHD.out.size)) (fun hHeld => ?_)
        clear hK K
        have HY1 := Lib.hid hHeld
        clear hy1
        refine wpAnyH_take (i := 9) (v := .bool true) rfl (by kernel_rfl) (by kernel_rfl) (by kernel_rfl) (fun _ _ _ h => h) (Or.inl ⟨by rfl, ?_⟩) (by assumption) ?_
        · intro w' hSw
          go_simp
        show wpAnyH _ _ _ _ _ _ _ (Act.put _ (some 22) _) _
        simp only [Act.put, List.setIfInBounds_toArray, List.set_cons_zero, List.set_cons_succ]
        refine wpAnyH_take (i := 10) (v := .bool true) rfl (by kernel_rfl) (by kernel_rfl) (by kernel_rfl) (fun _ _ _ h => h) (Or.inl ⟨by rfl, ?_⟩) (by assumption) ?_
        · intro w' hSw
          go_simp
        show wpAnyH _ _ _ _ _ _ _ (Act.put _ (some 23) _) _
        simp only [Act.put, List.setIfInBounds_toArray, List.set_cons_zero, List.set_cons_succ]
        refine wpAnyH_done (by kernel_rfl) ?_ _
        have HBA := Lib.hid (HW.out.1.next HY1.out)
        have HBR := Lib.hid (HW.out.2.1.next HY1.out)
        have HBL := Lib.hid (HW.out.2.2.trans (HY1.out.mono HW.out.2.2.size))
        have hz := HBA.out.free 0
        have hy := HBA.out.cell (j := 0) rfl
        have hl3 := HBA.out.lt
        have HSET := Lib.hid (And.intro (HBA.out.set 0 (.int .i64 ((m : Int) + 1))) (And.intro (HBR.out.other (g := w.heap.size + 1) (by omega) 0 (.int .i64 ((m : Int) + 1))) (HBL.out.setCell (p := ⟨w.heap.size + 1, 0, none⟩) (by show w.heap.size ≤ w.heap.size + 1; omega) (.int .i64 ((m : Int) + 1)))))
        clear he
        go_wp2_with fail
        go_roundw
        case rel => exact ⟨m + 1, by omega, by go_num, by rw [kindR_yes HE.out]; exact HSET.out.1, HSET.out.2.1, HSET.out.2.2⟩
        case measure => simp [intOf]; omega
      · have HE := Lib.hid (show ¬ actN ((m : Int) + 1) = x from fun q => he (HEQ.out.2 q))
        refine wp_region_held_drew (S := fun W' => Below wr.heap.size wr W') (by kernel_rfl) HHD.out (fun hHeld => ?_)
        refine wpAnyH_take (i := 0) (v := .slice (some ⟨b, o, none⟩) n c) rfl (by kernel_rfl) (by kernel_rfl) (by kernel_rfl) (fun _ _ _ h => h) (Or.inl ⟨by rfl, ?_⟩) (by assumption) ?_
        · intro w' hSw
          go_simp
        show wpAnyH _ _ _ _ _ _ _ (Act.put _ (some 13) _) _
        simp only [Act.put, List.setIfInBounds_toArray, List.set_cons_zero, List.set_cons_succ]
        refine wpAnyH_take (i := 1) (v := .int .i64 n) rfl (by kernel_rfl) (by kernel_rfl) (by kernel_rfl) (fun _ _ _ h => h) (Or.inl ⟨by rfl, ?_⟩) (by assumption) ?_
        · intro w' hSw
          go_simp
        show wpAnyH _ _ _ _ _ _ _ (Act.put _ (some 14) _) _
        simp only [Act.put, List.setIfInBounds_toArray, List.set_cons_zero, List.set_cons_succ]
        refine wpAnyH_take (i := 2) (v := .bool true) rfl (by kernel_rfl) (by kernel_rfl) (by kernel_rfl) (fun _ _ _ h => h) (Or.inl ⟨by rfl, ?_⟩) (by assumption) ?_
        · intro w' hSw
          go_simp
        show wpAnyH _ _ _ _ _ _ _ (Act.put _ (some 15) _) _
        simp only [Act.put, List.setIfInBounds_toArray, List.set_cons_zero, List.set_cons_succ]
        refine wpAnyH_take (i := 3) (v := .bool true) rfl (by kernel_rfl) (by kernel_rfl) (by kernel_rfl) (fun _ _ _ h => h) (Or.inl ⟨by rfl, ?_⟩) (by assumption) ?_
        · intro w' hSw
          go_simp
        show wpAnyH _ _ _ _ _ _ _ (Act.put _ (some 16) _) _
        simp only [Act.put, List.setIfInBounds_toArray, List.set_cons_zero, List.set_cons_succ]
        refine wpAnyH_take (i := 4) (v := .int .i64 ((m : Int) + 1)) rfl (by kernel_rfl) (by kernel_rfl) (by kernel_rfl) (fun _ _ _ h => h) (Or.inl ⟨by rfl, ?_⟩) (by assumption) ?_
        · intro w' hSw
          go_simp
        show wpAnyH _ _ _ _ _ _ _ (Act.put _ (some 17) _) _
        simp only [Act.put, List.setIfInBounds_toArray, List.set_cons_zero, List.set_cons_succ]
        refine wpAnyH_take (i := 6) (v := .slice (some ⟨b, o, none⟩) n c) rfl (by kernel_rfl) (by kernel_rfl) (by kernel_rfl) (fun _ _ _ h => h) (Or.inl ⟨by rfl, ?_⟩) (by assumption) ?_
        · intro w' hSw
          go_simp
        show wpAnyH _ _ _ _ _ _ _ (Act.put _ (some 19) _) _
        simp only [Act.put, List.setIfInBounds_toArray, List.set_cons_zero, List.set_cons_succ]
        refine wpAnyH_take (i := 7) (v := .pointer (some ⟨b, o, none⟩)) rfl (by kernel_rfl) (by kernel_rfl) (by kernel_rfl) (fun _ _ _ h => h) (Or.inl ⟨by rfl, ?_⟩) (by assumption) ?_
        · intro w' hSw
          go_simp
        show wpAnyH _ _ _ _ _ _ _ (Act.put _ (some 20) _) _
        simp only [Act.put, List.setIfInBounds_toArray, List.set_cons_zero, List.set_cons_succ]
        refine wpAnyH_take (i := 8) (v := .string s2) rfl (by kernel_rfl) (by kernel_rfl) (by kernel_rfl) (fun _ _ _ h => h) (Or.inl ⟨by rfl, ?_⟩) (by assumption) ?_
        · intro w' hSw
          have hc := HC0.out w' hSw
          go_simp
        show wpAnyH _ _ _ _ _ _ _ (Act.put _ (some 21) _) _
        simp only [Act.put, List.setIfInBounds_toArray, List.set_cons_zero, List.set_cons_succ]
        refine wpAnyH_ready (rs := [5]) (by kernel_rfl) (by simp) ?_
        refine AllReadyH.cons rfl (fun K hK => ?_) AllReadyH.nil
        go_simp
        refine (HAW1.out _).mono ?_
        rintro e Y1 ⟨rfl, hy1⟩
        go_simp
        refine hK.out _ _ (HHD.out.trans (hy1.mono HHD.out.size)) (fun hHeld => ?_)
        clear hK K
        have HY1 := Lib.hid hHeld
        clear hy1
        refine wpAnyH_take (i := 9) (v := .bool false) rfl (by kernel_rfl) (by kernel_rfl) (by kernel_rfl) (fun _ _ _ h => h) (Or.inl ⟨by rfl, ?_⟩) (by assumption) ?_
        · intro w' hSw
          go_simp
        show wpAnyH _ _ _ _ _ _ _ (Act.put _ (some 22) _) _
        simp only [Act.put, List.setIfInBounds_toArray, List.set_cons_zero, List.set_cons_succ]
        refine wpAnyH_take (i := 10) (v := .bool false) rfl (by kernel_rfl) (by kernel_rfl) (by kernel_rfl) (fun _ _ _ h => h) (Or.inl ⟨by rfl, ?_⟩) (by assumption) ?_
        · intro w' hSw
          go_simp
        show wpAnyH _ _ _ _ _ _ _ (Act.put _ (some 23) _) _
        simp only [Act.put, List.setIfInBounds_toArray, List.set_cons_zero, List.set_cons_succ]
        refine wpAnyH_done (by kernel_rfl) ?_ _
        have HBA := Lib.hid (HW.out.1.next HY1.out)
        have HBR := Lib.hid (HW.out.2.1.next HY1.out)
        have HBL := Lib.hid (HW.out.2.2.trans (HY1.out.mono HW.out.2.2.size))
        clear he
        go_wp2_with fail
        go_roundw
        case rel => exact ⟨m + 1, by omega, by go_num, by rw [kindR_no HE.out]; exact HBA.out, HBR.out, HBL.out⟩
        case measure => simp [intOf]; omega
    · obtain rfl : m = 19 := by omega
      rw [HKD.out.1] at HW
      have HA1 := Lib.hid (HAT.out 1 wr HW.out.2.2)
      obtain ⟨v1, hv1⟩ : ∃ v, v = atR ws 1 := ⟨_, rfl⟩
      have HV1 := Lib.hid hv1
      rw [← hv1] at HA1
      clear hv1
      go_wp2_with fail
      refine HA1.out.mono ?_
      rintro e Y ⟨rfl, hY⟩
      rw [hY]
      clear hY Y
      have hz0 := HW.out.1.cell (j := 0) rfl
      clear HA1
      have HA1 := Lib.hid (HAT.out 1 wr HW.out.2.2)
      rw [← HV1.out] at HA1
      have hy3 := HW.out.1.cell (j := 3) rfl
      have hf3 := HW.out.1.free 3
      have hl3 := HW.out.1.lt
      obtain ⟨D, hD⟩ : ∃ D, D = (actCs ({ kindM 3 with call := v1 } : ActM)).toArray := ⟨_, rfl⟩
      have hrow : (wr.setCell ⟨w.heap.size + 1, 3, none⟩ (.int .i64 v1)).heap[w.heap.size + 1]? = some (.cells D 33 (0, 0)) := by rw [hD]; exact (HW.out.1.set 3 (.int .i64 v1))
      have hrw : (wr.setCell ⟨w.heap.size + 1, 3, none⟩ (.int .i64 v1)).heap[w.heap.size]? = some (.cells #[.int .i64 0, .int .i64 0, .int .i64 0, .int .i64 0, .int .i64 0, .int .i64 0, .slice none 0 0, .slice none 0 0] 33 (0, 0)) := (HW.out.2.1.other (g := w.heap.size + 1) (by omega) 3 (.int .i64 v1))
      have hsz : (Tryz.prog.info? 33).map (·.size) = some D.size := by rw [hD]; exact act_size
      have hold : (#[.int .i64 0, .int .i64 0, .int .i64 0, .int .i64 0, .int .i64 0, .int .i64 0, .slice none 0 0, .slice none 0 0] : Array Value).size = D.size := by rw [hD]; rfl
      have hone : D.all (·.oneCell') = true := by rw [hD]; exact actCs_one _
      have HDV := Lib.hid (show actV ({ kindM 3 with call := v1 } : ActM) = .agg D by rw [hD]; rfl)
      clear hD
      go_wp2_with (first | (refine wpList_load_row_g (by rfl) 33 (.tmp 3) rfl (w.heap.size + 1) rfl 33 D (0, 0) _ hrow Tryz.underlying33 rfl hsz ?_) | (refine wpList_store_row rfl 33 (.tmp 2) (.tmp 142) rfl w.heap.size D rfl rfl 33 _ hrw hsz hold hone ?_))
      refine HA1.out.mono ?_
      rintro e Y ⟨rfl, hY⟩
      rw [hY]
      clear hY Y
      go_wp2_with (first | (refine wpList_load_row_g (by rfl) 33 (.tmp 3) rfl (w.heap.size + 1) rfl 33 D (0, 0) _ hrow Tryz.underlying33 rfl hsz ?_) | (refine wpList_store_row rfl 33 (.tmp 2) (.tmp 142) rfl w.heap.size D rfl rfl 33 _ hrw hsz hold hone ?_))
      refine bodyPost_ret (results_cell1 Tryz.results34 _ _ w.heap.size 33 D (0, 0) _ (by rfl) (setRow_heap _ _ _ _ _ _ hrw) Tryz.underlying33 rfl hsz) rfl ?_
      refine ⟨({ kindM 3 with call := v1 } : ActM), by rw [HDV.out], ?_, ⟨SrcO.nil _ _, nil_own _ _⟩, below_setR ((HW.out.2.2.setCell (p := ⟨w.heap.size + 1, 3, none⟩) (by show w.heap.size ≤ w.heap.size + 1; omega) (.int .i64 v1))) (Nat.le_refl _) _⟩
      rw [HKD.out.2.1]
      rw [HV1.out]
      rfl
set_option maxRecDepth 100000 in
set_option maxHeartbeats 8000000 in
theorem guess51_4 (ws : List Wd) (A : Option Addr) (c : Nat) (w : World) (hat : WdsAt w w.heap.size A ws) (hl : ∀ x ∈ ws, x.length ≤ 1000000000) (hn : ws.length ≤ 1000000) (x : Wd) (r : List Wd) (hws : ws = x :: r) (hk : kindR actN x 19 = 4) : Calls Tryz.prog 34 #[.slice A ws.length c] w (RetG ws w) := by
  obtain ⟨b, o, rfl, hb, hc⟩ := hat.at (i := 0) (x := x) (by rw [hws]; rfl)
  have hc : w.cell? ⟨b, o, none⟩ = some (.string (bs x)) := hc
  have HAT := Lib.hid (fun (j : Nat) (X : World) (hb : Below w.heap.size w X) => at51_any ws (some ⟨b, o, none⟩) c j X w.heap.size (Sl.below hat hb) hl (by omega))
  have HSP := Lib.hid (fun (j : Nat) (X : World) (hb : Below w.heap.size w X) (hj : j ≤ 1000000000) => span51_any ws (some ⟨b, o, none⟩) c j X (Sl.more (Sl.below hat hb) hb.size) hl hn hj)
  have HAW := Lib.hid (fun (k : Int) (X : World) => actWord_any k X)
  have HKD := Lib.hid (And.intro hk (And.intro (guess_kind hws hk) hn))
  have HCW := Lib.hid (show ∀ X : World, Below w.heap.size w X → X.cell? ⟨b, o, none⟩ = some (.string (bs x)) from fun X hX => (hX.cell (p := ⟨b, o, none⟩) hb).trans hc)
  obtain ⟨n, hnn⟩ : ∃ n, n = ws.length := ⟨_, rfl⟩
  have hn1 : n ≤ 1000000 := by omega
  have hn0 : 0 < n := by rw [hnn, hws]; simp
  have hn0' : (0 : Int) < (n : Int) := by omega
  have HNN := Lib.hid hnn
  rw [← hnn] at HAT HSP ⊢
  obtain ⟨X0, hX0⟩ : ∃ X0, X0 = ((w.alloc (.cells #[.int .i64 0, .int .i64 0, .int .i64 0, .int .i64 0, .int .i64 0, .int .i64 0, .slice none 0 0, .slice none 0 0] 33)).alloc (.cells #[.int .i64 0, .int .i64 0, .int .i64 0, .int .i64 0, .int .i64 0, .int .i64 0, .slice none 0 0, .slice none 0 0] 33)) := ⟨_, rfl⟩
  have HX0 : Hid (Blk X0 w.heap.size 33 [.int .i64 0, .int .i64 0, .int .i64 0, .int .i64 0, .int .i64 0, .int .i64 0, .slice none 0 0, .slice none 0 0] ∧ Blk X0 (w.heap.size + 1) 33 [.int .i64 0, .int .i64 0, .int .i64 0, .int .i64 0, .int .i64 0, .int .i64 0, .slice none 0 0, .slice none 0 0] ∧ Below w.heap.size w X0) := Lib.hid (by
    rw [hX0]
    obtain ⟨h1, h2⟩ := two_blk w [.int .i64 0, .int .i64 0, .int .i64 0, .int .i64 0, .int .i64 0, .int .i64 0, .slice none 0 0, .slice none 0 0] [.int .i64 0, .int .i64 0, .int .i64 0, .int .i64 0, .int .i64 0, .int .i64 0, .slice none 0 0, .slice none 0 0] 33 33
    exact ⟨h1, h2, ((Below.refl _ _).alloc (Nat.le_refl _) _).alloc (by simp) _⟩)
  clear hat hl hn hws hk hb hc hnn
  go_enter Tryz.func34, Tryz.ntmps34
  go_wp2_with fail
  rw [← hX0]
  clear hX0
  go_loopw [4] (fun jv X => ∃ m : Nat, m ≤ 19 ∧ jv = .int .i64 ((m : Int) + 1) ∧ Blk X (w.heap.size + 1) 33 (.int .i64 (kindR actN x m) :: [.int .i64 0, .int .i64 0, .int .i64 0, .int .i64 0, .int .i64 0, .slice none 0 0, .slice none 0 0]) ∧ Blk X w.heap.size 33 [.int .i64 0, .int .i64 0, .int .i64 0, .int .i64 0, .int .i64 0, .int .i64 0, .slice none 0 0, .slice none 0 0] ∧ Below w.heap.size w X) (fun jv _ => 20 - (intOf jv).toNat)
  case atStart => exact ⟨0, Nat.zero_le _, rfl, HX0.out.2.1, HX0.out.1, HX0.out.2.2⟩
  case round =>
    obtain ⟨m, hm, rfl, hba, hbr, hbl⟩ := hrel
    have HW := Lib.hid (And.intro hba (And.intro hbr hbl))
    clear hba hbr hbl
    by_cases hlt : m < 19
    · have hlt' : (m : Int) + 1 ≤ 19 := by omega
      have HHD := Lib.hid (show Below wr.heap.size wr wr.drew from below_dr (Below.refl _ _) 1)
      obtain ⟨s1, hs1⟩ : ∃ s, s = bs (actN ((m : Int) + 1)) := ⟨_, rfl⟩
      obtain ⟨s2, hs2⟩ : ∃ s, s = bs x := ⟨_, rfl⟩
      have HC0 := Lib.hid (show ∀ X : World, Below wr.heap.size wr X → X.cell? ⟨b, o, none⟩ = some (.string s2) from fun X hX => by rw [hs2]; exact HCW.out X (HW.out.2.2.trans (hX.mono HW.out.2.2.size)))
      have HEQ := Lib.hid (show s1.toList = s2.toList ↔ actN ((m : Int) + 1) = x by rw [hs1, hs2]; exact bs_lists)
      have HAW1 := Lib.hid (fun X : World => HAW.out ((m : Int) + 1) X)
      rw [← hs1] at HAW1
      clear hs2 hs1
      go_wp2_with fail
      by_cases he : s1.toList = s2.toList
      · have HE := Lib.hid (HEQ.out.1 he)
        refine wp_region_held_drew (S := fun W' => Below wr.heap.size wr W') (by kernel_rfl) HHD.out (fun hHeld => ?_)
        refine wpAnyH_take (i := 0) (v := .slice (some ⟨b, o, none⟩) n c) rfl (by kernel_rfl) (by kernel_rfl) (by kernel_rfl) (fun _ _ _ h => h) (Or.inl ⟨by rfl, ?_⟩) (by assumption) ?_
        · intro w' hSw
          go_simp
        show wpAnyH _ _ _ _ _ _ _ (Act.put _ (some 13) _) _
        simp only [Act.put, List.setIfInBounds_toArray, List.set_cons_zero, List.set_cons_succ]
        refine wpAnyH_take (i := 1) (v := .int .i64 n) rfl (by kernel_rfl) (by kernel_rfl) (by kernel_rfl) (fun _ _ _ h => h) (Or.inl ⟨by rfl, ?_⟩) (by assumption) ?_
        · intro w' hSw
          go_simp
        show wpAnyH _ _ _ _ _ _ _ (Act.put _ (some 14) _) _
        simp only [Act.put, List.setIfInBounds_toArray, List.set_cons_zero, List.set_cons_succ]
        refine wpAnyH_take (i := 2) (v := .bool true) rfl (by kernel_rfl) (by kernel_rfl) (by kernel_rfl) (fun _ _ _ h => h) (Or.inl ⟨by rfl, ?_⟩) (by assumption) ?_
        · intro w' hSw
          go_simp
        show wpAnyH _ _ _ _ _ _ _ (Act.put _ (some 15) _) _
        simp only [Act.put, List.setIfInBounds_toArray, List.set_cons_zero, List.set_cons_succ]
        refine wpAnyH_take (i := 3) (v := .bool true) rfl (by kernel_rfl) (by kernel_rfl) (by kernel_rfl) (fun _ _ _ h => h) (Or.inl ⟨by rfl, ?_⟩) (by assumption) ?_
        · intro w' hSw
          go_simp
        show wpAnyH _ _ _ _ _ _ _ (Act.put _ (some 16) _) _
        simp only [Act.put, List.setIfInBounds_toArray, List.set_cons_zero, List.set_cons_succ]
        refine wpAnyH_take (i := 4) (v := .int .i64 ((m : Int) + 1)) rfl (by kernel_rfl) (by kernel_rfl) (by kernel_rfl) (fun _ _ _ h => h) (Or.inl ⟨by rfl, ?_⟩) (by assumption) ?_
        · intro w' hSw
          go_simp
        show wpAnyH _ _ _ _ _ _ _ (Act.put _ (some 17) _) _
        simp only [Act.put, List.setIfInBounds_toArray, List.set_cons_zero, List.set_cons_succ]
        refine wpAnyH_take (i := 6) (v := .slice (some ⟨b, o, none⟩) n c) rfl (by kernel_rfl) (by kernel_rfl) (by kernel_rfl) (fun _ _ _ h => h) (Or.inl ⟨by rfl, ?_⟩) (by assumption) ?_
        · intro w' hSw
          go_simp
        show wpAnyH _ _ _ _ _ _ _ (Act.put _ (some 19) _) _
        simp only [Act.put, List.setIfInBounds_toArray, List.set_cons_zero, List.set_cons_succ]
        refine wpAnyH_take (i := 7) (v := .pointer (some ⟨b, o, none⟩)) rfl (by kernel_rfl) (by kernel_rfl) (by kernel_rfl) (fun _ _ _ h => h) (Or.inl ⟨by rfl, ?_⟩) (by assumption) ?_
        · intro w' hSw
          go_simp
        show wpAnyH _ _ _ _ _ _ _ (Act.put _ (some 20) _) _
        simp only [Act.put, List.setIfInBounds_toArray, List.set_cons_zero, List.set_cons_succ]
        refine wpAnyH_take (i := 8) (v := .string s2) rfl (by kernel_rfl) (by kernel_rfl) (by kernel_rfl) (fun _ _ _ h => h) (Or.inl ⟨by rfl, ?_⟩) (by assumption) ?_
        · intro w' hSw
          have hc := HC0.out w' hSw
          go_simp
        show wpAnyH _ _ _ _ _ _ _ (Act.put _ (some 21) _) _
        simp only [Act.put, List.setIfInBounds_toArray, List.set_cons_zero, List.set_cons_succ]
        refine wpAnyH_ready (rs := [5]) (by kernel_rfl) (by simp) ?_
        refine AllReadyH.cons rfl (fun K hK => ?_) AllReadyH.nil
        go_simp
        refine (HAW1.out _).mono ?_
        rintro e Y1 ⟨rfl, hy1⟩
        go_simp
        refine hK.out _ _ (HHD.out.trans (hy1.mono HHD.out.size)) (fun hHeld => ?_)
        clear hK K
        have HY1 := Lib.hid hHeld
        clear hy1
        refine wpAnyH_take (i := 9) (v := .bool true) rfl (by kernel_rfl) (by kernel_rfl) (by kernel_rfl) (fun _ _ _ h => h) (Or.inl ⟨by rfl, ?_⟩) (by assumption) ?_
        · intro w' hSw
          go_simp
        show wpAnyH _ _ _ _ _ _ _ (Act.put _ (some 22) _) _
        simp only [Act.put, List.setIfInBounds_toArray, List.set_cons_zero, List.set_cons_succ]
        refine wpAnyH_take (i := 10) (v := .bool true) rfl (by kernel_rfl) (by kernel_rfl) (by kernel_rfl) (fun _ _ _ h => h) (Or.inl ⟨by rfl, ?_⟩) (by assumption) ?_
        · intro w' hSw
          go_simp
        show wpAnyH _ _ _ _ _ _ _ (Act.put _ (some 23) _) _
        simp only [Act.put, List.setIfInBounds_toArray, List.set_cons_zero, List.set_cons_succ]
        refine wpAnyH_done (by kernel_rfl) ?_ _
        have HBA := Lib.hid (HW.out.1.next HY1.out)
        have HBR := Lib.hid (HW.out.2.1.next HY1.out)
        have HBL := Lib.hid (HW.out.2.2.trans (HY1.out.mono HW.out.2.2.size))
        have hz := HBA.out.free 0
        have hy := HBA.out.cell (j := 0) rfl
        have hl3 := HBA.out.lt
        have HSET := Lib.hid (And.intro (HBA.out.set 0 (.int .i64 ((m : Int) + 1))) (And.intro (HBR.out.other (g := w.heap.size + 1) (by omega) 0 (.int .i64 ((m : Int) + 1))) (HBL.out.setCell (p := ⟨w.heap.size + 1, 0, none⟩) (by show w.heap.size ≤ w.heap.size + 1; omega) (.int .i64 ((m : Int) + 1)))))
        clear he
        go_wp2_with fail
        go_roundw
        case rel => exact ⟨m + 1, by omega, by go_num, by rw [kindR_yes HE.out]; exact HSET.out.1, HSET.out.2.1, HSET.out.2.2⟩
        case measure => simp [intOf]; omega
      · have HE := Lib.hid (show ¬ actN ((m : Int) + 1) = x from fun q => he (HEQ.out.2 q))
        refine wp_region_held_drew (S := fun W' => Below wr.heap.size wr W') (by kernel_rfl) HHD.out (fun hHeld => ?_)
        refine wpAnyH_take (i := 0) (v := .slice (some ⟨b, o, none⟩) n c) rfl (by kernel_rfl) (by kernel_rfl) (by kernel_rfl) (fun _ _ _ h => h) (Or.inl ⟨by rfl, ?_⟩) (by assumption) ?_
        · intro w' hSw
          go_simp
        show wpAnyH _ _ _ _ _ _ _ (Act.put _ (some 13) _) _
        simp only [Act.put, List.setIfInBounds_toArray, List.set_cons_zero, List.set_cons_succ]
        refine wpAnyH_take (i := 1) (v := .int .i64 n) rfl (by kernel_rfl) (by kernel_rfl) (by kernel_rfl) (fun _ _ _ h => h) (Or.inl ⟨by rfl, ?_⟩) (by assumption) ?_
        · intro w' hSw
          go_simp
        show wpAnyH _ _ _ _ _ _ _ (Act.put _ (some 14) _) _
        simp only [Act.put, List.setIfInBounds_toArray, List.set_cons_zero, List.set_cons_succ]
        refine wpAnyH_take (i := 2) (v := .bool true) rfl (by kernel_rfl) (by kernel_rfl) (by kernel_rfl) (fun _ _ _ h => h) (Or.inl ⟨by rfl, ?_⟩) (by assumption) ?_
        · intro w' hSw
          go_simp
        show wpAnyH _ _ _ _ _ _ _ (Act.put _ (some 15) _) _
        simp only [Act.put, List.setIfInBounds_toArray, List.set_cons_zero, List.set_cons_succ]
        refine wpAnyH_take (i := 3) (v := .bool true) rfl (by kernel_rfl) (by kernel_rfl) (by kernel_rfl) (fun _ _ _ h => h) (Or.inl ⟨by rfl, ?_⟩) (by assumption) ?_
        · intro w' hSw
          go_simp
        show wpAnyH _ _ _ _ _ _ _ (Act.put _ (some 16) _) _
        simp only [Act.put, List.setIfInBounds_toArray, List.set_cons_zero, List.set_cons_succ]
        refine wpAnyH_take (i := 4) (v := .int .i64 ((m : Int) + 1)) rfl (by kernel_rfl) (by kernel_rfl) (by kernel_rfl) (fun _ _ _ h => h) (Or.inl ⟨by rfl, ?_⟩) (by assumption) ?_
        · intro w' hSw
          go_simp
        show wpAnyH _ _ _ _ _ _ _ (Act.put _ (some 17) _) _
        simp only [Act.put, List.setIfInBounds_toArray, List.set_cons_zero, List.set_cons_succ]
        refine wpAnyH_take (i := 6) (v := .slice (some ⟨b, o, none⟩) n c) rfl (by kernel_rfl) (by kernel_rfl) (by kernel_rfl) (fun _ _ _ h => h) (Or.inl ⟨by rfl, ?_⟩) (by assumption) ?_
        · intro w' hSw
          go_simp
        show wpAnyH _ _ _ _ _ _ _ (Act.put _ (some 19) _) _
        simp only [Act.put, List.setIfInBounds_toArray, List.set_cons_zero, List.set_cons_succ]
        refine wpAnyH_take (i := 7) (v := .pointer (some ⟨b, o, none⟩)) rfl (by kernel_rfl) (by kernel_rfl) (by kernel_rfl) (fun _ _ _ h => h) (Or.inl ⟨by rfl, ?_⟩) (by assumption) ?_
        · intro w' hSw
          go_simp
        show wpAnyH _ _ _ _ _ _ _ (Act.put _ (some 20) _) _
        simp only [Act.put, List.setIfInBounds_toArray, List.set_cons_zero, List.set_cons_succ]
        refine wpAnyH_take (i := 8) (v := .string s2) rfl (by kernel_rfl) (by kernel_rfl) (by kernel_rfl) (fun _ _ _ h => h) (Or.inl ⟨by rfl, ?_⟩) (by assumption) ?_
        · intro w' hSw
          have hc := HC0.out w' hSw
          go_simp
        show wpAnyH _ _ _ _ _ _ _ (Act.put _ (some 21) _) _
        simp only [Act.put, List.setIfInBounds_toArray, List.set_cons_zero, List.set_cons_succ]
        refine wpAnyH_ready (rs := [5]) (by kernel_rfl) (by simp) ?_
        refine AllReadyH.cons rfl (fun K hK => ?_) AllReadyH.nil
        go_simp
        refine (HAW1.out _).mono ?_
        rintro e Y1 ⟨rfl, hy1⟩
        go_simp
        refine hK.out _ _ (HHD.out.trans (hy1.mono HHD.out.size)) (fun hHeld => ?_)
        clear hK K
        have HY1 := Lib.hid hHeld
        clear hy1
        refine wpAnyH_take (i := 9) (v := .bool false) rfl (by kernel_rfl) (by kernel_rfl) (by kernel_rfl) (fun _ _ _ h => h) (Or.inl ⟨by rfl, ?_⟩) (by assumption) ?_
        · intro w' hSw
          go_simp
        show wpAnyH _ _ _ _ _ _ _ (Act.put _ (some 22) _) _
        simp only [Act.put, List.setIfInBounds_toArray, List.set_cons_zero, List.set_cons_succ]
        refine wpAnyH_take (i := 10) (v := .bool false) rfl (by kernel_rfl) (by kernel_rfl) (by kernel_rfl) (fun _ _ _ h => h) (Or.inl ⟨by rfl, ?_⟩) (by assumption) ?_
        · intro w' hSw
          go_simp
        show wpAnyH _ _ _ _ _ _ _ (Act.put _ (some 23) _) _
        simp only [Act.put, List.setIfInBounds_toArray, List.set_cons_zero, List.set_cons_succ]
        refine wpAnyH_done (by kernel_rfl) ?_ _
        have HBA := Lib.hid (HW.out.1.next HY1.out)
        have HBR := Lib.hid (HW.out.2.1.next HY1.out)
        have HBL := Lib.hid (HW.out.2.2.trans (HY1.out.mono HW.out.2.2.size))
        clear he
        go_wp2_with fail
        go_roundw
        case rel => exact ⟨m + 1, by omega, by go_num, by rw [kindR_no HE.out]; exact HBA.out, HBR.out, HBL.out⟩
        case measure => simp [intOf]; omega
    · obtain rfl : m = 19 := by omega
      rw [HKD.out.1] at HW
      have HA1 := Lib.hid (HAT.out 1 wr HW.out.2.2)
      obtain ⟨v1, hv1⟩ : ∃ v, v = atR ws 1 := ⟨_, rfl⟩
      have HV1 := Lib.hid hv1
      rw [← hv1] at HA1
      clear hv1
      go_wp2_with fail
      refine HA1.out.mono ?_
      rintro e Y ⟨rfl, hY⟩
      rw [hY]
      clear hY Y
      have hz0 := HW.out.1.cell (j := 0) rfl
      clear HA1
      have hl3 := HW.out.1.lt
      obtain ⟨D, hD⟩ : ∃ D, D = (actCs (kindM 4)).toArray := ⟨_, rfl⟩
      have hrow : (wr).heap[w.heap.size + 1]? = some (.cells D 33 (0, 0)) := by rw [hD]; exact HW.out.1
      have hrw : (wr).heap[w.heap.size]? = some (.cells #[.int .i64 0, .int .i64 0, .int .i64 0, .int .i64 0, .int .i64 0, .int .i64 0, .slice none 0 0, .slice none 0 0] 33 (0, 0)) := HW.out.2.1
      have hsz : (Tryz.prog.info? 33).map (·.size) = some D.size := by rw [hD]; exact act_size
      have hold : (#[.int .i64 0, .int .i64 0, .int .i64 0, .int .i64 0, .int .i64 0, .int .i64 0, .slice none 0 0, .slice none 0 0] : Array Value).size = D.size := by rw [hD]; rfl
      have hone : D.all (·.oneCell') = true := by rw [hD]; exact actCs_one _
      have HDV := Lib.hid (show actV (kindM 4) = .agg D by rw [hD]; rfl)
      clear hD
      go_wp2_with (first | (refine wpList_load_row_g (by rfl) 33 (.tmp 3) rfl (w.heap.size + 1) rfl 33 D (0, 0) _ hrow Tryz.underlying33 rfl hsz ?_) | (refine wpList_store_row rfl 33 (.tmp 2) (.tmp 142) rfl w.heap.size D rfl rfl 33 _ hrw hsz hold hone ?_))
      refine bodyPost_ret (results_cell1 Tryz.results34 _ _ w.heap.size 33 D (0, 0) _ (by rfl) (setRow_heap _ _ _ _ _ _ hrw) Tryz.underlying33 rfl hsz) rfl ?_
      refine ⟨(kindM 4), by rw [HDV.out], ?_, ⟨SrcO.nil _ _, nil_own _ _⟩, below_setR (HW.out.2.2) (Nat.le_refl _) _⟩
      rw [HKD.out.2.1]
      rfl
set_option maxRecDepth 100000 in
set_option maxHeartbeats 8000000 in
theorem guess51_5 (ws : List Wd) (A : Option Addr) (c : Nat) (w : World) (hat : WdsAt w w.heap.size A ws) (hl : ∀ x ∈ ws, x.length ≤ 1000000000) (hn : ws.length ≤ 1000000) (x : Wd) (r : List Wd) (hws : ws = x :: r) (hk : kindR actN x 19 = 5) : Calls Tryz.prog 34 #[.slice A ws.length c] w (RetG ws w) := by
  obtain ⟨b, o, rfl, hb, hc⟩ := hat.at (i := 0) (x := x) (by rw [hws]; rfl)
  have hc : w.cell? ⟨b, o, none⟩ = some (.string (bs x)) := hc
  have HAT := Lib.hid (fun (j : Nat) (X : World) (hb : Below w.heap.size w X) => at51_any ws (some ⟨b, o, none⟩) c j X w.heap.size (Sl.below hat hb) hl (by omega))
  have HSP := Lib.hid (fun (j : Nat) (X : World) (hb : Below w.heap.size w X) (hj : j ≤ 1000000000) => span51_any ws (some ⟨b, o, none⟩) c j X (Sl.more (Sl.below hat hb) hb.size) hl hn hj)
  have HAW := Lib.hid (fun (k : Int) (X : World) => actWord_any k X)
  have HKD := Lib.hid (And.intro hk (And.intro (guess_kind hws hk) hn))
  have HCW := Lib.hid (show ∀ X : World, Below w.heap.size w X → X.cell? ⟨b, o, none⟩ = some (.string (bs x)) from fun X hX => (hX.cell (p := ⟨b, o, none⟩) hb).trans hc)
  obtain ⟨n, hnn⟩ : ∃ n, n = ws.length := ⟨_, rfl⟩
  have hn1 : n ≤ 1000000 := by omega
  have hn0 : 0 < n := by rw [hnn, hws]; simp
  have hn0' : (0 : Int) < (n : Int) := by omega
  have HNN := Lib.hid hnn
  rw [← hnn] at HAT HSP ⊢
  obtain ⟨X0, hX0⟩ : ∃ X0, X0 = ((w.alloc (.cells #[.int .i64 0, .int .i64 0, .int .i64 0, .int .i64 0, .int .i64 0, .int .i64 0, .slice none 0 0, .slice none 0 0] 33)).alloc (.cells #[.int .i64 0, .int .i64 0, .int .i64 0, .int .i64 0, .int .i64 0, .int .i64 0, .slice none 0 0, .slice none 0 0] 33)) := ⟨_, rfl⟩
  have HX0 : Hid (Blk X0 w.heap.size 33 [.int .i64 0, .int .i64 0, .int .i64 0, .int .i64 0, .int .i64 0, .int .i64 0, .slice none 0 0, .slice none 0 0] ∧ Blk X0 (w.heap.size + 1) 33 [.int .i64 0, .int .i64 0, .int .i64 0, .int .i64 0, .int .i64 0, .int .i64 0, .slice none 0 0, .slice none 0 0] ∧ Below w.heap.size w X0) := Lib.hid (by
    rw [hX0]
    obtain ⟨h1, h2⟩ := two_blk w [.int .i64 0, .int .i64 0, .int .i64 0, .int .i64 0, .int .i64 0, .int .i64 0, .slice none 0 0, .slice none 0 0] [.int .i64 0, .int .i64 0, .int .i64 0, .int .i64 0, .int .i64 0, .int .i64 0, .slice none 0 0, .slice none 0 0] 33 33
    exact ⟨h1, h2, ((Below.refl _ _).alloc (Nat.le_refl _) _).alloc (by simp) _⟩)
  clear hat hl hn hws hk hb hc hnn
  go_enter Tryz.func34, Tryz.ntmps34
  go_wp2_with fail
  rw [← hX0]
  clear hX0
  go_loopw [4] (fun jv X => ∃ m : Nat, m ≤ 19 ∧ jv = .int .i64 ((m : Int) + 1) ∧ Blk X (w.heap.size + 1) 33 (.int .i64 (kindR actN x m) :: [.int .i64 0, .int .i64 0, .int .i64 0, .int .i64 0, .int .i64 0, .slice none 0 0, .slice none 0 0]) ∧ Blk X w.heap.size 33 [.int .i64 0, .int .i64 0, .int .i64 0, .int .i64 0, .int .i64 0, .int .i64 0, .slice none 0 0, .slice none 0 0] ∧ Below w.heap.size w X) (fun jv _ => 20 - (intOf jv).toNat)
  case atStart => exact ⟨0, Nat.zero_le _, rfl, HX0.out.2.1, HX0.out.1, HX0.out.2.2⟩
  case round =>
    obtain ⟨m, hm, rfl, hba, hbr, hbl⟩ := hrel
    have HW := Lib.hid (And.intro hba (And.intro hbr hbl))
    clear hba hbr hbl
    by_cases hlt : m < 19
    · have hlt' : (m : Int) + 1 ≤ 19 := by omega
      have HHD := Lib.hid (show Below wr.heap.size wr wr.drew from below_dr (Below.refl _ _) 1)
      obtain ⟨s1, hs1⟩ : ∃ s, s = bs (actN ((m : Int) + 1)) := ⟨_, rfl⟩
      obtain ⟨s2, hs2⟩ : ∃ s, s = bs x := ⟨_, rfl⟩
      have HC0 := Lib.hid (show ∀ X : World, Below wr.heap.size wr X → X.cell? ⟨b, o, none⟩ = some (.string s2) from fun X hX => by rw [hs2]; exact HCW.out X (HW.out.2.2.trans (hX.mono HW.out.2.2.size)))
      have HEQ := Lib.hid (show s1.toList = s2.toList ↔ actN ((m : Int) + 1) = x by rw [hs1, hs2]; exact bs_lists)
      have HAW1 := Lib.hid (fun X : World => HAW.out ((m : Int) + 1) X)
      rw [← hs1] at HAW1
      clear hs2 hs1
      go_wp2_with fail
      by_cases he : s1.toList = s2.toList
      · have HE := Lib.hid (HEQ.out.1 he)
        refine wp_region_held_drew (S := fun W' => Below wr.heap.size wr W') (by kernel_rfl) HHD.out (fun hHeld => ?_)
        refine wpAnyH_take (i := 0) (v := .slice (some ⟨b, o, none⟩) n c) rfl (by kernel_rfl) (by kernel_rfl) (by kernel_rfl) (fun _ _ _ h => h) (Or.inl ⟨by rfl, ?_⟩) (by assumption) ?_
        · intro w' hSw
          go_simp
        show wpAnyH _ _ _ _ _ _ _ (Act.put _ (some 13) _) _
        simp only [Act.put, List.setIfInBounds_toArray, List.set_cons_zero, List.set_cons_succ]
        refine wpAnyH_take (i := 1) (v := .int .i64 n) rfl (by kernel_rfl) (by kernel_rfl) (by kernel_rfl) (fun _ _ _ h => h) (Or.inl ⟨by rfl, ?_⟩) (by assumption) ?_
        · intro w' hSw
          go_simp
        show wpAnyH _ _ _ _ _ _ _ (Act.put _ (some 14) _) _
        simp only [Act.put, List.setIfInBounds_toArray, List.set_cons_zero, List.set_cons_succ]
        refine wpAnyH_take (i := 2) (v := .bool true) rfl (by kernel_rfl) (by kernel_rfl) (by kernel_rfl) (fun _ _ _ h => h) (Or.inl ⟨by rfl, ?_⟩) (by assumption) ?_
        · intro w' hSw
          go_simp
        show wpAnyH _ _ _ _ _ _ _ (Act.put _ (some 15) _) _
        simp only [Act.put, List.setIfInBounds_toArray, List.set_cons_zero, List.set_cons_succ]
        refine wpAnyH_take (i := 3) (v := .bool true) rfl (by kernel_rfl) (by kernel_rfl) (by kernel_rfl) (fun _ _ _ h => h) (Or.inl ⟨by rfl, ?_⟩) (by assumption) ?_
        · intro w' hSw
          go_simp
        show wpAnyH _ _ _ _ _ _ _ (Act.put _ (some 16) _) _
        simp only [Act.put, List.setIfInBounds_toArray, List.set_cons_zero, List.set_cons_succ]
        refine wpAnyH_take (i := 4) (v := .int .i64 ((m : Int) + 1)) rfl (by kernel_rfl) (by kernel_rfl) (by kernel_rfl) (fun _ _ _ h => h) (Or.inl ⟨by rfl, ?_⟩) (by assumption) ?_
        · intro w' hSw
          go_simp
        show wpAnyH _ _ _ _ _ _ _ (Act.put _ (some 17) _) _
        simp only [Act.put, List.setIfInBounds_toArray, List.set_cons_zero, List.set_cons_succ]
        refine wpAnyH_take (i := 6) (v := .slice (some ⟨b, o, none⟩) n c) rfl (by kernel_rfl) (by kernel_rfl) (by kernel_rfl) (fun _ _ _ h => h) (Or.inl ⟨by rfl, ?_⟩) (by assumption) ?_
        · intro w' hSw
          go_simp
        show wpAnyH _ _ _ _ _ _ _ (Act.put _ (some 19) _) _
        simp only [Act.put, List.setIfInBounds_toArray, List.set_cons_zero, List.set_cons_succ]
        refine wpAnyH_take (i := 7) (v := .pointer (some ⟨b, o, none⟩)) rfl (by kernel_rfl) (by kernel_rfl) (by kernel_rfl) (fun _ _ _ h => h) (Or.inl ⟨by rfl, ?_⟩) (by assumption) ?_
        · intro w' hSw
          go_simp
        show wpAnyH _ _ _ _ _ _ _ (Act.put _ (some 20) _) _
        simp only [Act.put, List.setIfInBounds_toArray, List.set_cons_zero, List.set_cons_succ]
        refine wpAnyH_take (i := 8) (v := .string s2) rfl (by kernel_rfl) (by kernel_rfl) (by kernel_rfl) (fun _ _ _ h => h) (Or.inl ⟨by rfl, ?_⟩) (by assumption) ?_
        · intro w' hSw
          have hc := HC0.out w' hSw
          go_simp
        show wpAnyH _ _ _ _ _ _ _ (Act.put _ (some 21) _) _
        simp only [Act.put, List.setIfInBounds_toArray, List.set_cons_zero, List.set_cons_succ]
        refine wpAnyH_ready (rs := [5]) (by kernel_rfl) (by simp) ?_
        refine AllReadyH.cons rfl (fun K hK => ?_) AllReadyH.nil
        go_simp
        refine (HAW1.out _).mono ?_
        rintro e Y1 ⟨rfl, hy1⟩
        go_simp
        refine hK.out _ _ (HHD.out.trans (hy1.mono HHD.out.size)) (fun hHeld => ?_)
        clear hK K
        have HY1 := Lib.hid hHeld
        clear hy1
        refine wpAnyH_take (i := 9) (v := .bool true) rfl (by kernel_rfl) (by kernel_rfl) (by kernel_rfl) (fun _ _ _ h => h) (Or.inl ⟨by rfl, ?_⟩) (by assumption) ?_
        · intro w' hSw
          go_simp
        show wpAnyH _ _ _ _ _ _ _ (Act.put _ (some 22) _) _
        simp only [Act.put, List.setIfInBounds_toArray, List.set_cons_zero, List.set_cons_succ]
        refine wpAnyH_take (i := 10) (v := .bool true) rfl (by kernel_rfl) (by kernel_rfl) (by kernel_rfl) (fun _ _ _ h => h) (Or.inl ⟨by rfl, ?_⟩) (by assumption) ?_
        · intro w' hSw
          go_simp
        show wpAnyH _ _ _ _ _ _ _ (Act.put _ (some 23) _) _
        simp only [Act.put, List.setIfInBounds_toArray, List.set_cons_zero, List.set_cons_succ]
        refine wpAnyH_done (by kernel_rfl) ?_ _
        have HBA := Lib.hid (HW.out.1.next HY1.out)
        have HBR := Lib.hid (HW.out.2.1.next HY1.out)
        have HBL := Lib.hid (HW.out.2.2.trans (HY1.out.mono HW.out.2.2.size))
        have hz := HBA.out.free 0
        have hy := HBA.out.cell (j := 0) rfl
        have hl3 := HBA.out.lt
        have HSET := Lib.hid (And.intro (HBA.out.set 0 (.int .i64 ((m : Int) + 1))) (And.intro (HBR.out.other (g := w.heap.size + 1) (by omega) 0 (.int .i64 ((m : Int) + 1))) (HBL.out.setCell (p := ⟨w.heap.size + 1, 0, none⟩) (by show w.heap.size ≤ w.heap.size + 1; omega) (.int .i64 ((m : Int) + 1)))))
        clear he
        go_wp2_with fail
        go_roundw
        case rel => exact ⟨m + 1, by omega, by go_num, by rw [kindR_yes HE.out]; exact HSET.out.1, HSET.out.2.1, HSET.out.2.2⟩
        case measure => simp [intOf]; omega
      · have HE := Lib.hid (show ¬ actN ((m : Int) + 1) = x from fun q => he (HEQ.out.2 q))
        refine wp_region_held_drew (S := fun W' => Below wr.heap.size wr W') (by kernel_rfl) HHD.out (fun hHeld => ?_)
        refine wpAnyH_take (i := 0) (v := .slice (some ⟨b, o, none⟩) n c) rfl (by kernel_rfl) (by kernel_rfl) (by kernel_rfl) (fun _ _ _ h => h) (Or.inl ⟨by rfl, ?_⟩) (by assumption) ?_
        · intro w' hSw
          go_simp
        show wpAnyH _ _ _ _ _ _ _ (Act.put _ (some 13) _) _
        simp only [Act.put, List.setIfInBounds_toArray, List.set_cons_zero, List.set_cons_succ]
        refine wpAnyH_take (i := 1) (v := .int .i64 n) rfl (by kernel_rfl) (by kernel_rfl) (by kernel_rfl) (fun _ _ _ h => h) (Or.inl ⟨by rfl, ?_⟩) (by assumption) ?_
        · intro w' hSw
          go_simp
        show wpAnyH _ _ _ _ _ _ _ (Act.put _ (some 14) _) _
        simp only [Act.put, List.setIfInBounds_toArray, List.set_cons_zero, List.set_cons_succ]
        refine wpAnyH_take (i := 2) (v := .bool true) rfl (by kernel_rfl) (by kernel_rfl) (by kernel_rfl) (fun _ _ _ h => h) (Or.inl ⟨by rfl, ?_⟩) (by assumption) ?_
        · intro w' hSw
          go_simp
        show wpAnyH _ _ _ _ _ _ _ (Act.put _ (some 15) _) _
        simp only [Act.put, List.setIfInBounds_toArray, List.set_cons_zero, List.set_cons_succ]
        refine wpAnyH_take (i := 3) (v := .bool true) rfl (by kernel_rfl) (by kernel_rfl) (by kernel_rfl) (fun _ _ _ h => h) (Or.inl ⟨by rfl, ?_⟩) (by assumption) ?_
        · intro w' hSw
          go_simp
        show wpAnyH _ _ _ _ _ _ _ (Act.put _ (some 16) _) _
        simp only [Act.put, List.setIfInBounds_toArray, List.set_cons_zero, List.set_cons_succ]
        refine wpAnyH_take (i := 4) (v := .int .i64 ((m : Int) + 1)) rfl (by kernel_rfl) (by kernel_rfl) (by kernel_rfl) (fun _ _ _ h => h) (Or.inl ⟨by rfl, ?_⟩) (by assumption) ?_
        · intro w' hSw
          go_simp
        show wpAnyH _ _ _ _ _ _ _ (Act.put _ (some 17) _) _
        simp only [Act.put, List.setIfInBounds_toArray, List.set_cons_zero, List.set_cons_succ]
        refine wpAnyH_take (i := 6) (v := .slice (some ⟨b, o, none⟩) n c) rfl (by kernel_rfl) (by kernel_rfl) (by kernel_rfl) (fun _ _ _ h => h) (Or.inl ⟨by rfl, ?_⟩) (by assumption) ?_
        · intro w' hSw
          go_simp
        show wpAnyH _ _ _ _ _ _ _ (Act.put _ (some 19) _) _
        simp only [Act.put, List.setIfInBounds_toArray, List.set_cons_zero, List.set_cons_succ]
        refine wpAnyH_take (i := 7) (v := .pointer (some ⟨b, o, none⟩)) rfl (by kernel_rfl) (by kernel_rfl) (by kernel_rfl) (fun _ _ _ h => h) (Or.inl ⟨by rfl, ?_⟩) (by assumption) ?_
        · intro w' hSw
          go_simp
        show wpAnyH _ _ _ _ _ _ _ (Act.put _ (some 20) _) _
        simp only [Act.put, List.setIfInBounds_toArray, List.set_cons_zero, List.set_cons_succ]
        refine wpAnyH_take (i := 8) (v := .string s2) rfl (by kernel_rfl) (by kernel_rfl) (by kernel_rfl) (fun _ _ _ h => h) (Or.inl ⟨by rfl, ?_⟩) (by assumption) ?_
        · intro w' hSw
          have hc := HC0.out w' hSw
          go_simp
        show wpAnyH _ _ _ _ _ _ _ (Act.put _ (some 21) _) _
        simp only [Act.put, List.setIfInBounds_toArray, List.set_cons_zero, List.set_cons_succ]
        refine wpAnyH_ready (rs := [5]) (by kernel_rfl) (by simp) ?_
        refine AllReadyH.cons rfl (fun K hK => ?_) AllReadyH.nil
        go_simp
        refine (HAW1.out _).mono ?_
        rintro e Y1 ⟨rfl, hy1⟩
        go_simp
        refine hK.out _ _ (HHD.out.trans (hy1.mono HHD.out.size)) (fun hHeld => ?_)
        clear hK K
        have HY1 := Lib.hid hHeld
        clear hy1
        refine wpAnyH_take (i := 9) (v := .bool false) rfl (by kernel_rfl) (by kernel_rfl) (by kernel_rfl) (fun _ _ _ h => h) (Or.inl ⟨by rfl, ?_⟩) (by assumption) ?_
        · intro w' hSw
          go_simp
        show wpAnyH _ _ _ _ _ _ _ (Act.put _ (some 22) _) _
        simp only [Act.put, List.setIfInBounds_toArray, List.set_cons_zero, List.set_cons_succ]
        refine wpAnyH_take (i := 10) (v := .bool false) rfl (by kernel_rfl) (by kernel_rfl) (by kernel_rfl) (fun _ _ _ h => h) (Or.inl ⟨by rfl, ?_⟩) (by assumption) ?_
        · intro w' hSw
          go_simp
        show wpAnyH _ _ _ _ _ _ _ (Act.put _ (some 23) _) _
        simp only [Act.put, List.setIfInBounds_toArray, List.set_cons_zero, List.set_cons_succ]
        refine wpAnyH_done (by kernel_rfl) ?_ _
        have HBA := Lib.hid (HW.out.1.next HY1.out)
        have HBR := Lib.hid (HW.out.2.1.next HY1.out)
        have HBL := Lib.hid (HW.out.2.2.trans (HY1.out.mono HW.out.2.2.size))
        clear he
        go_wp2_with fail
        go_roundw
        case rel => exact ⟨m + 1, by omega, by go_num, by rw [kindR_no HE.out]; exact HBA.out, HBR.out, HBL.out⟩
        case measure => simp [intOf]; omega
    · obtain rfl : m = 19 := by omega
      rw [HKD.out.1] at HW
      have HA1 := Lib.hid (HAT.out 1 wr HW.out.2.2)
      obtain ⟨v1, hv1⟩ : ∃ v, v = atR ws 1 := ⟨_, rfl⟩
      have HV1 := Lib.hid hv1
      rw [← hv1] at HA1
      clear hv1
      go_wp2_with fail
      refine HA1.out.mono ?_
      rintro e Y ⟨rfl, hY⟩
      rw [hY]
      clear hY Y
      have hz0 := HW.out.1.cell (j := 0) rfl
      clear HA1
      have HA1 := Lib.hid (HAT.out 1 wr HW.out.2.2)
      rw [← HV1.out] at HA1
      have hy2 := HW.out.1.cell (j := 2) rfl
      have hf2 := HW.out.1.free 2
      have hl3 := HW.out.1.lt
      obtain ⟨D, hD⟩ : ∃ D, D = (actCs ({ kindM 5 with n := v1 } : ActM)).toArray := ⟨_, rfl⟩
      have hrow : (wr.setCell ⟨w.heap.size + 1, 2, none⟩ (.int .i64 v1)).heap[w.heap.size + 1]? = some (.cells D 33 (0, 0)) := by rw [hD]; exact (HW.out.1.set 2 (.int .i64 v1))
      have hrw : (wr.setCell ⟨w.heap.size + 1, 2, none⟩ (.int .i64 v1)).heap[w.heap.size]? = some (.cells #[.int .i64 0, .int .i64 0, .int .i64 0, .int .i64 0, .int .i64 0, .int .i64 0, .slice none 0 0, .slice none 0 0] 33 (0, 0)) := (HW.out.2.1.other (g := w.heap.size + 1) (by omega) 2 (.int .i64 v1))
      have hsz : (Tryz.prog.info? 33).map (·.size) = some D.size := by rw [hD]; exact act_size
      have hold : (#[.int .i64 0, .int .i64 0, .int .i64 0, .int .i64 0, .int .i64 0, .int .i64 0, .slice none 0 0, .slice none 0 0] : Array Value).size = D.size := by rw [hD]; rfl
      have hone : D.all (·.oneCell') = true := by rw [hD]; exact actCs_one _
      have HDV := Lib.hid (show actV ({ kindM 5 with n := v1 } : ActM) = .agg D by rw [hD]; rfl)
      clear hD
      go_wp2_with (first | (refine wpList_load_row_g (by rfl) 33 (.tmp 3) rfl (w.heap.size + 1) rfl 33 D (0, 0) _ hrow Tryz.underlying33 rfl hsz ?_) | (refine wpList_store_row rfl 33 (.tmp 2) (.tmp 142) rfl w.heap.size D rfl rfl 33 _ hrw hsz hold hone ?_))
      refine HA1.out.mono ?_
      rintro e Y ⟨rfl, hY⟩
      rw [hY]
      clear hY Y
      go_wp2_with (first | (refine wpList_load_row_g (by rfl) 33 (.tmp 3) rfl (w.heap.size + 1) rfl 33 D (0, 0) _ hrow Tryz.underlying33 rfl hsz ?_) | (refine wpList_store_row rfl 33 (.tmp 2) (.tmp 142) rfl w.heap.size D rfl rfl 33 _ hrw hsz hold hone ?_))
      refine bodyPost_ret (results_cell1 Tryz.results34 _ _ w.heap.size 33 D (0, 0) _ (by rfl) (setRow_heap _ _ _ _ _ _ hrw) Tryz.underlying33 rfl hsz) rfl ?_
      refine ⟨({ kindM 5 with n := v1 } : ActM), by rw [HDV.out], ?_, ⟨SrcO.nil _ _, nil_own _ _⟩, below_setR ((HW.out.2.2.setCell (p := ⟨w.heap.size + 1, 2, none⟩) (by show w.heap.size ≤ w.heap.size + 1; omega) (.int .i64 v1))) (Nat.le_refl _) _⟩
      rw [HKD.out.2.1]
      rw [HV1.out]
      rfl
set_option maxRecDepth 100000 in
set_option maxHeartbeats 8000000 in
theorem guess51_6 (ws : List Wd) (A : Option Addr) (c : Nat) (w : World) (hat : WdsAt w w.heap.size A ws) (hl : ∀ x ∈ ws, x.length ≤ 1000000000) (hn : ws.length ≤ 1000000) (x : Wd) (r : List Wd) (hws : ws = x :: r) (hk : kindR actN x 19 = 6) : Calls Tryz.prog 34 #[.slice A ws.length c] w (RetG ws w) := by
  obtain ⟨b, o, rfl, hb, hc⟩ := hat.at (i := 0) (x := x) (by rw [hws]; rfl)
  have hc : w.cell? ⟨b, o, none⟩ = some (.string (bs x)) := hc
  have HAT := Lib.hid (fun (j : Nat) (X : World) (hb : Below w.heap.size w X) => at51_any ws (some ⟨b, o, none⟩) c j X w.heap.size (Sl.below hat hb) hl (by omega))
  have HSP := Lib.hid (fun (j : Nat) (X : World) (hb : Below w.heap.size w X) (hj : j ≤ 1000000000) => span51_any ws (some ⟨b, o, none⟩) c j X (Sl.more (Sl.below hat hb) hb.size) hl hn hj)
  have HAW := Lib.hid (fun (k : Int) (X : World) => actWord_any k X)
  have HKD := Lib.hid (And.intro hk (And.intro (guess_kind hws hk) hn))
  have HCW := Lib.hid (show ∀ X : World, Below w.heap.size w X → X.cell? ⟨b, o, none⟩ = some (.string (bs x)) from fun X hX => (hX.cell (p := ⟨b, o, none⟩) hb).trans hc)
  obtain ⟨n, hnn⟩ : ∃ n, n = ws.length := ⟨_, rfl⟩
  have hn1 : n ≤ 1000000 := by omega
  have hn0 : 0 < n := by rw [hnn, hws]; simp
  have hn0' : (0 : Int) < (n : Int) := by omega
  have HNN := Lib.hid hnn
  rw [← hnn] at HAT HSP ⊢
  obtain ⟨X0, hX0⟩ : ∃ X0, X0 = ((w.alloc (.cells #[.int .i64 0, .int .i64 0, .int .i64 0, .int .i64 0, .int .i64 0, .int .i64 0, .slice none 0 0, .slice none 0 0] 33)).alloc (.cells #[.int .i64 0, .int .i64 0, .int .i64 0, .int .i64 0, .int .i64 0, .int .i64 0, .slice none 0 0, .slice none 0 0] 33)) := ⟨_, rfl⟩
  have HX0 : Hid (Blk X0 w.heap.size 33 [.int .i64 0, .int .i64 0, .int .i64 0, .int .i64 0, .int .i64 0, .int .i64 0, .slice none 0 0, .slice none 0 0] ∧ Blk X0 (w.heap.size + 1) 33 [.int .i64 0, .int .i64 0, .int .i64 0, .int .i64 0, .int .i64 0, .int .i64 0, .slice none 0 0, .slice none 0 0] ∧ Below w.heap.size w X0) := Lib.hid (by
    rw [hX0]
    obtain ⟨h1, h2⟩ := two_blk w [.int .i64 0, .int .i64 0, .int .i64 0, .int .i64 0, .int .i64 0, .int .i64 0, .slice none 0 0, .slice none 0 0] [.int .i64 0, .int .i64 0, .int .i64 0, .int .i64 0, .int .i64 0, .int .i64 0, .slice none 0 0, .slice none 0 0] 33 33
    exact ⟨h1, h2, ((Below.refl _ _).alloc (Nat.le_refl _) _).alloc (by simp) _⟩)
  clear hat hl hn hws hk hb hc hnn
  go_enter Tryz.func34, Tryz.ntmps34
  go_wp2_with fail
  rw [← hX0]
  clear hX0
  go_loopw [4] (fun jv X => ∃ m : Nat, m ≤ 19 ∧ jv = .int .i64 ((m : Int) + 1) ∧ Blk X (w.heap.size + 1) 33 (.int .i64 (kindR actN x m) :: [.int .i64 0, .int .i64 0, .int .i64 0, .int .i64 0, .int .i64 0, .slice none 0 0, .slice none 0 0]) ∧ Blk X w.heap.size 33 [.int .i64 0, .int .i64 0, .int .i64 0, .int .i64 0, .int .i64 0, .int .i64 0, .slice none 0 0, .slice none 0 0] ∧ Below w.heap.size w X) (fun jv _ => 20 - (intOf jv).toNat)
  case atStart => exact ⟨0, Nat.zero_le _, rfl, HX0.out.2.1, HX0.out.1, HX0.out.2.2⟩
  case round =>
    obtain ⟨m, hm, rfl, hba, hbr, hbl⟩ := hrel
    have HW := Lib.hid (And.intro hba (And.intro hbr hbl))
    clear hba hbr hbl
    by_cases hlt : m < 19
    · have hlt' : (m : Int) + 1 ≤ 19 := by omega
      have HHD := Lib.hid (show Below wr.heap.size wr wr.drew from below_dr (Below.refl _ _) 1)
      obtain ⟨s1, hs1⟩ : ∃ s, s = bs (actN ((m : Int) + 1)) := ⟨_, rfl⟩
      obtain ⟨s2, hs2⟩ : ∃ s, s = bs x := ⟨_, rfl⟩
      have HC0 := Lib.hid (show ∀ X : World, Below wr.heap.size wr X → X.cell? ⟨b, o, none⟩ = some (.string s2) from fun X hX => by rw [hs2]; exact HCW.out X (HW.out.2.2.trans (hX.mono HW.out.2.2.size)))
      have HEQ := Lib.hid (show s1.toList = s2.toList ↔ actN ((m : Int) + 1) = x by rw [hs1, hs2]; exact bs_lists)
      have HAW1 := Lib.hid (fun X : World => HAW.out ((m : Int) + 1) X)
      rw [← hs1] at HAW1
      clear hs2 hs1
      go_wp2_with fail
      by_cases he : s1.toList = s2.toList
      · have HE := Lib.hid (HEQ.out.1 he)
        refine wp_region_held_drew (S := fun W' => Below wr.heap.size wr W') (by kernel_rfl) HHD.out (fun hHeld => ?_)
        refine wpAnyH_take (i := 0) (v := .slice (some ⟨b, o, none⟩) n c) rfl (by kernel_rfl) (by kernel_rfl) (by kernel_rfl) (fun _ _ _ h => h) (Or.inl ⟨by rfl, ?_⟩) (by assumption) ?_
        · intro w' hSw
          go_simp
        show wpAnyH _ _ _ _ _ _ _ (Act.put _ (some 13) _) _
        simp only [Act.put, List.setIfInBounds_toArray, List.set_cons_zero, List.set_cons_succ]
        refine wpAnyH_take (i := 1) (v := .int .i64 n) rfl (by kernel_rfl) (by kernel_rfl) (by kernel_rfl) (fun _ _ _ h => h) (Or.inl ⟨by rfl, ?_⟩) (by assumption) ?_
        · intro w' hSw
          go_simp
        show wpAnyH _ _ _ _ _ _ _ (Act.put _ (some 14) _) _
        simp only [Act.put, List.setIfInBounds_toArray, List.set_cons_zero, List.set_cons_succ]
        refine wpAnyH_take (i := 2) (v := .bool true) rfl (by kernel_rfl) (by kernel_rfl) (by kernel_rfl) (fun _ _ _ h => h) (Or.inl ⟨by rfl, ?_⟩) (by assumption) ?_
        · intro w' hSw
          go_simp
        show wpAnyH _ _ _ _ _ _ _ (Act.put _ (some 15) _) _
        simp only [Act.put, List.setIfInBounds_toArray, List.set_cons_zero, List.set_cons_succ]
        refine wpAnyH_take (i := 3) (v := .bool true) rfl (by kernel_rfl) (by kernel_rfl) (by kernel_rfl) (fun _ _ _ h => h) (Or.inl ⟨by rfl, ?_⟩) (by assumption) ?_
        · intro w' hSw
          go_simp
        show wpAnyH _ _ _ _ _ _ _ (Act.put _ (some 16) _) _
        simp only [Act.put, List.setIfInBounds_toArray, List.set_cons_zero, List.set_cons_succ]
        refine wpAnyH_take (i := 4) (v := .int .i64 ((m : Int) + 1)) rfl (by kernel_rfl) (by kernel_rfl) (by kernel_rfl) (fun _ _ _ h => h) (Or.inl ⟨by rfl, ?_⟩) (by assumption) ?_
        · intro w' hSw
          go_simp
        show wpAnyH _ _ _ _ _ _ _ (Act.put _ (some 17) _) _
        simp only [Act.put, List.setIfInBounds_toArray, List.set_cons_zero, List.set_cons_succ]
        refine wpAnyH_take (i := 6) (v := .slice (some ⟨b, o, none⟩) n c) rfl (by kernel_rfl) (by kernel_rfl) (by kernel_rfl) (fun _ _ _ h => h) (Or.inl ⟨by rfl, ?_⟩) (by assumption) ?_
        · intro w' hSw
          go_simp
        show wpAnyH _ _ _ _ _ _ _ (Act.put _ (some 19) _) _
        simp only [Act.put, List.setIfInBounds_toArray, List.set_cons_zero, List.set_cons_succ]
        refine wpAnyH_take (i := 7) (v := .pointer (some ⟨b, o, none⟩)) rfl (by kernel_rfl) (by kernel_rfl) (by kernel_rfl) (fun _ _ _ h => h) (Or.inl ⟨by rfl, ?_⟩) (by assumption) ?_
        · intro w' hSw
          go_simp
        show wpAnyH _ _ _ _ _ _ _ (Act.put _ (some 20) _) _
        simp only [Act.put, List.setIfInBounds_toArray, List.set_cons_zero, List.set_cons_succ]
        refine wpAnyH_take (i := 8) (v := .string s2) rfl (by kernel_rfl) (by kernel_rfl) (by kernel_rfl) (fun _ _ _ h => h) (Or.inl ⟨by rfl, ?_⟩) (by assumption) ?_
        · intro w' hSw
          have hc := HC0.out w' hSw
          go_simp
        show wpAnyH _ _ _ _ _ _ _ (Act.put _ (some 21) _) _
        simp only [Act.put, List.setIfInBounds_toArray, List.set_cons_zero, List.set_cons_succ]
        refine wpAnyH_ready (rs := [5]) (by kernel_rfl) (by simp) ?_
        refine AllReadyH.cons rfl (fun K hK => ?_) AllReadyH.nil
        go_simp
        refine (HAW1.out _).mono ?_
        rintro e Y1 ⟨rfl, hy1⟩
        go_simp
        refine hK.out _ _ (HHD.out.trans (hy1.mono HHD.out.size)) (fun hHeld => ?_)
        clear hK K
        have HY1 := Lib.hid hHeld
        clear hy1
        refine wpAnyH_take (i := 9) (v := .bool true) rfl (by kernel_rfl) (by kernel_rfl) (by kernel_rfl) (fun _ _ _ h => h) (Or.inl ⟨by rfl, ?_⟩) (by assumption) ?_
        · intro w' hSw
          go_simp
        show wpAnyH _ _ _ _ _ _ _ (Act.put _ (some 22) _) _
        simp only [Act.put, List.setIfInBounds_toArray, List.set_cons_zero, List.set_cons_succ]
        refine wpAnyH_take (i := 10) (v := .bool true) rfl (by kernel_rfl) (by kernel_rfl) (by kernel_rfl) (fun _ _ _ h => h) (Or.inl ⟨by rfl, ?_⟩) (by assumption) ?_
        · intro w' hSw
          go_simp
        show wpAnyH _ _ _ _ _ _ _ (Act.put _ (some 23) _) _
        simp only [Act.put, List.setIfInBounds_toArray, List.set_cons_zero, List.set_cons_succ]
        refine wpAnyH_done (by kernel_rfl) ?_ _
        have HBA := Lib.hid (HW.out.1.next HY1.out)
        have HBR := Lib.hid (HW.out.2.1.next HY1.out)
        have HBL := Lib.hid (HW.out.2.2.trans (HY1.out.mono HW.out.2.2.size))
        have hz := HBA.out.free 0
        have hy := HBA.out.cell (j := 0) rfl
        have hl3 := HBA.out.lt
        have HSET := Lib.hid (And.intro (HBA.out.set 0 (.int .i64 ((m : Int) + 1))) (And.intro (HBR.out.other (g := w.heap.size + 1) (by omega) 0 (.int .i64 ((m : Int) + 1))) (HBL.out.setCell (p := ⟨w.heap.size + 1, 0, none⟩) (by show w.heap.size ≤ w.heap.size + 1; omega) (.int .i64 ((m : Int) + 1)))))
        clear he
        go_wp2_with fail
        go_roundw
        case rel => exact ⟨m + 1, by omega, by go_num, by rw [kindR_yes HE.out]; exact HSET.out.1, HSET.out.2.1, HSET.out.2.2⟩
        case measure => simp [intOf]; omega
      · have HE := Lib.hid (show ¬ actN ((m : Int) + 1) = x from fun q => he (HEQ.out.2 q))
        refine wp_region_held_drew (S := fun W' => Below wr.heap.size wr W') (by kernel_rfl) HHD.out (fun hHeld => ?_)
        refine wpAnyH_take (i := 0) (v := .slice (some ⟨b, o, none⟩) n c) rfl (by kernel_rfl) (by kernel_rfl) (by kernel_rfl) (fun _ _ _ h => h) (Or.inl ⟨by rfl, ?_⟩) (by assumption) ?_
        · intro w' hSw
          go_simp
        show wpAnyH _ _ _ _ _ _ _ (Act.put _ (some 13) _) _
        simp only [Act.put, List.setIfInBounds_toArray, List.set_cons_zero, List.set_cons_succ]
        refine wpAnyH_take (i := 1) (v := .int .i64 n) rfl (by kernel_rfl) (by kernel_rfl) (by kernel_rfl) (fun _ _ _ h => h) (Or.inl ⟨by rfl, ?_⟩) (by assumption) ?_
        · intro w' hSw
          go_simp
        show wpAnyH _ _ _ _ _ _ _ (Act.put _ (some 14) _) _
        simp only [Act.put, List.setIfInBounds_toArray, List.set_cons_zero, List.set_cons_succ]
        refine wpAnyH_take (i := 2) (v := .bool true) rfl (by kernel_rfl) (by kernel_rfl) (by kernel_rfl) (fun _ _ _ h => h) (Or.inl ⟨by rfl, ?_⟩) (by assumption) ?_
        · intro w' hSw
          go_simp
        show wpAnyH _ _ _ _ _ _ _ (Act.put _ (some 15) _) _
        simp only [Act.put, List.setIfInBounds_toArray, List.set_cons_zero, List.set_cons_succ]
        refine wpAnyH_take (i := 3) (v := .bool true) rfl (by kernel_rfl) (by kernel_rfl) (by kernel_rfl) (fun _ _ _ h => h) (Or.inl ⟨by rfl, ?_⟩) (by assumption) ?_
        · intro w' hSw
          go_simp
        show wpAnyH _ _ _ _ _ _ _ (Act.put _ (some 16) _) _
        simp only [Act.put, List.setIfInBounds_toArray, List.set_cons_zero, List.set_cons_succ]
        refine wpAnyH_take (i := 4) (v := .int .i64 ((m : Int) + 1)) rfl (by kernel_rfl) (by kernel_rfl) (by kernel_rfl) (fun _ _ _ h => h) (Or.inl ⟨by rfl, ?_⟩) (by assumption) ?_
        · intro w' hSw
          go_simp
        show wpAnyH _ _ _ _ _ _ _ (Act.put _ (some 17) _) _
        simp only [Act.put, List.setIfInBounds_toArray, List.set_cons_zero, List.set_cons_succ]
        refine wpAnyH_take (i := 6) (v := .slice (some ⟨b, o, none⟩) n c) rfl (by kernel_rfl) (by kernel_rfl) (by kernel_rfl) (fun _ _ _ h => h) (Or.inl ⟨by rfl, ?_⟩) (by assumption) ?_
        · intro w' hSw
          go_simp
        show wpAnyH _ _ _ _ _ _ _ (Act.put _ (some 19) _) _
        simp only [Act.put, List.setIfInBounds_toArray, List.set_cons_zero, List.set_cons_succ]
        refine wpAnyH_take (i := 7) (v := .pointer (some ⟨b, o, none⟩)) rfl (by kernel_rfl) (by kernel_rfl) (by kernel_rfl) (fun _ _ _ h => h) (Or.inl ⟨by rfl, ?_⟩) (by assumption) ?_
        · intro w' hSw
          go_simp
        show wpAnyH _ _ _ _ _ _ _ (Act.put _ (some 20) _) _
        simp only [Act.put, List.setIfInBounds_toArray, List.set_cons_zero, List.set_cons_succ]
        refine wpAnyH_take (i := 8) (v := .string s2) rfl (by kernel_rfl) (by kernel_rfl) (by kernel_rfl) (fun _ _ _ h => h) (Or.inl ⟨by rfl, ?_⟩) (by assumption) ?_
        · intro w' hSw
          have hc := HC0.out w' hSw
          go_simp
        show wpAnyH _ _ _ _ _ _ _ (Act.put _ (some 21) _) _
        simp only [Act.put, List.setIfInBounds_toArray, List.set_cons_zero, List.set_cons_succ]
        refine wpAnyH_ready (rs := [5]) (by kernel_rfl) (by simp) ?_
        refine AllReadyH.cons rfl (fun K hK => ?_) AllReadyH.nil
        go_simp
        refine (HAW1.out _).mono ?_
        rintro e Y1 ⟨rfl, hy1⟩
        go_simp
        refine hK.out _ _ (HHD.out.trans (hy1.mono HHD.out.size)) (fun hHeld => ?_)
        clear hK K
        have HY1 := Lib.hid hHeld
        clear hy1
        refine wpAnyH_take (i := 9) (v := .bool false) rfl (by kernel_rfl) (by kernel_rfl) (by kernel_rfl) (fun _ _ _ h => h) (Or.inl ⟨by rfl, ?_⟩) (by assumption) ?_
        · intro w' hSw
          go_simp
        show wpAnyH _ _ _ _ _ _ _ (Act.put _ (some 22) _) _
        simp only [Act.put, List.setIfInBounds_toArray, List.set_cons_zero, List.set_cons_succ]
        refine wpAnyH_take (i := 10) (v := .bool false) rfl (by kernel_rfl) (by kernel_rfl) (by kernel_rfl) (fun _ _ _ h => h) (Or.inl ⟨by rfl, ?_⟩) (by assumption) ?_
        · intro w' hSw
          go_simp
        show wpAnyH _ _ _ _ _ _ _ (Act.put _ (some 23) _) _
        simp only [Act.put, List.setIfInBounds_toArray, List.set_cons_zero, List.set_cons_succ]
        refine wpAnyH_done (by kernel_rfl) ?_ _
        have HBA := Lib.hid (HW.out.1.next HY1.out)
        have HBR := Lib.hid (HW.out.2.1.next HY1.out)
        have HBL := Lib.hid (HW.out.2.2.trans (HY1.out.mono HW.out.2.2.size))
        clear he
        go_wp2_with fail
        go_roundw
        case rel => exact ⟨m + 1, by omega, by go_num, by rw [kindR_no HE.out]; exact HBA.out, HBR.out, HBL.out⟩
        case measure => simp [intOf]; omega
    · obtain rfl : m = 19 := by omega
      rw [HKD.out.1] at HW
      have HA1 := Lib.hid (HAT.out 1 wr HW.out.2.2)
      obtain ⟨v1, hv1⟩ : ∃ v, v = atR ws 1 := ⟨_, rfl⟩
      have HV1 := Lib.hid hv1
      rw [← hv1] at HA1
      clear hv1
      go_wp2_with fail
      refine HA1.out.mono ?_
      rintro e Y ⟨rfl, hY⟩
      rw [hY]
      clear hY Y
      have hz0 := HW.out.1.cell (j := 0) rfl
      clear HA1
      have HA1 := Lib.hid (HAT.out 1 wr HW.out.2.2)
      rw [← HV1.out] at HA1
      have hy2 := HW.out.1.cell (j := 2) rfl
      have hf2 := HW.out.1.free 2
      have hl3 := HW.out.1.lt
      obtain ⟨D, hD⟩ : ∃ D, D = (actCs ({ kindM 6 with n := v1 } : ActM)).toArray := ⟨_, rfl⟩
      have hrow : (wr.setCell ⟨w.heap.size + 1, 2, none⟩ (.int .i64 v1)).heap[w.heap.size + 1]? = some (.cells D 33 (0, 0)) := by rw [hD]; exact (HW.out.1.set 2 (.int .i64 v1))
      have hrw : (wr.setCell ⟨w.heap.size + 1, 2, none⟩ (.int .i64 v1)).heap[w.heap.size]? = some (.cells #[.int .i64 0, .int .i64 0, .int .i64 0, .int .i64 0, .int .i64 0, .int .i64 0, .slice none 0 0, .slice none 0 0] 33 (0, 0)) := (HW.out.2.1.other (g := w.heap.size + 1) (by omega) 2 (.int .i64 v1))
      have hsz : (Tryz.prog.info? 33).map (·.size) = some D.size := by rw [hD]; exact act_size
      have hold : (#[.int .i64 0, .int .i64 0, .int .i64 0, .int .i64 0, .int .i64 0, .int .i64 0, .slice none 0 0, .slice none 0 0] : Array Value).size = D.size := by rw [hD]; rfl
      have hone : D.all (·.oneCell') = true := by rw [hD]; exact actCs_one _
      have HDV := Lib.hid (show actV ({ kindM 6 with n := v1 } : ActM) = .agg D by rw [hD]; rfl)
      clear hD
      go_wp2_with (first | (refine wpList_load_row_g (by rfl) 33 (.tmp 3) rfl (w.heap.size + 1) rfl 33 D (0, 0) _ hrow Tryz.underlying33 rfl hsz ?_) | (refine wpList_store_row rfl 33 (.tmp 2) (.tmp 142) rfl w.heap.size D rfl rfl 33 _ hrw hsz hold hone ?_))
      refine HA1.out.mono ?_
      rintro e Y ⟨rfl, hY⟩
      rw [hY]
      clear hY Y
      go_wp2_with (first | (refine wpList_load_row_g (by rfl) 33 (.tmp 3) rfl (w.heap.size + 1) rfl 33 D (0, 0) _ hrow Tryz.underlying33 rfl hsz ?_) | (refine wpList_store_row rfl 33 (.tmp 2) (.tmp 142) rfl w.heap.size D rfl rfl 33 _ hrw hsz hold hone ?_))
      refine bodyPost_ret (results_cell1 Tryz.results34 _ _ w.heap.size 33 D (0, 0) _ (by rfl) (setRow_heap _ _ _ _ _ _ hrw) Tryz.underlying33 rfl hsz) rfl ?_
      refine ⟨({ kindM 6 with n := v1 } : ActM), by rw [HDV.out], ?_, ⟨SrcO.nil _ _, nil_own _ _⟩, below_setR ((HW.out.2.2.setCell (p := ⟨w.heap.size + 1, 2, none⟩) (by show w.heap.size ≤ w.heap.size + 1; omega) (.int .i64 v1))) (Nat.le_refl _) _⟩
      rw [HKD.out.2.1]
      rw [HV1.out]
      rfl
set_option maxRecDepth 100000 in
set_option maxHeartbeats 8000000 in
theorem guess51_7 (ws : List Wd) (A : Option Addr) (c : Nat) (w : World) (hat : WdsAt w w.heap.size A ws) (hl : ∀ x ∈ ws, x.length ≤ 1000000000) (hn : ws.length ≤ 1000000) (x : Wd) (r : List Wd) (hws : ws = x :: r) (hk : kindR actN x 19 = 7) : Calls Tryz.prog 34 #[.slice A ws.length c] w (RetG ws w) := by
  obtain ⟨b, o, rfl, hb, hc⟩ := hat.at (i := 0) (x := x) (by rw [hws]; rfl)
  have hc : w.cell? ⟨b, o, none⟩ = some (.string (bs x)) := hc
  have HAT := Lib.hid (fun (j : Nat) (X : World) (hb : Below w.heap.size w X) => at51_any ws (some ⟨b, o, none⟩) c j X w.heap.size (Sl.below hat hb) hl (by omega))
  have HSP := Lib.hid (fun (j : Nat) (X : World) (hb : Below w.heap.size w X) (hj : j ≤ 1000000000) => span51_any ws (some ⟨b, o, none⟩) c j X (Sl.more (Sl.below hat hb) hb.size) hl hn hj)
  have HAW := Lib.hid (fun (k : Int) (X : World) => actWord_any k X)
  have HKD := Lib.hid (And.intro hk (And.intro (guess_kind hws hk) hn))
  have HCW := Lib.hid (show ∀ X : World, Below w.heap.size w X → X.cell? ⟨b, o, none⟩ = some (.string (bs x)) from fun X hX => (hX.cell (p := ⟨b, o, none⟩) hb).trans hc)
  obtain ⟨n, hnn⟩ : ∃ n, n = ws.length := ⟨_, rfl⟩
  have hn1 : n ≤ 1000000 := by omega
  have hn0 : 0 < n := by rw [hnn, hws]; simp
  have hn0' : (0 : Int) < (n : Int) := by omega
  have HNN := Lib.hid hnn
  rw [← hnn] at HAT HSP ⊢
  obtain ⟨X0, hX0⟩ : ∃ X0, X0 = ((w.alloc (.cells #[.int .i64 0, .int .i64 0, .int .i64 0, .int .i64 0, .int .i64 0, .int .i64 0, .slice none 0 0, .slice none 0 0] 33)).alloc (.cells #[.int .i64 0, .int .i64 0, .int .i64 0, .int .i64 0, .int .i64 0, .int .i64 0, .slice none 0 0, .slice none 0 0] 33)) := ⟨_, rfl⟩
  have HX0 : Hid (Blk X0 w.heap.size 33 [.int .i64 0, .int .i64 0, .int .i64 0, .int .i64 0, .int .i64 0, .int .i64 0, .slice none 0 0, .slice none 0 0] ∧ Blk X0 (w.heap.size + 1) 33 [.int .i64 0, .int .i64 0, .int .i64 0, .int .i64 0, .int .i64 0, .int .i64 0, .slice none 0 0, .slice none 0 0] ∧ Below w.heap.size w X0) := Lib.hid (by
    rw [hX0]
    obtain ⟨h1, h2⟩ := two_blk w [.int .i64 0, .int .i64 0, .int .i64 0, .int .i64 0, .int .i64 0, .int .i64 0, .slice none 0 0, .slice none 0 0] [.int .i64 0, .int .i64 0, .int .i64 0, .int .i64 0, .int .i64 0, .int .i64 0, .slice none 0 0, .slice none 0 0] 33 33
    exact ⟨h1, h2, ((Below.refl _ _).alloc (Nat.le_refl _) _).alloc (by simp) _⟩)
  clear hat hl hn hws hk hb hc hnn
  go_enter Tryz.func34, Tryz.ntmps34
  go_wp2_with fail
  rw [← hX0]
  clear hX0
  go_loopw [4] (fun jv X => ∃ m : Nat, m ≤ 19 ∧ jv = .int .i64 ((m : Int) + 1) ∧ Blk X (w.heap.size + 1) 33 (.int .i64 (kindR actN x m) :: [.int .i64 0, .int .i64 0, .int .i64 0, .int .i64 0, .int .i64 0, .slice none 0 0, .slice none 0 0]) ∧ Blk X w.heap.size 33 [.int .i64 0, .int .i64 0, .int .i64 0, .int .i64 0, .int .i64 0, .int .i64 0, .slice none 0 0, .slice none 0 0] ∧ Below w.heap.size w X) (fun jv _ => 20 - (intOf jv).toNat)
  case atStart => exact ⟨0, Nat.zero_le _, rfl, HX0.out.2.1, HX0.out.1, HX0.out.2.2⟩
  case round =>
    obtain ⟨m, hm, rfl, hba, hbr, hbl⟩ := hrel
    have HW := Lib.hid (And.intro hba (And.intro hbr hbl))
    clear hba hbr hbl
    by_cases hlt : m < 19
    · have hlt' : (m : Int) + 1 ≤ 19 := by omega
      have HHD := Lib.hid (show Below wr.heap.size wr wr.drew from below_dr (Below.refl _ _) 1)
      obtain ⟨s1, hs1⟩ : ∃ s, s = bs (actN ((m : Int) + 1)) := ⟨_, rfl⟩
      obtain ⟨s2, hs2⟩ : ∃ s, s = bs x := ⟨_, rfl⟩
      have HC0 := Lib.hid (show ∀ X : World, Below wr.heap.size wr X → X.cell? ⟨b, o, none⟩ = some (.string s2) from fun X hX => by rw [hs2]; exact HCW.out X (HW.out.2.2.trans (hX.mono HW.out.2.2.size)))
      have HEQ := Lib.hid (show s1.toList = s2.toList ↔ actN ((m : Int) + 1) = x by rw [hs1, hs2]; exact bs_lists)
      have HAW1 := Lib.hid (fun X : World => HAW.out ((m : Int) + 1) X)
      rw [← hs1] at HAW1
      clear hs2 hs1
      go_wp2_with fail
      by_cases he : s1.toList = s2.toList
      · have HE := Lib.hid (HEQ.out.1 he)
        refine wp_region_held_drew (S := fun W' => Below wr.heap.size wr W') (by kernel_rfl) HHD.out (fun hHeld => ?_)
        refine wpAnyH_take (i := 0) (v := .slice (some ⟨b, o, none⟩) n c) rfl (by kernel_rfl) (by kernel_rfl) (by kernel_rfl) (fun _ _ _ h => h) (Or.inl ⟨by rfl, ?_⟩) (by assumption) ?_
        · intro w' hSw
          go_simp
        show wpAnyH _ _ _ _ _ _ _ (Act.put _ (some 13) _) _
        simp only [Act.put, List.setIfInBounds_toArray, List.set_cons_zero, List.set_cons_succ]
        refine wpAnyH_take (i := 1) (v := .int .i64 n) rfl (by kernel_rfl) (by kernel_rfl) (by kernel_rfl) (fun _ _ _ h => h) (Or.inl ⟨by rfl, ?_⟩) (by assumption) ?_
        · intro w' hSw
          go_simp
        show wpAnyH _ _ _ _ _ _ _ (Act.put _ (some 14) _) _
        simp only [Act.put, List.setIfInBounds_toArray, List.set_cons_zero, List.set_cons_succ]
        refine wpAnyH_take (i := 2) (v := .bool true) rfl (by kernel_rfl) (by kernel_rfl) (by kernel_rfl) (fun _ _ _ h => h) (Or.inl ⟨by rfl, ?_⟩) (by assumption) ?_
        · intro w' hSw
          go_simp
        show wpAnyH _ _ _ _ _ _ _ (Act.put _ (some 15) _) _
        simp only [Act.put, List.setIfInBounds_toArray, List.set_cons_zero, List.set_cons_succ]
        refine wpAnyH_take (i := 3) (v := .bool true) rfl (by kernel_rfl) (by kernel_rfl) (by kernel_rfl) (fun _ _ _ h => h) (Or.inl ⟨by rfl, ?_⟩) (by assumption) ?_
        · intro w' hSw
          go_simp
        show wpAnyH _ _ _ _ _ _ _ (Act.put _ (some 16) _) _
        simp only [Act.put, List.setIfInBounds_toArray, List.set_cons_zero, List.set_cons_succ]
        refine wpAnyH_take (i := 4) (v := .int .i64 ((m : Int) + 1)) rfl (by kernel_rfl) (by kernel_rfl) (by kernel_rfl) (fun _ _ _ h => h) (Or.inl ⟨by rfl, ?_⟩) (by assumption) ?_
        · intro w' hSw
          go_simp
        show wpAnyH _ _ _ _ _ _ _ (Act.put _ (some 17) _) _
        simp only [Act.put, List.setIfInBounds_toArray, List.set_cons_zero, List.set_cons_succ]
        refine wpAnyH_take (i := 6) (v := .slice (some ⟨b, o, none⟩) n c) rfl (by kernel_rfl) (by kernel_rfl) (by kernel_rfl) (fun _ _ _ h => h) (Or.inl ⟨by rfl, ?_⟩) (by assumption) ?_
        · intro w' hSw
          go_simp
        show wpAnyH _ _ _ _ _ _ _ (Act.put _ (some 19) _) _
        simp only [Act.put, List.setIfInBounds_toArray, List.set_cons_zero, List.set_cons_succ]
        refine wpAnyH_take (i := 7) (v := .pointer (some ⟨b, o, none⟩)) rfl (by kernel_rfl) (by kernel_rfl) (by kernel_rfl) (fun _ _ _ h => h) (Or.inl ⟨by rfl, ?_⟩) (by assumption) ?_
        · intro w' hSw
          go_simp
        show wpAnyH _ _ _ _ _ _ _ (Act.put _ (some 20) _) _
        simp only [Act.put, List.setIfInBounds_toArray, List.set_cons_zero, List.set_cons_succ]
        refine wpAnyH_take (i := 8) (v := .string s2) rfl (by kernel_rfl) (by kernel_rfl) (by kernel_rfl) (fun _ _ _ h => h) (Or.inl ⟨by rfl, ?_⟩) (by assumption) ?_
        · intro w' hSw
          have hc := HC0.out w' hSw
          go_simp
        show wpAnyH _ _ _ _ _ _ _ (Act.put _ (some 21) _) _
        simp only [Act.put, List.setIfInBounds_toArray, List.set_cons_zero, List.set_cons_succ]
        refine wpAnyH_ready (rs := [5]) (by kernel_rfl) (by simp) ?_
        refine AllReadyH.cons rfl (fun K hK => ?_) AllReadyH.nil
        go_simp
        refine (HAW1.out _).mono ?_
        rintro e Y1 ⟨rfl, hy1⟩
        go_simp
        refine hK.out _ _ (HHD.out.trans (hy1.mono HHD.out.size)) (fun hHeld => ?_)
        clear hK K
        have HY1 := Lib.hid hHeld
        clear hy1
        refine wpAnyH_take (i := 9) (v := .bool true) rfl (by kernel_rfl) (by kernel_rfl) (by kernel_rfl) (fun _ _ _ h => h) (Or.inl ⟨by rfl, ?_⟩) (by assumption) ?_
        · intro w' hSw
          go_simp
        show wpAnyH _ _ _ _ _ _ _ (Act.put _ (some 22) _) _
        simp only [Act.put, List.setIfInBounds_toArray, List.set_cons_zero, List.set_cons_succ]
        refine wpAnyH_take (i := 10) (v := .bool true) rfl (by kernel_rfl) (by kernel_rfl) (by kernel_rfl) (fun _ _ _ h => h) (Or.inl ⟨by rfl, ?_⟩) (by assumption) ?_
        · intro w' hSw
          go_simp
        show wpAnyH _ _ _ _ _ _ _ (Act.put _ (some 23) _) _
        simp only [Act.put, List.setIfInBounds_toArray, List.set_cons_zero, List.set_cons_succ]
        refine wpAnyH_done (by kernel_rfl) ?_ _
        have HBA := Lib.hid (HW.out.1.next HY1.out)
        have HBR := Lib.hid (HW.out.2.1.next HY1.out)
        have HBL := Lib.hid (HW.out.2.2.trans (HY1.out.mono HW.out.2.2.size))
        have hz := HBA.out.free 0
        have hy := HBA.out.cell (j := 0) rfl
        have hl3 := HBA.out.lt
        have HSET := Lib.hid (And.intro (HBA.out.set 0 (.int .i64 ((m : Int) + 1))) (And.intro (HBR.out.other (g := w.heap.size + 1) (by omega) 0 (.int .i64 ((m : Int) + 1))) (HBL.out.setCell (p := ⟨w.heap.size + 1, 0, none⟩) (by show w.heap.size ≤ w.heap.size + 1; omega) (.int .i64 ((m : Int) + 1)))))
        clear he
        go_wp2_with fail
        go_roundw
        case rel => exact ⟨m + 1, by omega, by go_num, by rw [kindR_yes HE.out]; exact HSET.out.1, HSET.out.2.1, HSET.out.2.2⟩
        case measure => simp [intOf]; omega
      · have HE := Lib.hid (show ¬ actN ((m : Int) + 1) = x from fun q => he (HEQ.out.2 q))
        refine wp_region_held_drew (S := fun W' => Below wr.heap.size wr W') (by kernel_rfl) HHD.out (fun hHeld => ?_)
        refine wpAnyH_take (i := 0) (v := .slice (some ⟨b, o, none⟩) n c) rfl (by kernel_rfl) (by kernel_rfl) (by kernel_rfl) (fun _ _ _ h => h) (Or.inl ⟨by rfl, ?_⟩) (by assumption) ?_
        · intro w' hSw
          go_simp
        show wpAnyH _ _ _ _ _ _ _ (Act.put _ (some 13) _) _
        simp only [Act.put, List.setIfInBounds_toArray, List.set_cons_zero, List.set_cons_succ]
        refine wpAnyH_take (i := 1) (v := .int .i64 n) rfl (by kernel_rfl) (by kernel_rfl) (by kernel_rfl) (fun _ _ _ h => h) (Or.inl ⟨by rfl, ?_⟩) (by assumption) ?_
        · intro w' hSw
          go_simp
        show wpAnyH _ _ _ _ _ _ _ (Act.put _ (some 14) _) _
        simp only [Act.put, List.setIfInBounds_toArray, List.set_cons_zero, List.set_cons_succ]
        refine wpAnyH_take (i := 2) (v := .bool true) rfl (by kernel_rfl) (by kernel_rfl) (by kernel_rfl) (fun _ _ _ h => h) (Or.inl ⟨by rfl, ?_⟩) (by assumption) ?_
        · intro w' hSw
          go_simp
        show wpAnyH _ _ _ _ _ _ _ (Act.put _ (some 15) _) _
        simp only [Act.put, List.setIfInBounds_toArray, List.set_cons_zero, List.set_cons_succ]
        refine wpAnyH_take (i := 3) (v := .bool true) rfl (by kernel_rfl) (by kernel_rfl) (by kernel_rfl) (fun _ _ _ h => h) (Or.inl ⟨by rfl, ?_⟩) (by assumption) ?_
        · intro w' hSw
          go_simp
        show wpAnyH _ _ _ _ _ _ _ (Act.put _ (some 16) _) _
        simp only [Act.put, List.setIfInBounds_toArray, List.set_cons_zero, List.set_cons_succ]
        refine wpAnyH_take (i := 4) (v := .int .i64 ((m : Int) + 1)) rfl (by kernel_rfl) (by kernel_rfl) (by kernel_rfl) (fun _ _ _ h => h) (Or.inl ⟨by rfl, ?_⟩) (by assumption) ?_
        · intro w' hSw
          go_simp
        show wpAnyH _ _ _ _ _ _ _ (Act.put _ (some 17) _) _
        simp only [Act.put, List.setIfInBounds_toArray, List.set_cons_zero, List.set_cons_succ]
        refine wpAnyH_take (i := 6) (v := .slice (some ⟨b, o, none⟩) n c) rfl (by kernel_rfl) (by kernel_rfl) (by kernel_rfl) (fun _ _ _ h => h) (Or.inl ⟨by rfl, ?_⟩) (by assumption) ?_
        · intro w' hSw
          go_simp
        show wpAnyH _ _ _ _ _ _ _ (Act.put _ (some 19) _) _
        simp only [Act.put, List.setIfInBounds_toArray, List.set_cons_zero, List.set_cons_succ]
        refine wpAnyH_take (i := 7) (v := .pointer (some ⟨b, o, none⟩)) rfl (by kernel_rfl) (by kernel_rfl) (by kernel_rfl) (fun _ _ _ h => h) (Or.inl ⟨by rfl, ?_⟩) (by assumption) ?_
        · intro w' hSw
          go_simp
        show wpAnyH _ _ _ _ _ _ _ (Act.put _ (some 20) _) _
        simp only [Act.put, List.setIfInBounds_toArray, List.set_cons_zero, List.set_cons_succ]
        refine wpAnyH_take (i := 8) (v := .string s2) rfl (by kernel_rfl) (by kernel_rfl) (by kernel_rfl) (fun _ _ _ h => h) (Or.inl ⟨by rfl, ?_⟩) (by assumption) ?_
        · intro w' hSw
          have hc := HC0.out w' hSw
          go_simp
        show wpAnyH _ _ _ _ _ _ _ (Act.put _ (some 21) _) _
        simp only [Act.put, List.setIfInBounds_toArray, List.set_cons_zero, List.set_cons_succ]
        refine wpAnyH_ready (rs := [5]) (by kernel_rfl) (by simp) ?_
        refine AllReadyH.cons rfl (fun K hK => ?_) AllReadyH.nil
        go_simp
        refine (HAW1.out _).mono ?_
        rintro e Y1 ⟨rfl, hy1⟩
        go_simp
        refine hK.out _ _ (HHD.out.trans (hy1.mono HHD.out.size)) (fun hHeld => ?_)
        clear hK K
        have HY1 := Lib.hid hHeld
        clear hy1
        refine wpAnyH_take (i := 9) (v := .bool false) rfl (by kernel_rfl) (by kernel_rfl) (by kernel_rfl) (fun _ _ _ h => h) (Or.inl ⟨by rfl, ?_⟩) (by assumption) ?_
        · intro w' hSw
          go_simp
        show wpAnyH _ _ _ _ _ _ _ (Act.put _ (some 22) _) _
        simp only [Act.put, List.setIfInBounds_toArray, List.set_cons_zero, List.set_cons_succ]
        refine wpAnyH_take (i := 10) (v := .bool false) rfl (by kernel_rfl) (by kernel_rfl) (by kernel_rfl) (fun _ _ _ h => h) (Or.inl ⟨by rfl, ?_⟩) (by assumption) ?_
        · intro w' hSw
          go_simp
        show wpAnyH _ _ _ _ _ _ _ (Act.put _ (some 23) _) _
        simp only [Act.put, List.setIfInBounds_toArray, List.set_cons_zero, List.set_cons_succ]
        refine wpAnyH_done (by kernel_rfl) ?_ _
        have HBA := Lib.hid (HW.out.1.next HY1.out)
        have HBR := Lib.hid (HW.out.2.1.next HY1.out)
        have HBL := Lib.hid (HW.out.2.2.trans (HY1.out.mono HW.out.2.2.size))
        clear he
        go_wp2_with fail
        go_roundw
        case rel => exact ⟨m + 1, by omega, by go_num, by rw [kindR_no HE.out]; exact HBA.out, HBR.out, HBL.out⟩
        case measure => simp [intOf]; omega
    · obtain rfl : m = 19 := by omega
      rw [HKD.out.1] at HW
      have HA1 := Lib.hid (HAT.out 1 wr HW.out.2.2)
      obtain ⟨v1, hv1⟩ : ∃ v, v = atR ws 1 := ⟨_, rfl⟩
      have HV1 := Lib.hid hv1
      rw [← hv1] at HA1
      clear hv1
      go_wp2_with fail
      refine HA1.out.mono ?_
      rintro e Y ⟨rfl, hY⟩
      rw [hY]
      clear hY Y
      have hz0 := HW.out.1.cell (j := 0) rfl
      clear HA1
      have HA1 := Lib.hid (HAT.out 1 wr HW.out.2.2)
      rw [← HV1.out] at HA1
      have hy2 := HW.out.1.cell (j := 2) rfl
      have hf2 := HW.out.1.free 2
      have hl3 := HW.out.1.lt
      obtain ⟨D, hD⟩ : ∃ D, D = (actCs ({ kindM 7 with n := v1 } : ActM)).toArray := ⟨_, rfl⟩
      have hrow : (wr.setCell ⟨w.heap.size + 1, 2, none⟩ (.int .i64 v1)).heap[w.heap.size + 1]? = some (.cells D 33 (0, 0)) := by rw [hD]; exact (HW.out.1.set 2 (.int .i64 v1))
      have hrw : (wr.setCell ⟨w.heap.size + 1, 2, none⟩ (.int .i64 v1)).heap[w.heap.size]? = some (.cells #[.int .i64 0, .int .i64 0, .int .i64 0, .int .i64 0, .int .i64 0, .int .i64 0, .slice none 0 0, .slice none 0 0] 33 (0, 0)) := (HW.out.2.1.other (g := w.heap.size + 1) (by omega) 2 (.int .i64 v1))
      have hsz : (Tryz.prog.info? 33).map (·.size) = some D.size := by rw [hD]; exact act_size
      have hold : (#[.int .i64 0, .int .i64 0, .int .i64 0, .int .i64 0, .int .i64 0, .int .i64 0, .slice none 0 0, .slice none 0 0] : Array Value).size = D.size := by rw [hD]; rfl
      have hone : D.all (·.oneCell') = true := by rw [hD]; exact actCs_one _
      have HDV := Lib.hid (show actV ({ kindM 7 with n := v1 } : ActM) = .agg D by rw [hD]; rfl)
      clear hD
      go_wp2_with (first | (refine wpList_load_row_g (by rfl) 33 (.tmp 3) rfl (w.heap.size + 1) rfl 33 D (0, 0) _ hrow Tryz.underlying33 rfl hsz ?_) | (refine wpList_store_row rfl 33 (.tmp 2) (.tmp 142) rfl w.heap.size D rfl rfl 33 _ hrw hsz hold hone ?_))
      refine HA1.out.mono ?_
      rintro e Y ⟨rfl, hY⟩
      rw [hY]
      clear hY Y
      go_wp2_with (first | (refine wpList_load_row_g (by rfl) 33 (.tmp 3) rfl (w.heap.size + 1) rfl 33 D (0, 0) _ hrow Tryz.underlying33 rfl hsz ?_) | (refine wpList_store_row rfl 33 (.tmp 2) (.tmp 142) rfl w.heap.size D rfl rfl 33 _ hrw hsz hold hone ?_))
      refine bodyPost_ret (results_cell1 Tryz.results34 _ _ w.heap.size 33 D (0, 0) _ (by rfl) (setRow_heap _ _ _ _ _ _ hrw) Tryz.underlying33 rfl hsz) rfl ?_
      refine ⟨({ kindM 7 with n := v1 } : ActM), by rw [HDV.out], ?_, ⟨SrcO.nil _ _, nil_own _ _⟩, below_setR ((HW.out.2.2.setCell (p := ⟨w.heap.size + 1, 2, none⟩) (by show w.heap.size ≤ w.heap.size + 1; omega) (.int .i64 v1))) (Nat.le_refl _) _⟩
      rw [HKD.out.2.1]
      rw [HV1.out]
      rfl
set_option maxRecDepth 100000 in
set_option maxHeartbeats 8000000 in
theorem guess51_8 (ws : List Wd) (A : Option Addr) (c : Nat) (w : World) (hat : WdsAt w w.heap.size A ws) (hl : ∀ x ∈ ws, x.length ≤ 1000000000) (hn : ws.length ≤ 1000000) (x : Wd) (r : List Wd) (hws : ws = x :: r) (hk : kindR actN x 19 = 8) : Calls Tryz.prog 34 #[.slice A ws.length c] w (RetG ws w) := by
  obtain ⟨b, o, rfl, hb, hc⟩ := hat.at (i := 0) (x := x) (by rw [hws]; rfl)
  have hc : w.cell? ⟨b, o, none⟩ = some (.string (bs x)) := hc
  have HAT := Lib.hid (fun (j : Nat) (X : World) (hb : Below w.heap.size w X) => at51_any ws (some ⟨b, o, none⟩) c j X w.heap.size (Sl.below hat hb) hl (by omega))
  have HSP := Lib.hid (fun (j : Nat) (X : World) (hb : Below w.heap.size w X) (hj : j ≤ 1000000000) => span51_any ws (some ⟨b, o, none⟩) c j X (Sl.more (Sl.below hat hb) hb.size) hl hn hj)
  have HAW := Lib.hid (fun (k : Int) (X : World) => actWord_any k X)
  have HKD := Lib.hid (And.intro hk (And.intro (guess_kind hws hk) hn))
  have HCW := Lib.hid (show ∀ X : World, Below w.heap.size w X → X.cell? ⟨b, o, none⟩ = some (.string (bs x)) from fun X hX => (hX.cell (p := ⟨b, o, none⟩) hb).trans hc)
  obtain ⟨n, hnn⟩ : ∃ n, n = ws.length := ⟨_, rfl⟩
  have hn1 : n ≤ 1000000 := by omega
  have hn0 : 0 < n := by rw [hnn, hws]; simp
  have hn0' : (0 : Int) < (n : Int) := by omega
  have HNN := Lib.hid hnn
  rw [← hnn] at HAT HSP ⊢
  obtain ⟨X0, hX0⟩ : ∃ X0, X0 = ((w.alloc (.cells #[.int .i64 0, .int .i64 0, .int .i64 0, .int .i64 0, .int .i64 0, .int .i64 0, .slice none 0 0, .slice none 0 0] 33)).alloc (.cells #[.int .i64 0, .int .i64 0, .int .i64 0, .int .i64 0, .int .i64 0, .int .i64 0, .slice none 0 0, .slice none 0 0] 33)) := ⟨_, rfl⟩
  have HX0 : Hid (Blk X0 w.heap.size 33 [.int .i64 0, .int .i64 0, .int .i64 0, .int .i64 0, .int .i64 0, .int .i64 0, .slice none 0 0, .slice none 0 0] ∧ Blk X0 (w.heap.size + 1) 33 [.int .i64 0, .int .i64 0, .int .i64 0, .int .i64 0, .int .i64 0, .int .i64 0, .slice none 0 0, .slice none 0 0] ∧ Below w.heap.size w X0) := Lib.hid (by
    rw [hX0]
    obtain ⟨h1, h2⟩ := two_blk w [.int .i64 0, .int .i64 0, .int .i64 0, .int .i64 0, .int .i64 0, .int .i64 0, .slice none 0 0, .slice none 0 0] [.int .i64 0, .int .i64 0, .int .i64 0, .int .i64 0, .int .i64 0, .int .i64 0, .slice none 0 0, .slice none 0 0] 33 33
    exact ⟨h1, h2, ((Below.refl _ _).alloc (Nat.le_refl _) _).alloc (by simp) _⟩)
  clear hat hl hn hws hk hb hc hnn
  go_enter Tryz.func34, Tryz.ntmps34
  go_wp2_with fail
  rw [← hX0]
  clear hX0
  go_loopw [4] (fun jv X => ∃ m : Nat, m ≤ 19 ∧ jv = .int .i64 ((m : Int) + 1) ∧ Blk X (w.heap.size + 1) 33 (.int .i64 (kindR actN x m) :: [.int .i64 0, .int .i64 0, .int .i64 0, .int .i64 0, .int .i64 0, .slice none 0 0, .slice none 0 0]) ∧ Blk X w.heap.size 33 [.int .i64 0, .int .i64 0, .int .i64 0, .int .i64 0, .int .i64 0, .int .i64 0, .slice none 0 0, .slice none 0 0] ∧ Below w.heap.size w X) (fun jv _ => 20 - (intOf jv).toNat)
  case atStart => exact ⟨0, Nat.zero_le _, rfl, HX0.out.2.1, HX0.out.1, HX0.out.2.2⟩
  case round =>
    obtain ⟨m, hm, rfl, hba, hbr, hbl⟩ := hrel
    have HW := Lib.hid (And.intro hba (And.intro hbr hbl))
    clear hba hbr hbl
    by_cases hlt : m < 19
    · have hlt' : (m : Int) + 1 ≤ 19 := by omega
      have HHD := Lib.hid (show Below wr.heap.size wr wr.drew from below_dr (Below.refl _ _) 1)
      obtain ⟨s1, hs1⟩ : ∃ s, s = bs (actN ((m : Int) + 1)) := ⟨_, rfl⟩
      obtain ⟨s2, hs2⟩ : ∃ s, s = bs x := ⟨_, rfl⟩
      have HC0 := Lib.hid (show ∀ X : World, Below wr.heap.size wr X → X.cell? ⟨b, o, none⟩ = some (.string s2) from fun X hX => by rw [hs2]; exact HCW.out X (HW.out.2.2.trans (hX.mono HW.out.2.2.size)))
      have HEQ := Lib.hid (show s1.toList = s2.toList ↔ actN ((m : Int) + 1) = x by rw [hs1, hs2]; exact bs_lists)
      have HAW1 := Lib.hid (fun X : World => HAW.out ((m : Int) + 1) X)
      rw [← hs1] at HAW1
      clear hs2 hs1
      go_wp2_with fail
      by_cases he : s1.toList = s2.toList
      · have HE := Lib.hid (HEQ.out.1 he)
        refine wp_region_held_drew (S := fun W' => Below wr.heap.size wr W') (by kernel_rfl) HHD.out (fun hHeld => ?_)
        refine wpAnyH_take (i := 0) (v := .slice (some ⟨b, o, none⟩) n c) rfl (by kernel_rfl) (by kernel_rfl) (by kernel_rfl) (fun _ _ _ h => h) (Or.inl ⟨by rfl, ?_⟩) (by assumption) ?_
        · intro w' hSw
          go_simp
        show wpAnyH _ _ _ _ _ _ _ (Act.put _ (some 13) _) _
        simp only [Act.put, List.setIfInBounds_toArray, List.set_cons_zero, List.set_cons_succ]
        refine wpAnyH_take (i := 1) (v := .int .i64 n) rfl (by kernel_rfl) (by kernel_rfl) (by kernel_rfl) (fun _ _ _ h => h) (Or.inl ⟨by rfl, ?_⟩) (by assumption) ?_
        · intro w' hSw
          go_simp
        show wpAnyH _ _ _ _ _ _ _ (Act.put _ (some 14) _) _
        simp only [Act.put, List.setIfInBounds_toArray, List.set_cons_zero, List.set_cons_succ]
        refine wpAnyH_take (i := 2) (v := .bool true) rfl (by kernel_rfl) (by kernel_rfl) (by kernel_rfl) (fun _ _ _ h => h) (Or.inl ⟨by rfl, ?_⟩) (by assumption) ?_
        · intro w' hSw
          go_simp
        show wpAnyH _ _ _ _ _ _ _ (Act.put _ (some 15) _) _
        simp only [Act.put, List.setIfInBounds_toArray, List.set_cons_zero, List.set_cons_succ]
        refine wpAnyH_take (i := 3) (v := .bool true) rfl (by kernel_rfl) (by kernel_rfl) (by kernel_rfl) (fun _ _ _ h => h) (Or.inl ⟨by rfl, ?_⟩) (by assumption) ?_
        · intro w' hSw
          go_simp
        show wpAnyH _ _ _ _ _ _ _ (Act.put _ (some 16) _) _
        simp only [Act.put, List.setIfInBounds_toArray, List.set_cons_zero, List.set_cons_succ]
        refine wpAnyH_take (i := 4) (v := .int .i64 ((m : Int) + 1)) rfl (by kernel_rfl) (by kernel_rfl) (by kernel_rfl) (fun _ _ _ h => h) (Or.inl ⟨by rfl, ?_⟩) (by assumption) ?_
        · intro w' hSw
          go_simp
        show wpAnyH _ _ _ _ _ _ _ (Act.put _ (some 17) _) _
        simp only [Act.put, List.setIfInBounds_toArray, List.set_cons_zero, List.set_cons_succ]
        refine wpAnyH_take (i := 6) (v := .slice (some ⟨b, o, none⟩) n c) rfl (by kernel_rfl) (by kernel_rfl) (by kernel_rfl) (fun _ _ _ h => h) (Or.inl ⟨by rfl, ?_⟩) (by assumption) ?_
        · intro w' hSw
          go_simp
        show wpAnyH _ _ _ _ _ _ _ (Act.put _ (some 19) _) _
        simp only [Act.put, List.setIfInBounds_toArray, List.set_cons_zero, List.set_cons_succ]
        refine wpAnyH_take (i := 7) (v := .pointer (some ⟨b, o, none⟩)) rfl (by kernel_rfl) (by kernel_rfl) (by kernel_rfl) (fun _ _ _ h => h) (Or.inl ⟨by rfl, ?_⟩) (by assumption) ?_
        · intro w' hSw
          go_simp
        show wpAnyH _ _ _ _ _ _ _ (Act.put _ (some 20) _) _
        simp only [Act.put, List.setIfInBounds_toArray, List.set_cons_zero, List.set_cons_succ]
        refine wpAnyH_take (i := 8) (v := .string s2) rfl (by kernel_rfl) (by kernel_rfl) (by kernel_rfl) (fun _ _ _ h => h) (Or.inl ⟨by rfl, ?_⟩) (by assumption) ?_
        · intro w' hSw
          have hc := HC0.out w' hSw
          go_simp
        show wpAnyH _ _ _ _ _ _ _ (Act.put _ (some 21) _) _
        simp only [Act.put, List.setIfInBounds_toArray, List.set_cons_zero, List.set_cons_succ]
        refine wpAnyH_ready (rs := [5]) (by kernel_rfl) (by simp) ?_
        refine AllReadyH.cons rfl (fun K hK => ?_) AllReadyH.nil
        go_simp
        refine (HAW1.out _).mono ?_
        rintro e Y1 ⟨rfl, hy1⟩
        go_simp
        refine hK.out _ _ (HHD.out.trans (hy1.mono HHD.out.size)) (fun hHeld => ?_)
        clear hK K
        have HY1 := Lib.hid hHeld
        clear hy1
        refine wpAnyH_take (i := 9) (v := .bool true) rfl (by kernel_rfl) (by kernel_rfl) (by kernel_rfl) (fun _ _ _ h => h) (Or.inl ⟨by rfl, ?_⟩) (by assumption) ?_
        · intro w' hSw
          go_simp
        show wpAnyH _ _ _ _ _ _ _ (Act.put _ (some 22) _) _
        simp only [Act.put, List.setIfInBounds_toArray, List.set_cons_zero, List.set_cons_succ]
        refine wpAnyH_take (i := 10) (v := .bool true) rfl (by kernel_rfl) (by kernel_rfl) (by kernel_rfl) (fun _ _ _ h => h) (Or.inl ⟨by rfl, ?_⟩) (by assumption) ?_
        · intro w' hSw
          go_simp
        show wpAnyH _ _ _ _ _ _ _ (Act.put _ (some 23) _) _
        simp only [Act.put, List.setIfInBounds_toArray, List.set_cons_zero, List.set_cons_succ]
        refine wpAnyH_done (by kernel_rfl) ?_ _
        have HBA := Lib.hid (HW.out.1.next HY1.out)
        have HBR := Lib.hid (HW.out.2.1.next HY1.out)
        have HBL := Lib.hid (HW.out.2.2.trans (HY1.out.mono HW.out.2.2.size))
        have hz := HBA.out.free 0
        have hy := HBA.out.cell (j := 0) rfl
        have hl3 := HBA.out.lt
        have HSET := Lib.hid (And.intro (HBA.out.set 0 (.int .i64 ((m : Int) + 1))) (And.intro (HBR.out.other (g := w.heap.size + 1) (by omega) 0 (.int .i64 ((m : Int) + 1))) (HBL.out.setCell (p := ⟨w.heap.size + 1, 0, none⟩) (by show w.heap.size ≤ w.heap.size + 1; omega) (.int .i64 ((m : Int) + 1)))))
        clear he
        go_wp2_with fail
        go_roundw
        case rel => exact ⟨m + 1, by omega, by go_num, by rw [kindR_yes HE.out]; exact HSET.out.1, HSET.out.2.1, HSET.out.2.2⟩
        case measure => simp [intOf]; omega
      · have HE := Lib.hid (show ¬ actN ((m : Int) + 1) = x from fun q => he (HEQ.out.2 q))
        refine wp_region_held_drew (S := fun W' => Below wr.heap.size wr W') (by kernel_rfl) HHD.out (fun hHeld => ?_)
        refine wpAnyH_take (i := 0) (v := .slice (some ⟨b, o, none⟩) n c) rfl (by kernel_rfl) (by kernel_rfl) (by kernel_rfl) (fun _ _ _ h => h) (Or.inl ⟨by rfl, ?_⟩) (by assumption) ?_
        · intro w' hSw
          go_simp
        show wpAnyH _ _ _ _ _ _ _ (Act.put _ (some 13) _) _
        simp only [Act.put, List.setIfInBounds_toArray, List.set_cons_zero, List.set_cons_succ]
        refine wpAnyH_take (i := 1) (v := .int .i64 n) rfl (by kernel_rfl) (by kernel_rfl) (by kernel_rfl) (fun _ _ _ h => h) (Or.inl ⟨by rfl, ?_⟩) (by assumption) ?_
        · intro w' hSw
          go_simp
        show wpAnyH _ _ _ _ _ _ _ (Act.put _ (some 14) _) _
        simp only [Act.put, List.setIfInBounds_toArray, List.set_cons_zero, List.set_cons_succ]
        refine wpAnyH_take (i := 2) (v := .bool true) rfl (by kernel_rfl) (by kernel_rfl) (by kernel_rfl) (fun _ _ _ h => h) (Or.inl ⟨by rfl, ?_⟩) (by assumption) ?_
        · intro w' hSw
          go_simp
        show wpAnyH _ _ _ _ _ _ _ (Act.put _ (some 15) _) _
        simp only [Act.put, List.setIfInBounds_toArray, List.set_cons_zero, List.set_cons_succ]
        refine wpAnyH_take (i := 3) (v := .bool true) rfl (by kernel_rfl) (by kernel_rfl) (by kernel_rfl) (fun _ _ _ h => h) (Or.inl ⟨by rfl, ?_⟩) (by assumption) ?_
        · intro w' hSw
          go_simp
        show wpAnyH _ _ _ _ _ _ _ (Act.put _ (some 16) _) _
        simp only [Act.put, List.setIfInBounds_toArray, List.set_cons_zero, List.set_cons_succ]
        refine wpAnyH_take (i := 4) (v := .int .i64 ((m : Int) + 1)) rfl (by kernel_rfl) (by kernel_rfl) (by kernel_rfl) (fun _ _ _ h => h) (Or.inl ⟨by rfl, ?_⟩) (by assumption) ?_
        · intro w' hSw
          go_simp
        show wpAnyH _ _ _ _ _ _ _ (Act.put _ (some 17) _) _
        simp only [Act.put, List.setIfInBounds_toArray, List.set_cons_zero, List.set_cons_succ]
        refine wpAnyH_take (i := 6) (v := .slice (some ⟨b, o, none⟩) n c) rfl (by kernel_rfl) (by kernel_rfl) (by kernel_rfl) (fun _ _ _ h => h) (Or.inl ⟨by rfl, ?_⟩) (by assumption) ?_
        · intro w' hSw
          go_simp
        show wpAnyH _ _ _ _ _ _ _ (Act.put _ (some 19) _) _
        simp only [Act.put, List.setIfInBounds_toArray, List.set_cons_zero, List.set_cons_succ]
        refine wpAnyH_take (i := 7) (v := .pointer (some ⟨b, o, none⟩)) rfl (by kernel_rfl) (by kernel_rfl) (by kernel_rfl) (fun _ _ _ h => h) (Or.inl ⟨by rfl, ?_⟩) (by assumption) ?_
        · intro w' hSw
          go_simp
        show wpAnyH _ _ _ _ _ _ _ (Act.put _ (some 20) _) _
        simp only [Act.put, List.setIfInBounds_toArray, List.set_cons_zero, List.set_cons_succ]
        refine wpAnyH_take (i := 8) (v := .string s2) rfl (by kernel_rfl) (by kernel_rfl) (by kernel_rfl) (fun _ _ _ h => h) (Or.inl ⟨by rfl, ?_⟩) (by assumption) ?_
        · intro w' hSw
          have hc := HC0.out w' hSw
          go_simp
        show wpAnyH _ _ _ _ _ _ _ (Act.put _ (some 21) _) _
        simp only [Act.put, List.setIfInBounds_toArray, List.set_cons_zero, List.set_cons_succ]
        refine wpAnyH_ready (rs := [5]) (by kernel_rfl) (by simp) ?_
        refine AllReadyH.cons rfl (fun K hK => ?_) AllReadyH.nil
        go_simp
        refine (HAW1.out _).mono ?_
        rintro e Y1 ⟨rfl, hy1⟩
        go_simp
        refine hK.out _ _ (HHD.out.trans (hy1.mono HHD.out.size)) (fun hHeld => ?_)
        clear hK K
        have HY1 := Lib.hid hHeld
        clear hy1
        refine wpAnyH_take (i := 9) (v := .bool false) rfl (by kernel_rfl) (by kernel_rfl) (by kernel_rfl) (fun _ _ _ h => h) (Or.inl ⟨by rfl, ?_⟩) (by assumption) ?_
        · intro w' hSw
          go_simp
        show wpAnyH _ _ _ _ _ _ _ (Act.put _ (some 22) _) _
        simp only [Act.put, List.setIfInBounds_toArray, List.set_cons_zero, List.set_cons_succ]
        refine wpAnyH_take (i := 10) (v := .bool false) rfl (by kernel_rfl) (by kernel_rfl) (by kernel_rfl) (fun _ _ _ h => h) (Or.inl ⟨by rfl, ?_⟩) (by assumption) ?_
        · intro w' hSw
          go_simp
        show wpAnyH _ _ _ _ _ _ _ (Act.put _ (some 23) _) _
        simp only [Act.put, List.setIfInBounds_toArray, List.set_cons_zero, List.set_cons_succ]
        refine wpAnyH_done (by kernel_rfl) ?_ _
        have HBA := Lib.hid (HW.out.1.next HY1.out)
        have HBR := Lib.hid (HW.out.2.1.next HY1.out)
        have HBL := Lib.hid (HW.out.2.2.trans (HY1.out.mono HW.out.2.2.size))
        clear he
        go_wp2_with fail
        go_roundw
        case rel => exact ⟨m + 1, by omega, by go_num, by rw [kindR_no HE.out]; exact HBA.out, HBR.out, HBL.out⟩
        case measure => simp [intOf]; omega
    · obtain rfl : m = 19 := by omega
      rw [HKD.out.1] at HW
      have HA1 := Lib.hid (HAT.out 1 wr HW.out.2.2)
      obtain ⟨v1, hv1⟩ : ∃ v, v = atR ws 1 := ⟨_, rfl⟩
      have HV1 := Lib.hid hv1
      rw [← hv1] at HA1
      clear hv1
      go_wp2_with fail
      refine HA1.out.mono ?_
      rintro e Y ⟨rfl, hY⟩
      rw [hY]
      clear hY Y
      have hz0 := HW.out.1.cell (j := 0) rfl
      clear HA1
      have HS8 := Lib.hid (HSP.out 1 wr HW.out.2.2 (by decide))
      have HL8 := Lib.hid (spanR_64 (w := ws) (i := 1))
      clear hz0
      have hz0 := HW.out.1.cell (j := 0) rfl
      go_wp2_with fail
      refine HS8.out.mono ?_
      rintro e Y ⟨B, d, rfl, hown, hb8⟩
      have HW8 := Lib.hid (And.intro (HW.out.1.next hb8) (And.intro (HW.out.2.1.next hb8) (And.intro (HW.out.2.2.trans (hb8.mono HW.out.2.2.size)) (OwnV.base_le hown HW.out.2.2.size))))
      obtain ⟨L, hL⟩ : ∃ L, L = spanR ws 1 := ⟨_, rfl⟩
      rw [← hL] at HW8 ⊢
      have HLL := Lib.hid hL
      clear hown hb8 HS8 HL8 hz0 hL
      have hy7 := HW8.out.1.cell (j := 7) rfl
      have hf7 := HW8.out.1.free 7
      have hl3 := HW8.out.1.lt
      obtain ⟨D, hD⟩ : ∃ D, D = (actCs ({ kindM 8 with gA := B, gc := d, groups := L } : ActM)).toArray := ⟨_, rfl⟩
      have hrow : (Y.setCell ⟨w.heap.size + 1, 7, none⟩ (.slice B L.length d)).heap[w.heap.size + 1]? = some (.cells D 33 (0, 0)) := by rw [hD]; exact (HW8.out.1.set 7 (.slice B L.length d))
      have hrw : (Y.setCell ⟨w.heap.size + 1, 7, none⟩ (.slice B L.length d)).heap[w.heap.size]? = some (.cells #[.int .i64 0, .int .i64 0, .int .i64 0, .int .i64 0, .int .i64 0, .int .i64 0, .slice none 0 0, .slice none 0 0] 33 (0, 0)) := (HW8.out.2.1.other (g := w.heap.size + 1) (by omega) 7 (.slice B L.length d))
      have hsz : (Tryz.prog.info? 33).map (·.size) = some D.size := by rw [hD]; exact act_size
      have hold : (#[.int .i64 0, .int .i64 0, .int .i64 0, .int .i64 0, .int .i64 0, .int .i64 0, .slice none 0 0, .slice none 0 0] : Array Value).size = D.size := by rw [hD]; rfl
      have hone : D.all (·.oneCell') = true := by rw [hD]; exact actCs_one _
      have HDV := Lib.hid (show actV ({ kindM 8 with gA := B, gc := d, groups := L } : ActM) = .agg D by rw [hD]; rfl)
      clear hD
      go_wp2_with (first | (refine wpList_load_row_g (by rfl) 33 (.tmp 3) rfl (w.heap.size + 1) rfl 33 D (0, 0) _ hrow Tryz.underlying33 rfl hsz ?_) | (refine wpList_store_row rfl 33 (.tmp 2) (.tmp 142) rfl w.heap.size D rfl rfl 33 _ hrw hsz hold hone ?_))
      refine bodyPost_ret (results_cell1 Tryz.results34 _ _ w.heap.size 33 D (0, 0) _ (by rfl) (setRow_heap _ _ _ _ _ _ hrw) Tryz.underlying33 rfl hsz) rfl ?_
      refine ⟨({ kindM 8 with gA := B, gc := d, groups := L } : ActM), by rw [HDV.out], ?_, ⟨SrcO.nil _ _, own_keep (own_blk HW8.out.2.2.2 HW8.out.1 (by decide) 7 (.slice B L.length d)) (HW8.out.2.1.other (g := w.heap.size + 1) (by omega) 7 (.slice B L.length d)) (by decide) (only_row2 _ w.heap.size D)⟩, below_setR (HW8.out.2.2.1.setCell (p := ⟨w.heap.size + 1, 7, none⟩) (by show w.heap.size ≤ w.heap.size + 1; omega) (.slice B L.length d)) (Nat.le_refl _) _⟩
      rw [HKD.out.2.1]
      rw [HLL.out]
      rfl
end Go.Proofs.YtakdkiggaalimaaGreatDoor
