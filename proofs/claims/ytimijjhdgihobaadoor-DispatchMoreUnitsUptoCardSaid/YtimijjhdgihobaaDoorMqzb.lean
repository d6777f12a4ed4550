/-
  dispatch.candidates: the walk.
  dispatch.Assign: its memory while choices are carried out.
-/
import Derived.Test.YtimijjhdgihobaaDoorMqz
import Derived.Test.YtimijjhdgihobaaDoorMqza
namespace Go.Proofs.YtimijjhdgihobaaDoor
section
open Go.RowKit Go.Maps

def colI (M : List (List Int)) (k : Nat) : List Int := (colT M k).map (fun j : Nat => (j : Int))
theorem colI_len (M : List (List Int)) (k : Nat) : (colI M k).length ≤ k := by
  unfold colI
  rw [List.length_map]
  exact colT_len M k
theorem colI_yes {M : List (List Int)} {k : Nat} (h : colB M k = true) : colI M (k + 1) = colI M k ++ [(k : Int)] := by
  unfold colI
  rw [colT_succ, if_pos h, List.map_append]
  rfl
theorem colI_no {M : List (List Int)} {k : Nat} (h : colB M k = false) : colI M (k + 1) = colI M k := by
  unfold colI
  rw [colT_succ, h]
  rfl
/-- what candidates returns. -/
def RetCand (w : World) (n : Nat) (E : List EdgeT) (ts : List Int) (ss : List SlotT) (us : List UnitT) (e : Ending) (w' : World) : Prop :=
  ∃ v gb F P M', e = .returned (.tuple #[v, .slice (some ⟨gb, 0, none⟩) ss.length ss.length]) ∧ OwnU w' w.heap.size 44 v (candU n E ts (ss.map strip) us) ∧ MatR n E ts (ss.map strip) (candU n E ts (ss.map strip) us) M' ∧ FamI w' gb ss.length F P ∧ (∀ i, i < ss.length → M'[i]? = some (P i)) ∧ w.heap.size ≤ gb ∧ Below w.heap.size w w'
theorem pick_at {M : List (List Int)} {cols : List Nat} {i : Nat} (hi : i < M.length) : (pickR M cols)[i]? = some (cols.map (fun j => cF M i j)) := by
  unfold pickR
  rw [List.getElem?_map, List.getElem?_eq_getElem hi]
  unfold cF
  rw [List.getElem?_eq_getElem hi]
  rfl
set_option maxRecDepth 100000 in
set_option maxHeartbeats 16000000 in
theorem candidates_any (p n : Nat) (E : List EdgeT) (A1 A2 A3 : Option Addr) (c1 c2 c3 : Nat) (ts : List Int) (ss : List SlotT) (us : List UnitT) (w : World) (hg : GraphAt w w.heap.size p n E) (hn : n ≤ 256) (hE : E.length ≤ 16384) (hok : ∀ e ∈ E, 0 ≤ e.dst ∧ e.dst < n) (hs : Sl w w.heap.size A1 (ts.map (Value.int .i64)))
    (hss : SlotsAt w w.heap.size A2 ss) (hsn : SNodes w w.heap.size ss) (hnl : ∀ s ∈ ss, s.nodes.length ≤ 16384) (hl : ss.length ≤ 64) (hu : UnitsAt w w.heap.size A3 us) (huw : ∀ u ∈ us, UnitWf u) (hul : us.length ≤ 64) :
    Calls Tryd.prog 28 #[.pointer (some ⟨p, 0, none⟩), .slice A1 ts.length c1, .slice A2 ss.length c2, .slice A3 us.length c3] w (RetCand w n E ts ss us) := by
  have HCO := Lib.hid (cost_any p n E A1 A2 A3 c1 c2 c3 ts ss us w hg hn hE hok hs hss hsn hnl hl hu huw hul)
  have HU := Lib.hid hu
  clear hg hok hs hss hsn hnl hu huw
  go_enter Tryd.func28, Tryd.ntmps28
  go_wp2_with fail
  refine HCO.out.mono ?_
  rintro e w1 ⟨go, vs, rfl, k1, k2, k3, k4⟩
  obtain ⟨M, hM1, hM2, hM3, hM4⟩ := cost_mat k1 k2 k3
  have HM := Lib.hid (And.intro hM1 (And.intro hM2 (And.intro hM3 (And.intro hM4 k4))))
  have hgo : 0 < ss.length → go < w1.heap.size := fun h => by
    obtain ⟨b, o, A', c', e, hb, _, _⟩ := hM2.row (i := 0) (List.getElem?_eq_getElem (by omega))
    injection e with e
    injection e with e1 _
    omega
  clear HCO k1 k2 k3 k4 hM1 hM2 hM3 hM4
  go_wp2_with fail
  go_loopw [11, 28] (fun v iv Y => ∃ j : Nat, j ≤ us.length ∧ iv = .int .i64 j ∧ OwnI Y w1.heap.size 3 v (colI M j) ∧ Below w1.heap.size w1 Y) (fun _ iv _ => us.length - (intOf iv).toNat)
  case atStart => exact ⟨0, Nat.zero_le _, rfl, World.ownsRow_nil _ _ _ _, Below.refl _ _⟩
  case round =>
    obtain ⟨j, hj, rfl, hown, hb⟩ := hrel
    have HO := Lib.hid (And.intro hown hb)
    have hcl := colI_len M j
    rename_i cv _
    clear hown hb
    obtain ⟨wA, hwA⟩ : ∃ w', w' = wr := ⟨_, rfl⟩
    subst hwA
    by_cases hlt : j < us.length
    · have hlt' : (j : Int) < (us.length : Int) := by omega
      go_wp2_with fail
      go_loopw [11, 33] (fun v iv Y => ∃ i : Nat, i ≤ ss.length ∧ iv = .int .i64 i ∧ OwnI Y w1.heap.size 3 v (colI M j) ∧ Below w1.heap.size w1 Y ∧ ∀ i', i' < i → cF M i' j = 4611686018427387904) (fun _ iv _ => ss.length - (intOf iv).toNat)
      case atStart => exact ⟨0, Nat.zero_le _, rfl, HO.out.1, HO.out.2, fun i hi => by omega⟩
      case round =>
        obtain ⟨i, hi, rfl, hown, hb, hno⟩ := hrel
        have HN := Lib.hid (And.intro hown (And.intro hb hno))
        clear hb hno
        by_cases hli : i < ss.length
        · have hli' : (i : Int) < (ss.length : Int) := by omega
          obtain ⟨_, b2, o2, c', _, e1, e2⟩ := (HM.out.2.1.below HN.out.2.1).num HM.out.2.2.1 (i := i) (j := j) (by rw [HM.out.1]; exact hli) hlt
          obtain ⟨x, hx⟩ : ∃ x, x = cF M i j := ⟨_, rfl⟩
          have HX := Lib.hid hx
          rw [← hx] at e2
          rw [Nat.zero_add] at e1
          clear hx
          have hwz : w1.heap.size ≤ wr.heap.size := HN.out.2.1.size
          by_cases hif : x = 4611686018427387904
          · have hif' : (x != 4611686018427387904) = false := by simp [hif]
            have HI := Lib.hid hif
            clear hif
            go_wp2_with fail
            go_roundw
            case rel =>
              refine ⟨i + 1, by omega, by go_num, HN.out.1, HN.out.2.1, fun i' hi' => ?_⟩
              by_cases e : i' = i
              · rw [e, ← HX.out]; exact HI.out
              · exact HN.out.2.2 i' (by omega)
            case measure => simp [intOf]; omega
          · have hif' : (x != 4611686018427387904) = true := by simp [hif]
            have HI := Lib.hid hif
            clear hif
            go_wp2_with (at_builtin; refine wpList_append_one (f := Value.int .i64) _ rfl (.tmp 44) (.tmp 46) 36 rfl w1.heap.size 3 Tryd.underlying36 int_infoH rfl (by omega) _ _ wr (j : Int) rfl rfl rfl hown rfl (by omega) (by omega) ?_; intro v5 w5 hown5 hg5)
            go_roundw
            case rel =>
              refine ⟨j + 1, by omega, by go_num, ?_, HN.out.2.1.grown hg5 (by omega) (fun k e => OwnV.ge_base hown k e)⟩
              rw [colI_yes (colB_yes (by rw [HM.out.1]; exact hli) (by rw [← HX.out]; exact HI.out))]
              exact hown5
            case measure => simp [intOf]; omega
        · obtain rfl : i = ss.length := by omega
          go_wp2_with fail
          go_roundw
          case rel =>
            refine ⟨j + 1, by omega, by go_num, ?_, HN.out.2.1⟩
            rw [colI_no (colB_no (fun i' hi' => HN.out.2.2 i' (by rw [← HM.out.1]; exact hi')))]
            exact HN.out.1
          case measure => simp [intOf]; omega
    · obtain rfl : j = us.length := by omega
      obtain ⟨A5, c5, e5, _⟩ := HO.out.1.sl
      have hcap : (colI M us.length).length ≤ c5 ∧ c5 ≤ 9223372036854775807 := by
        have h := HO.out.1
        rw [e5] at h
        exact ⟨(caps_row h).2.1, (caps_row h).2.2⟩
      subst e5
      obtain ⟨n5, hn5⟩ : ∃ n5, n5 = (colI M us.length).length := ⟨_, rfl⟩
      rw [← hn5] at hcap
      have HLI := Lib.hid (limI_any wA A5 n5 c5 hcap.1 hcap.2)
      have HN5 := Lib.hid hn5
      rw [← hn5]
      clear hn5 hcap
      go_wp2_with fail
      refine HLI.out.mono ?_
      rintro e X0 ⟨rfl, hX0⟩
      rw [hX0]
      clear hX0 X0 HLI
      obtain ⟨m5, hm5⟩ : ∃ m5, m5 = min n5 64 := ⟨_, rfl⟩
      rw [← hm5]
      have hm64 : m5 ≤ 64 := by omega
      have HC : Hid (∃ cols : List Nat, cols = (colT M us.length).take 64 ∧ cols.length = m5 ∧ (∀ j ∈ cols, j < us.length) ∧ ∀ (k j : Nat), cols[k]? = some j → ∃ b o, A5 = some ⟨b, o, none⟩ ∧ w1.heap.size ≤ b ∧ b < wA.heap.size ∧ wA.cell? ⟨b, o + k, none⟩ = some (.int .i64 j)) := Lib.hid (by
        refine ⟨_, rfl, ?_, fun j hj => colT_lt (List.mem_of_mem_take hj), fun k j hk => ?_⟩
        · rw [List.length_take, hm5, HN5.out]
          unfold colI
          rw [List.length_map, Nat.min_comm]
        · obtain ⟨g, c', e, hb, hlt, hc, _⟩ := HO.out.1.form (k := k) (z := (j : Int)) (by
            unfold colI
            rw [List.getElem?_map]
            have : (colT M us.length)[k]? = some j := by
              rw [List.getElem?_take] at hk
              split at hk
              · exact hk
              · cases hk
            rw [this]
            rfl)
          injection e with e1 _ _
          exact ⟨g, 0, e1, hb, hlt, by rw [Nat.zero_add]; exact hc⟩)
      obtain ⟨cols, hc1, hc2, hc3, hc4⟩ := HC.out
      have HC2 := Lib.hid (And.intro hc1 (And.intro hc2 (And.intro hc3 hc4)))
      clear hm5 HC hc1 hc2 hc3 hc4
      go_wp2_with fail
      go_loopw [14, 54] (fun v iv Y => ∃ k : Nat, k ≤ m5 ∧ iv = .int .i64 k ∧ OwnU Y wA.heap.size 44 v ((cols.take k).filterMap (fun j => us[j]?)) ∧ Below wA.heap.size wA Y) (fun _ iv _ => m5 - (intOf iv).toNat)
      case atStart => exact ⟨0, Nat.zero_le _, rfl, OwnR.nil _ _ _, Below.refl _ _⟩
      case round =>
        obtain ⟨k, hk, rfl, hown, hb⟩ := hrel
        have HN := Lib.hid (And.intro hown hb)
        have hbz := hb.size
        clear hb
        by_cases hlt : k < m5
        · have hlt' : (k : Int) < (m5 : Int) := by omega
          obtain ⟨j, hj⟩ : ∃ j, cols[k]? = some j := ⟨_, List.getElem?_eq_getElem (by rw [HC2.out.2.1]; exact hlt)⟩
          obtain ⟨bj, oj, rfl, _, hbj, hcj⟩ := HC2.out.2.2.2 k j hj
          have hcj2 : wr.cell? ⟨bj, oj + k, none⟩ = some (.int .i64 j) := (HN.out.2.cell (p := ⟨bj, oj + k, none⟩) hbj).trans hcj
          have hjl := HC2.out.2.2.1 j (List.mem_of_getElem? hj)
          have hjl' : (j : Int) < (us.length : Int) := by omega
          obtain ⟨u, hu⟩ : ∃ u, us[j]? = some u := ⟨_, List.getElem?_eq_getElem hjl⟩
          have HK : Hid ((cols.take (k + 1)).filterMap (fun j => us[j]?) = (cols.take k).filterMap (fun j => us[j]?) ++ [u]) := Lib.hid (by
            rw [take_snoc' hj, List.filterMap_append]
            simp [hu])
          have hwz : w.heap.size ≤ wA.heap.size := Nat.le_trans HM.out.2.2.2.2.size HO.out.2.size
          obtain ⟨bu, ou, rfl, hbu, q0, q1, q2, q3, q4, q5, q6, q7, q8, q9⟩ := unit_at (((HU.out.below HM.out.2.2.2.2).below (HO.out.2.mono HM.out.2.2.2.2.size)).below (HN.out.2.mono hwz)) hu
          clear hj hcj hu hjl
          have hfl : ((cols.take k).filterMap (fun j => us[j]?)).length ≤ 64 := by
            have h1 := List.length_filterMap_le (fun j => us[j]?) (cols.take k)
            have h2 := List.length_take_le k cols
            omega
          obtain ⟨id, kind, home, state, node, seq, heard, inc, epoch, acked⟩ := u
          simp only at q0 q1 q2 q3 q4 q5 q6 q7 q8 q9
          go_wp2_with (at_builtin; refine wpList_append_rec _ rfl _ _ 27 rfl wA.heap.size 44 Tryd.underlying27 unit_info rfl (by omega) (by omega) cellsU_len _ _ wr ⟨id, kind, home, state, node, seq, heard, inc, epoch, acked⟩ (cellsU_one _) _ rfl rfl rfl hown _ rfl (by simp) (by omega) (by omega) ?_; intro v1 w2 hown1 hg1)
          go_roundw
          case rel =>
            refine ⟨k + 1, by omega, by go_num, ?_, HN.out.2.grown hg1 (by omega) (fun j hj => hown.ge_base _ hj)⟩
            rw [HK.out]
            exact hown1
          case measure => simp [intOf]; omega
        · obtain rfl : k = m5 := by omega
          obtain ⟨wB, hwB⟩ : ∃ w', w' = wr := ⟨_, rfl⟩
          subst hwB
          obtain ⟨gb, hgb⟩ : ∃ gb, gb = wB.heap.size := ⟨_, rfl⟩
          obtain ⟨W, hW⟩ : ∃ W, W = wB.alloc (.cells (madeCells #[.slice none 0 0] ss.length) 25) := ⟨_, rfl⟩
          have HF0 := Lib.hid (fam_made wB ss.length)
          rw [← hW, ← hgb] at HF0
          have HBW : Hid (Below wB.heap.size wB W) := Lib.hid (by rw [hW]; exact below_newH _ _)
          have hmk := make_rows64 wB ss.length (by omega)
          rw [← hW, ← hgb] at hmk
          have HGB := Lib.hid hgb
          clear hgb
          go_wp2_with fail
          clear hmk
          go_loopw [71] (fun iv Y => ∃ (i : Nat) (F : Nat → Value) (P : Nat → List Int), i ≤ ss.length ∧ iv = .int .i64 i ∧ FamI Y gb ss.length F P ∧ (∀ i', i' < i → P i' = (cols.map (fun j => cF M i' j))) ∧ (∀ i', i ≤ i' → P i' = []) ∧ Below gb wB Y) (fun iv _ => ss.length - (intOf iv).toNat)
          case atStart =>
            rw [← hW]
            exact ⟨0, _, _, Nat.zero_le _, rfl, HF0.out, fun i hi => by omega, fun _ _ => rfl, by rw [HGB.out]; exact HBW.out⟩
          case round =>
            obtain ⟨i, F, P, hi, rfl, h1, h2, h3, h4⟩ := hrel
            have HR := Lib.hid (And.intro h1 (And.intro h2 (And.intro h3 h4)))
            clear h1 h2 h3 h4
            by_cases hli : i < ss.length
            · have hli' : (i : Int) < (ss.length : Int) := by omega
              go_wp2_with fail
              go_loopw [76] (fun iv Y => ∃ (q : Nat) (F2 : Nat → Value) (P2 : Nat → List Int), q ≤ k ∧ iv = .int .i64 q ∧ FamI Y gb ss.length F2 P2 ∧ P2 i = (cols.take q).map (fun j => cF M i j) ∧ (∀ i', i' ≠ i → P2 i' = P i') ∧ Below gb wB Y) (fun iv _ => k - (intOf iv).toNat)
              case atStart => exact ⟨0, F, P, Nat.zero_le _, rfl, HR.out.1, by rw [HR.out.2.2.1 i (Nat.le_refl _)]; rfl, fun _ _ => rfl, HR.out.2.2.2⟩
              case round =>
                obtain ⟨q, F2, P2, hq, rfl, h1, h2, h3, h4⟩ := hrel
                have HQ := Lib.hid (And.intro h1 (And.intro h2 (And.intro h3 h4)))
                clear h1 h2 h3 h4
                by_cases hlq : q < k
                · have hlq' : (q : Int) < (k : Int) := by omega
                  obtain ⟨j, hj⟩ : ∃ j, cols[q]? = some j := ⟨_, List.getElem?_eq_getElem (by rw [HC2.out.2.1]; exact hlq)⟩
                  obtain ⟨bj, oj, rfl, _, hbj, hcj⟩ := HC2.out.2.2.2 q j hj
                  have hcw : ∀ Y, Below gb wB Y → Y.cell? ⟨bj, oj + q, none⟩ = some (.int .i64 j) := fun Y hY => (hY.cell (p := ⟨bj, oj + q, none⟩) (by rw [HGB.out]; exact Nat.lt_of_lt_of_le hbj HN.out.2.size)).trans ((HN.out.2.cell (p := ⟨bj, oj + q, none⟩) hbj).trans hcj)
                  have hcq := hcw wr HQ.out.2.2.2
                  have HCW := Lib.hid hcw
                  have hjl := HC2.out.2.2.1 j (List.mem_of_getElem? hj)
                  have hjl' : (j : Int) < (us.length : Int) := by omega
                  have HJ := Lib.hid hj
                  clear hj hcj hcw
                  -- region 27
                  have hbw1 : Below w1.heap.size w1 wr := (HO.out.2.trans (HN.out.2.mono HO.out.2.size)).trans (HQ.out.2.2.2.mono (by rw [HGB.out]; exact Nat.le_trans HO.out.2.size HN.out.2.size))
                  obtain ⟨hgo2, b2, o2, c2, hb2, e1, e2⟩ := (HM.out.2.1.below hbw1).num HM.out.2.2.1 (i := i) (j := j) (by rw [HM.out.1]; exact hli) hjl
                  obtain ⟨x, hx⟩ : ∃ x, x = cF M i j := ⟨_, rfl⟩
                  rw [← hx] at e2
                  rw [Nat.zero_add] at e1
                  have hg0 : w1.heap.size ≤ gb := by rw [HGB.out]; exact Nat.le_trans HO.out.2.size HN.out.2.size
                  have HX := Lib.hid hx
                  have HCE := Lib.hid (And.intro hgo2 (And.intro hb2 hg0))
                  clear hx hbw1 hgo2 hb2 hg0
                  have e1a : (wr.alloc (.cells #[.int .i64 x] 2)).cell? ⟨go, i, none⟩ = some (.slice (some ⟨b2, o2, none⟩) us.length c2) := (World.cell?_alloc_lt wr _ ⟨go, i, none⟩ (by have := HQ.out.1.room; have := HCE.out; simp only; omega)).trans e1
                  have e2a : (wr.alloc (.cells #[.int .i64 x] 2)).cell? ⟨b2, o2 + j, none⟩ = some (.int .i64 x) := (World.cell?_alloc_lt wr _ ⟨b2, o2 + j, none⟩ (by have := HQ.out.1.room; have := HCE.out; simp only; omega)).trans e2
                  have HE := Lib.hid (And.intro e1 e2)
                  have HPL : Hid ((P2 i).length ≤ 64) := Lib.hid (by rw [HQ.out.2.1, List.length_map]; have := List.length_take_le q cols; omega)
                  go_upto_region 27 with fail
                  refine wp_region_held_drew (S := (fun w' => w'.cell? ⟨go, i, none⟩ = some (.slice (some ⟨b2, o2, none⟩) us.length c2) ∧ w'.cell? ⟨b2, o2 + j, none⟩ = some (.int .i64 x))) (by kernel_rfl) ⟨e1, e2⟩ (fun hHeld => ?_)
                  refine wpAnyH_take (i := 0) (v := .slice (some ⟨gb, 0, none⟩) ss.length ss.length) rfl (by kernel_rfl) (by kernel_rfl) (by kernel_rfl) (fun _ _ _ h => h) (Or.inl ⟨by rfl, ?_⟩) (by assumption) ?_
                  · intro w hSw
                    obtain ⟨s0, s1⟩ := hSw
                    go_simp
                  show wpAnyH _ _ _ _ _ _ _ (Act.put _ (some 80) _) _
                  simp only [Act.put, List.setIfInBounds_toArray, List.set_cons_zero, List.set_cons_succ]
                  refine wpAnyH_take (i := 1) (v := .int .i64 (i : Int)) rfl (by kernel_rfl) (by kernel_rfl) (by kernel_rfl) (fun _ _ _ h => h) (Or.inl ⟨by rfl, ?_⟩) (by assumption) ?_
                  · intro w hSw
                    obtain ⟨s0, s1⟩ := hSw
                    go_simp
                  show wpAnyH _ _ _ _ _ _ _ (Act.put _ (some 81) _) _
                  simp only [Act.put, List.setIfInBounds_toArray, List.set_cons_zero, List.set_cons_succ]
                  refine wpAnyH_take (i := 2) (v := .slice (some ⟨gb, 0, none⟩) ss.length ss.length) rfl (by kernel_rfl) (by kernel_rfl) (by kernel_rfl) (fun _ _ _ h => h) (Or.inl ⟨by rfl, ?_⟩) (by assumption) ?_
                  · intro w hSw
                    obtain ⟨s0, s1⟩ := hSw
                    go_simp
                  show wpAnyH _ _ _ _ _ _ _ (Act.put _ (some 82) _) _
                  simp only [Act.put, List.setIfInBounds_toArray, List.set_cons_zero, List.set_cons_succ]
                  refine wpAnyH_take (i := 3) (v := .int .i64 (i : Int)) rfl (by kernel_rfl) (by kernel_rfl) (by kernel_rfl) (fun _ _ _ h => h) (Or.inl ⟨by rfl, ?_⟩) (by assumption) ?_
                  · intro w hSw
                    obtain ⟨s0, s1⟩ := hSw
                    go_simp
                  show wpAnyH _ _ _ _ _ _ _ (Act.put _ (some 83) _) _
                  simp only [Act.put, List.setIfInBounds_toArray, List.set_cons_zero, List.set_cons_succ]
                  refine wpAnyH_take (i := 4) (v := .pointer (some ⟨gb, i, none⟩)) rfl (by kernel_rfl) (by kernel_rfl) (by kernel_rfl) (fun _ _ _ h => h) (Or.inl ⟨by rfl, ?_⟩) (by assumption) ?_
                  · intro w hSw
                    obtain ⟨s0, s1⟩ := hSw
                    go_simp
                  show wpAnyH _ _ _ _ _ _ _ (Act.put _ (some 84) _) _
                  simp only [Act.put, List.setIfInBounds_toArray, List.set_cons_zero, List.set_cons_succ]
                  refine wpAnyH_take (i := 6) (v := .slice (some ⟨go, 0, none⟩) ss.length ss.length) rfl (by kernel_rfl) (by kernel_rfl) (by kernel_rfl) (fun _ _ _ h => h) (Or.inl ⟨by rfl, ?_⟩) (by assumption) ?_
                  · intro w hSw
                    obtain ⟨s0, s1⟩ := hSw
                    go_simp
                  show wpAnyH _ _ _ _ _ _ _ (Act.put _ (some 86) _) _
                  simp only [Act.put, List.setIfInBounds_toArray, List.set_cons_zero, List.set_cons_succ]
                  refine wpAnyH_take (i := 7) (v := .int .i64 (i : Int)) rfl (by kernel_rfl) (by kernel_rfl) (by kernel_rfl) (fun _ _ _ h => h) (Or.inl ⟨by rfl, ?_⟩) (by assumption) ?_
                  · intro w hSw
                    obtain ⟨s0, s1⟩ := hSw
                    go_simp
                  show wpAnyH _ _ _ _ _ _ _ (Act.put _ (some 87) _) _
                  simp only [Act.put, List.setIfInBounds_toArray, List.set_cons_zero, List.set_cons_succ]
                  refine wpAnyH_take (i := 8) (v := .pointer (some ⟨go, i, none⟩)) rfl (by kernel_rfl) (by kernel_rfl) (by kernel_rfl) (fun _ _ _ h => h) (Or.inl ⟨by rfl, ?_⟩) (by assumption) ?_
                  · intro w hSw
                    obtain ⟨s0, s1⟩ := hSw
                    go_simp
                  show wpAnyH _ _ _ _ _ _ _ (Act.put _ (some 88) _) _
                  simp only [Act.put, List.setIfInBounds_toArray, List.set_cons_zero, List.set_cons_succ]
                  refine wpAnyH_take (i := 9) (v := .slice (some ⟨b2, o2, none⟩) us.length c2) rfl (by kernel_rfl) (by kernel_rfl) (by kernel_rfl) (fun _ _ _ h => h) (Or.inl ⟨by rfl, ?_⟩) (by assumption) ?_
                  · intro w hSw
                    obtain ⟨s0, s1⟩ := hSw
                    go_simp
                  show wpAnyH _ _ _ _ _ _ _ (Act.put _ (some 89) _) _
                  simp only [Act.put, List.setIfInBounds_toArray, List.set_cons_zero, List.set_cons_succ]
                  refine wpAnyH_take (i := 10) (v := .int .i64 (j : Int)) rfl (by kernel_rfl) (by kernel_rfl) (by kernel_rfl) (fun _ _ _ h => h) (Or.inl ⟨by rfl, ?_⟩) (by assumption) ?_
                  · intro w hSw
                    obtain ⟨s0, s1⟩ := hSw
                    go_simp
                  show wpAnyH _ _ _ _ _ _ _ (Act.put _ (some 90) _) _
                  simp only [Act.put, List.setIfInBounds_toArray, List.set_cons_zero, List.set_cons_succ]
                  refine wpAnyH_take (i := 11) (v := .pointer (some ⟨b2, o2 + j, none⟩)) rfl (by kernel_rfl) (by kernel_rfl) (by kernel_rfl) (fun _ _ _ h => h) (Or.inl ⟨by rfl, ?_⟩) (by assumption) ?_
                  · intro w hSw
                    obtain ⟨s0, s1⟩ := hSw
                    go_simp
                  show wpAnyH _ _ _ _ _ _ _ (Act.put _ (some 91) _) _
                  simp only [Act.put, List.setIfInBounds_toArray, List.set_cons_zero, List.set_cons_succ]
                  refine wpAnyH_take (i := 12) (v := .int .i64 x) rfl (by kernel_rfl) (by kernel_rfl) (by kernel_rfl) (fun _ _ _ h => h) (Or.inl ⟨by rfl, ?_⟩) (by assumption) ?_
                  · intro w hSw
                    obtain ⟨s0, s1⟩ := hSw
                    go_simp
                  show wpAnyH _ _ _ _ _ _ _ (Act.put _ (some 92) _) _
                  simp only [Act.put, List.setIfInBounds_toArray, List.set_cons_zero, List.set_cons_succ]
                  refine wpAnyH_ready (rs := [5, 13]) (by kernel_rfl) (by simp) ?_
                  refine AllReadyH.cons rfl (fun K hK => ?_) (AllReadyH.cons rfl (fun K hK => ?_) AllReadyH.nil)
                  · have r0 : wr.drew.cell? ⟨gb, i, none⟩ = some (F2 i) := HQ.out.1.cell i hli
                    go_simp
                    refine hK.out _ _ ⟨e1, e2⟩ (fun hHeld => ?_)
                    clear hK K
                    refine wpAnyH_ready (rs := [13]) (by kernel_rfl) (by simp) ?_
                    refine AllReadyH.cons rfl (fun K hK => ?_) AllReadyH.nil
                    go_simp
                    refine hK.out _ _ ⟨e1a, e2a⟩ (fun hHeld => ?_)
                    clear hK K
                    refine wpAnyH_ready (rs := [14]) (by kernel_rfl) (by simp) ?_
                    refine AllReadyH.cons rfl (fun K hK => ?_) AllReadyH.nil
                    refine step_append_keep _ (by rfl) (.tmp 85) (.tmp 93) 25 (by rfl) (gb + 1) 2 Tryd.underlying25 i64_info rfl (by decide) (by decide) oneI_len (F2 i) (P2 i) wr.drew x (oneI_one _) _ rfl (by rfl) (by rfl) (HQ.out.1.drew.own i hli) _ (by rfl) (by rfl) (by have := HPL.out; omega) HQ.out.1.drew.room ?_
                    intro g cap w4 h4 hg4 hat4 hk4
                    obtain ⟨t1, t2, t3, t4⟩ := HQ.out.1.drew.append (i := i) hli h4 hg4 hat4
                    have u0 : w4.cell? ⟨go, i, none⟩ = some (.slice (some ⟨b2, o2, none⟩) us.length c2) := (t3.cell (p := ⟨go, i, none⟩) (by have := HCE.out; simp only; omega)).trans HE.out.1
                    have u1 : w4.cell? ⟨b2, o2 + j, none⟩ = some (.int .i64 x) := (t3.cell (p := ⟨b2, o2 + j, none⟩) (by have := HCE.out; simp only; omega)).trans HE.out.2
                    refine hK.out _ _ ⟨u0, u1⟩ (fun hHeld => ?_)
                    clear hK K
                    refine wpAnyH_take (i := 15) (v := .pointer (some ⟨gb, i, none⟩)) rfl (by kernel_rfl) (by kernel_rfl) (by kernel_rfl) (fun _ _ _ h => h) (Or.inl ⟨by rfl, ?_⟩) (by assumption) ?_
                    · intro w hSw
                      obtain ⟨s0, s1⟩ := hSw
                      go_simp
                    refine wpAnyH_ready (rs := [16]) (by kernel_rfl) (by simp) ?_
                    refine AllReadyH.cons rfl (fun K hK => ?_) AllReadyH.nil
                    have t1' : w4.cell? ⟨gb, i, none⟩ = some (F2 i) := t1
                    have t2' : w4.frozen? ⟨gb, i, none⟩ = false := t2
                    have x0 : (w4.setCell ⟨gb, i, none⟩ (.slice (some ⟨g, 0, none⟩) ((P2 i).length + 1) cap)).cell? ⟨go, i, none⟩ = some (.slice (some ⟨b2, o2, none⟩) us.length c2) := (World.cell?_setCell_other w4 _ _ _ (fun q => by injection q with q; have := HCE.out; omega)).trans u0
                    have x1 : (w4.setCell ⟨gb, i, none⟩ (.slice (some ⟨g, 0, none⟩) ((P2 i).length + 1) cap)).cell? ⟨b2, o2 + j, none⟩ = some (.int .i64 x) := (World.cell?_setCell_other w4 _ _ _ (fun q => by injection q with q; have := HCE.out; omega)).trans u1
                    go_simp
                    refine hK.out _ _ ⟨x0, x1⟩ (fun hHeld => ?_)
                    clear hK K
                    refine wpAnyH_done (by kernel_rfl) ?_ _
                    go_wp2_with fail
                    go_roundw
                    case rel =>
                      refine ⟨q + 1, _, _, by omega, by go_num, t4, ?_, fun i' hi' => by rw [updI_other hi']; exact HQ.out.2.2.1 i' hi', ((HQ.out.2.2.2.drew).trans (t3.mono (Nat.le_succ _))).setCell (p := ⟨gb, i, none⟩) (Nat.le_refl _) _⟩
                      rw [updI_same, take_snoc' HJ.out, List.map_append, ← HQ.out.2.1, HX.out]
                      rfl
                    case measure => simp [intOf]; omega
                  · go_simp
                    refine hK.out _ _ ⟨e1a, e2a⟩ (fun hHeld => ?_)
                    clear hK K
                    have r0 : (wr.alloc (.cells #[.int .i64 x] 2)).cell? ⟨gb, i, none⟩ = some (F2 i) := (HQ.out.1.alloc (.cells #[.int .i64 x] 2)).cell i hli
                    refine wpAnyH_ready (rs := [5]) (by kernel_rfl) (by simp) ?_
                    refine AllReadyH.cons rfl (fun K hK => ?_) AllReadyH.nil
                    go_simp
                    refine hK.out _ _ ⟨e1a, e2a⟩ (fun hHeld => ?_)
                    clear hK K
                    refine wpAnyH_ready (rs := [14]) (by kernel_rfl) (by simp) ?_
                    refine AllReadyH.cons rfl (fun K hK => ?_) AllReadyH.nil
                    refine step_append_keep _ (by rfl) (.tmp 85) (.tmp 93) 25 (by rfl) (gb + 1) 2 Tryd.underlying25 i64_info rfl (by decide) (by decide) oneI_len (F2 i) (P2 i) wr.drew x (oneI_one _) _ rfl (by rfl) (by rfl) (HQ.out.1.drew.own i hli) _ (by rfl) (by rfl) (by have := HPL.out; omega) HQ.out.1.drew.room ?_
                    intro g cap w4 h4 hg4 hat4 hk4
                    obtain ⟨t1, t2, t3, t4⟩ := HQ.out.1.drew.append (i := i) hli h4 hg4 hat4
                    have u0 : w4.cell? ⟨go, i, none⟩ = some (.slice (some ⟨b2, o2, none⟩) us.length c2) := (t3.cell (p := ⟨go, i, none⟩) (by have := HCE.out; simp only; omega)).trans HE.out.1
                    have u1 : w4.cell? ⟨b2, o2 + j, none⟩ = some (.int .i64 x) := (t3.cell (p := ⟨b2, o2 + j, none⟩) (by have := HCE.out; simp only; omega)).trans HE.out.2
                    refine hK.out _ _ ⟨u0, u1⟩ (fun hHeld => ?_)
                    clear hK K
                    refine wpAnyH_take (i := 15) (v := .pointer (some ⟨gb, i, none⟩)) rfl (by kernel_rfl) (by kernel_rfl) (by kernel_rfl) (fun _ _ _ h => h) (Or.inl ⟨by rfl, ?_⟩) (by assumption) ?_
                    · intro w hSw
                      obtain ⟨s0, s1⟩ := hSw
                      go_simp
                    refine wpAnyH_ready (rs := [16]) (by kernel_rfl) (by simp) ?_
                    refine AllReadyH.cons rfl (fun K hK => ?_) AllReadyH.nil
                    have t1' : w4.cell? ⟨gb, i, none⟩ = some (F2 i) := t1
                    have t2' : w4.frozen? ⟨gb, i, none⟩ = false := t2
                    have x0 : (w4.setCell ⟨gb, i, none⟩ (.slice (some ⟨g, 0, none⟩) ((P2 i).length + 1) cap)).cell? ⟨go, i, none⟩ = some (.slice (some ⟨b2, o2, none⟩) us.length c2) := (World.cell?_setCell_other w4 _ _ _ (fun q => by injection q with q; have := HCE.out; omega)).trans u0
                    have x1 : (w4.setCell ⟨gb, i, none⟩ (.slice (some ⟨g, 0, none⟩) ((P2 i).length + 1) cap)).cell? ⟨b2, o2 + j, none⟩ = some (.int .i64 x) := (World.cell?_setCell_other w4 _ _ _ (fun q => by injection q with q; have := HCE.out; omega)).trans u1
                    go_simp
                    refine hK.out _ _ ⟨x0, x1⟩ (fun hHeld => ?_)
                    clear hK K
                    refine wpAnyH_done (by kernel_rfl) ?_ _
                    go_wp2_with fail
                    go_roundw
                    case rel =>
                      refine ⟨q + 1, _, _, by omega, by go_num, t4, ?_, fun i' hi' => by rw [updI_other hi']; exact HQ.out.2.2.1 i' hi', ((HQ.out.2.2.2.drew).trans (t3.mono (Nat.le_succ _))).setCell (p := ⟨gb, i, none⟩) (Nat.le_refl _) _⟩
                      rw [updI_same, take_snoc' HJ.out, List.map_append, ← HQ.out.2.1, HX.out]
                      rfl
                    case measure => simp [intOf]; omega
                  -- end 27
                · obtain rfl : q = k := by omega
                  go_wp2_with fail
                  go_roundw
                  case rel =>
                    refine ⟨i + 1, F2, P2, by omega, by go_num, HQ.out.1, fun i' hi' => ?_, fun i' hi' => ?_, HQ.out.2.2.2⟩
                    · by_cases e : i' = i
                      · rw [e, HQ.out.2.1, List.take_of_length_le (by rw [HC2.out.2.1]; exact Nat.le_refl _)]
                      · rw [HQ.out.2.2.1 i' e]
                        exact HR.out.2.1 i' (by omega)
                    · rw [HQ.out.2.2.1 i' (by omega)]
                      exact HR.out.2.2.1 i' (by omega)
                  case measure => simp [intOf]; omega
            · obtain rfl : i = ss.length := by omega
              go_wp2_with fail
              go_ret2
              have hz1 := HM.out.2.2.2.2.size
              have hz2 := HO.out.2.size
              have hz3 := HN.out.2.size
              have hbw : Below wB.heap.size wB wr := by rw [← HGB.out]; exact HR.out.2.2.2
              have hcu := cand_units HM.out.1 HM.out.2.2.2.1
              rw [← HC2.out.1] at hcu
              refine ⟨_, gb, F, P, pickR M cols, rfl, ?_, by rw [HC2.out.1]; exact cand_costs HM.out.1 HM.out.2.2.2.1, HR.out.1, fun i hi => ?_, by rw [HGB.out]; omega, ?_⟩
              · rw [← hcu]
                have h := HN.out.1
                rw [List.take_of_length_le (by rw [HC2.out.2.1]; exact Nat.le_refl _)] at h
                exact (h.kept_new hbw).base_le (by omega)
              · rw [pick_at (by rw [HM.out.1]; exact hi), HR.out.2.1 i hi]
              · exact ((HM.out.2.2.2.2.trans (HO.out.2.mono hz1)).trans (HN.out.2.mono (by omega))).trans (hbw.mono (by omega))
end
section
open Go.RowKit Go.Maps

section
variable {α : Type} {cs : α → List Value} {s : Nat}
theorem own_recs {w : World} {base : Nat} {e : TypeId} {A : Option Addr} {n c : Nat} {xs : List α} (h : OwnR cs s w base e (.slice A n c) xs) : RecsAt cs w w.heap.size A xs := by
  obtain ⟨A', c', e', hs⟩ := h.sl
  injection e' with e1 _ _
  subst e1
  exact hs
theorem own_lo {w : World} {base : Nat} {e : TypeId} {b o n c : Nat} {xs : List α} (h : OwnR cs s w base e (.slice (some ⟨b, o, none⟩) n c) xs) : base ≤ b := by
  rcases h.2 with ⟨e1, _⟩ | ⟨g, cap, cur, e1, hb, _⟩
  · cases e1
  · injection e1 with e1
    injection e1 with e1
    injection e1 with e1 e2
    omega
theorem own_some {w : World} {base : Nat} {e : TypeId} {A : Option Addr} {n c : Nat} {xs : List α} (h : OwnR cs s w base e (.slice A n c) xs) (h0 : 0 < xs.length) : ∃ g, A = some ⟨g, 0, none⟩ := by
  rcases h.2 with ⟨_, e2⟩ | ⟨g, cap, cur, e1, hb, _⟩
  · omega
  · injection e1 with e1
    exact ⟨g, e1⟩
/-- 'append(v, x)' at the operation, x a struct, the new slice written out. -/
theorem wpList_append_recL {P : Program} (w : World) {ops : Array Oper} {rest : List Oper} {o : Oper} {a : Act} {Q : Exit → Act → World → Prop} (hgd : o.guard = none) (sl x : Operand) (t : TypeId)
    (ho : o.op = .call { callee := .builtin .append, args := #[sl, x], argTypes := #[t, t] })
    (base : Nat) (e : TypeId) (ht : P.underlying t = some (.slice e)) {z0 : Value} {by0 : Nat} (hinfo : (P.info? e).map (fun i => (i.zero, i.size, i.bytes)) = some (some z0, s, by0)) (hz0 : z0.cells.size = s) (h0 : 0 < s) (hby : by0 ≤ 256)
    (hs : ∀ a, (cs a).length = s) (v : Value) (xs : List α) (w0 : World) (z : α) (hone : ∀ u ∈ cs z, u.oneCell' = true) (vs : Array Value) (hvs : vs = (cs z).toArray) (hw : w = w0.alloc (.cells vs e)) (hv : a.eval sl = v) (hown : OwnR cs s w0 base e v xs)
    (nb : Nat) (hx : a.eval x = .slice (some ⟨nb, 0, none⟩) 1 1) (hnb : nb = w0.heap.size) (hlen : xs.length + 1 ≤ 549755813888) (hbase : base ≤ w0.heap.size)
    (h : ∀ g cap w', OwnR cs s w' base e (.slice (some ⟨g, 0, none⟩) (xs.length + 1) cap) (xs ++ [z]) → w0.grownBy w' v.ownBlock → (v.ownBlock = some g ∨ w0.heap.size ≤ g) → wpList P ops Q rest (a.put o.dst (.slice (some ⟨g, 0, none⟩) (xs.length + 1) cap)) w') :
    wpList P ops Q (o :: rest) a w := by
  obtain ⟨i0, hi, hz1, hz2, hz3⟩ := info_parts hinfo
  subst hw hvs hnb
  have hcell : ∀ j u, (cs z)[j]? = some u → (w0.alloc (.cells (cs z).toArray e)).cell? ((⟨w0.heap.size, 0, none⟩ : Addr).add j) = some u := by
    intro j u hj
    rw [add_none, Nat.zero_add, World.cell?_alloc_at (hn := rfl)]
    simpa using hj
  refine wpList_append_lies _ hgd sl x t ho base e i0 z0 s by0 ht hi hz1 hz2 hz3 hz0 h0 v xs.length _ hv (World.ownsRow.alloc hown _) ⟨w0.heap.size, 0, none⟩ 1 1 (cs z) hx (by rw [hs, Nat.one_mul]) hcell hone (by decide) (by unfold maxLen; omega) ?_ (by simp; omega) _ rfl ?_
  · have := Nat.mul_le_mul hlen hby
    omega
  intro g cap w' h1 h2 h3 _
  refine h g cap w' ?_ ((World.grownBy_alloc w0 _ _).trans h2) ?_
  · unfold OwnR
    rw [List.length_append, List.length_singleton, List.flatMap_append]
    simpa using h1
  · rcases h3 with h3 | h3
    · exact .inl h3
    · right
      rw [h3]
      simp
end
/-- the memory of Assign while the choices of one urgency are carried out. -/
structure AsgI (B : Nat) (w5 : World) (sv cv : Value) (L : List UnitT) (cs D : List ChoT) (v : Value) (Y : World) : Prop where
  st : OwnU Y B 44 sv (D.foldl sendU L)
  ch : OwnCh Y B 46 v (cs ++ D)
  on : Only (fun j => sv.ownBlock = some j ∨ cv.ownBlock = some j) w5 Y
  at_ : ∀ k, v.ownBlock = some k → cv.ownBlock = some k ∨ w5.heap.size ≤ k
section
variable {B : Nat} {w5 Y Y1 Y2 Y3 : World} {sv cv v v2 : Value} {L : List UnitT} {cs D : List ChoT} {d : ChoT}
theorem AsgI.start (hs : OwnU w5 B 44 sv L) (hc : OwnCh w5 B 46 cv cs) : AsgI B w5 sv cv L cs [] cv w5 := ⟨hs, by rw [List.append_nil]; exact hc, Only.refl, fun _ h => .inl h⟩
theorem AsgI.below (h : AsgI B w5 sv cv L cs D v Y) {a : World} (hB : B ≤ a.heap.size) (hb : Below a.heap.size a w5) (hs : ∀ k, sv.ownBlock = some k → B ≤ k) (hc : ∀ k, cv.ownBlock = some k → B ≤ k) : Below B a Y :=
  (hb.mono hB).trans (h.on.below (Nat.le_trans hB hb.size) (fun j hj => by rcases hj with e | e; exact hs j e; exact hc j e))
theorem AsgI.read (h : AsgI B w5 sv cv L cs D v Y) {W : Nat} (hs : ∀ k, sv.ownBlock = some k → k < W) (hc : ∀ k, cv.ownBlock = some k → k < W) {b o : Nat} {u : Value} (hb : W ≤ b) (hl : b < w5.heap.size) (hu : w5.cell? ⟨b, o, none⟩ = some u) : Y.cell? ⟨b, o, none⟩ = some u := by
  refine (h.on.cell (a := ⟨b, o, none⟩) hl ?_).trans hu
  rintro (e | e)
  · have := hs _ e
    simp only at this
    omega
  · have := hc _ e
    simp only at this
    omega
theorem AsgI.next (h : AsgI B w5 sv cv L cs D v Y) (hb : Below Y.heap.size Y Y1) : AsgI B w5 sv cv L cs D v Y1 :=
  ⟨h.st.kept_new hb, h.ch.kept_new hb, h.on.trans (S' := fun _ => False) (Only.of_below hb) (fun _ _ e => e.elim), h.at_⟩
/-- what holds between the append of a choice and its send. -/
structure AsgM (B : Nat) (w5 : World) (sv cv : Value) (L : List UnitT) (cs D : List ChoT) (d : ChoT) (v : Value) (Y : World) : Prop where
  st : OwnU Y B 44 sv (D.foldl sendU L)
  ch : OwnCh Y B 46 v (cs ++ (D ++ [d]))
  on : Only (fun j => sv.ownBlock = some j ∨ cv.ownBlock = some j) w5 Y
  at_ : ∀ k, v.ownBlock = some k → cv.ownBlock = some k ∨ w5.heap.size ≤ k
theorem AsgI.push (h : AsgI B w5 sv cv L cs D v Y) (hc : OwnCh Y2 B 46 v2 (cs ++ D ++ [d])) (hg : Y.grownBy Y2 v.ownBlock) {g : Nat} (hv : v2.ownBlock = some g) (hat : v.ownBlock = some g ∨ Y.heap.size ≤ g) : AsgM B w5 sv cv L cs D d v2 Y2 := by
  have hz : w5.heap.size ≤ Y.heap.size := h.on.size
  refine ⟨?_, by rw [← List.append_assoc]; exact hc, ?_, fun k hk => ?_⟩
  · refine World.ownsRow.kept h.st hg ?_
    cases hs : sv.ownBlock with
    | none => exact .inl rfl
    | some k => exact .inr (fun e => rowsOff h.st h.ch (by decide) hs e.symm)
  · refine h.on.trans (S' := fun j => v.ownBlock = some j) (Only.of_grown hg (fun j e => e)) (fun j hj e => ?_)
    rcases h.at_ j e with e | e
    · exact .inr e
    · omega
  · rw [hv] at hk
    injection hk with hk
    subst hk
    rcases hat with e | e
    · exact h.at_ _ e
    · exact .inr (by omega)
theorem AsgM.send {g : Nat} (h : AsgM B w5 sv cv L cs D d v Y) (hs : OwnU Y2 B 44 sv (sendU (D.foldl sendU L) d)) (hsv : sv.ownBlock = some g) (ho : Only (fun j => j = g) Y Y2) : AsgI B w5 sv cv L cs (D ++ [d]) v Y2 := by
  refine ⟨by rw [List.foldl_append]; exact hs, ?_, h.on.trans ho (fun j _ e => .inl (by rw [e]; exact hsv)), h.at_⟩
  exact ho.row h.ch (fun k hk e => rowsOff h.st h.ch (by decide) hsv (by rw [hk, e]))
end
end
end Go.Proofs.YtimijjhdgihobaaDoor
