/-
  samaritanref35.Slots.
-/
import Derived.Test.YtimijjhdgihobaaGreatDoorMqm
namespace Go.Proofs.YtimijjhdgihobaaGreatDoor
section
open Go.RowKit Go.Maps

/-- the slots so far; their nodes are those of the incidents. -/
structure RSlotsTo (w : World) (B : Nat) (v : Value) (L : List SlotP) (wr : World) (ss : List SlotT) : Prop where
  own : OwnSlot wr B 63 v ss
  nodes : SNodes w w.heap.size ss
  strip : ss.map strip = L
  nil : ∀ s ∈ ss, s.nA = none → s.nc = 0
theorem RSlotsTo.start (w : World) (B : Nat) (wr : World) : RSlotsTo w B (.slice none 0 0) [] wr [] := ⟨OwnR.nil _ _ _, fun s hs => by simp at hs, rfl, fun s hs => by simp at hs⟩
theorem RSlotsTo.kept_new {w : World} {B : Nat} {v : Value} {L : List SlotP} {w1 w' : World} {ss : List SlotT} (h : RSlotsTo w B v L w1 ss) (hb : Below w1.heap.size w1 w') : RSlotsTo w B v L w' ss := ⟨h.own.kept_new hb, h.nodes, h.strip, h.nil⟩
theorem RSlotsTo.append {w : World} {B : Nat} {v v' : Value} {L : List SlotP} {w0 w' : World} {ss : List SlotT} (h : RSlotsTo w B v L w0 ss) (s : SlotT) (hs : Sl w w.heap.size s.nA (s.nodes.map (Value.int .i64))) (hown : OwnSlot w' B 63 v' (ss ++ [s])) (hnil : s.nA = none → s.nc = 0) :
    RSlotsTo w B v' (L ++ [⟨s.inc, s.urg, s.since, s.kind, s.nodes⟩]) w' (ss ++ [s]) := by
  refine ⟨hown, fun q hq => ?_, by rw [List.map_append, h.strip]; rfl, fun q hq => ?_⟩
  · rcases List.mem_append.1 hq with hq | hq
    · exact h.nodes q hq
    · simp at hq
      subst hq
      exact hs
  · rcases List.mem_append.1 hq with hq | hq
    · exact h.nil q hq
    · simp at hq
      subst hq
      exact hnil

set_option maxRecDepth 100000 in
set_option maxHeartbeats 1500000 in
theorem refSlots_any (A A1 A2 : Option Addr) (c c1 c2 : Nat) (xs : List IncT) (us : List UnitT) (ps : List Plan) (w : World) (hi : IncsAt w w.heap.size A xs) (hnd : NodesAt w w.heap.size xs) (hwf : ∀ x ∈ xs, IncWf x) (hl : xs.length ≤ 19)
    (hu : UnitsAt w w.heap.size A1 us) (hul : us.length ≤ 65536) (hp : Plans w w.heap.size A2 ps) (hpl : ps.length ≤ 9223372036854775807) (hsm : smallP ps = true) :
    Calls Tryz.prog 14 #[.slice A xs.length c, .slice A1 us.length c1, .slice A2 ps.length c2] w (RetSlots w (slotsL xs us ps)) := by
  have HI := Lib.hid hi
  have HND := Lib.hid hnd
  have HWF := Lib.hid hwf
  have HU := Lib.hid hu
  have HP := Lib.hid hp
  have HSM := Lib.hid hsm
  clear hi hnd hwf hu hp hsm
  go_enter Tryz.func14, Tryz.ntmps14
  go_wp2_with fail
  go_loopw [7, 8] (fun v iv wr => ∃ i : Nat, i ≤ xs.length ∧ iv = .int .i64 i ∧ OwnInc wr w.heap.size 46 v (sortK ((xs.take i).filter openI)) ∧ Below w.heap.size w wr) (fun _ i _ => xs.length - (intOf i).toNat)
  case atStart => exact ⟨0, Nat.zero_le _, rfl, OwnR.nil _ _ _, Below.refl _ _⟩
  case round =>
    obtain ⟨i, hi, rfl, hown, hb⟩ := hrel
    have HOW := Lib.hid hown
    have HB := Lib.hid hb
    have hbs := hb.size
    by_cases hlt : i < xs.length
    · obtain ⟨x, hx⟩ : ∃ x, xs[i]? = some x := ⟨xs[i], by simp⟩
      obtain ⟨bl, ol, rfl, hbl, c0, c1', c2', c3, c4, c5, c6, c7, c8, c9⟩ := inc_at HI.out hx
      have hcl : wr.cell? ⟨bl, ol + i * 10 + 9, none⟩ = some (.bool x.closed) := (hb.cell (p := ⟨bl, ol + i * 10 + 9, none⟩) hbl).trans c9
      have hcm : wr.cell? ⟨bl, ol + i * 10 + 8, none⟩ = some (.int .i64 x.merged) := (hb.cell (p := ⟨bl, ol + i * 10 + 8, none⟩) hbl).trans c8
      have HT : Hid ((xs.take (i + 1)).filter openI = (xs.take i).filter openI ++ if openI x = true then [x] else []) := Lib.hid (by
        rw [take_snoc' hx, List.filter_append]
        congr 1
        cases h : openI x <;> simp [h])
      have HX := Lib.hid hx
      clear c0 c1' c2' c3 c4 c5 c6 c7 c8 c9 hx
      by_cases h1 : x.closed = true
      · have HF : Hid (openI x = false) := Lib.hid (by simp [openI, h1])
        go_wp2_with fail
        go_roundw
        case rel =>
          refine ⟨i + 1, by omega, by go_num, ?_, hb⟩
          rw [HT.out, HF.out]
          simpa using hown
        case measure => simp [intOf]; omega
      · have h1' : x.closed = false := by simpa using h1
        clear h1
        by_cases h2 : x.merged = 0
        · have d2 : (x.merged != 0) = false := by simp [h2]
          have HF : Hid (openI x = true) := Lib.hid (by simp [openI, h1', h2])
          have HCL := Lib.hid h1'
          clear h2
          obtain ⟨P, hP⟩ : ∃ P, P = sortK ((xs.take i).filter openI) := ⟨_, rfl⟩
          have HNEXT : Hid (sortK ((xs.take (i + 1)).filter openI) = endF x (P.foldl (stepF x) (false, []))) := Lib.hid (by
            rw [HT.out, HF.out, if_pos rfl, sortK_snoc, endF_fold, List.nil_append, hP])
          have hPl : P.length ≤ 19 := by
            rw [hP, sortK_len]
            exact Nat.le_trans (List.length_filter_le _ _) (Nat.le_trans (List.length_take_le _ _) (by omega))
          rw [← hP] at hown HOW
          obtain ⟨Ao, co, rfl, hsl⟩ := hown.sl
          have HSO := Lib.hid hsl
          have HLT := Lib.hid hown.lt_size
          clear hP hsl hown hb
          go_wp2_with fail
          clear hcl hcm h1'
          obtain ⟨wi, rfl⟩ : ∃ wi : World, wi = wr := ⟨_, rfl⟩
          go_loopw [9, 10, 11] (fun v pv kv wr => ∃ k : Nat, k ≤ P.length ∧ kv = .int .i64 k ∧ ∃ (put : Bool) (N : List IncT), pv = .bool put ∧ (P.take k).foldl (stepF x) (false, []) = (put, N) ∧ OwnInc wr wi.heap.size 46 v N ∧ Below wi.heap.size wi wr) (fun _ _ i _ => P.length - (intOf i).toNat)
          case atStart => exact ⟨0, Nat.zero_le _, rfl, false, [], rfl, rfl, OwnR.nil _ _ _, Below.refl _ _⟩
          case round =>
            obtain ⟨k, hk, rfl, put, N, rfl, hfold, hown, hb⟩ := hrel
            have HFO := Lib.hid hfold
            have hNl : N.length ≤ 60 := by
              have := fold_len x (P.take k) false []
              rw [hfold, List.length_take] at this
              simp at this
              omega
            have hbz := hb.size
            have HBI := Lib.hid hb
            have HBW : Hid (Below w.heap.size w wr) := Lib.hid (HB.out.trans (hb.mono HB.out.size))
            clear hfold
            by_cases hkl : k < P.length
            · obtain ⟨y, hy⟩ : ∃ y, P[k]? = some y := ⟨P[k], by simp⟩
              obtain ⟨bo, oo, rfl, hbo, _⟩ := inc_at HSO.out hy
              have HSTEP : Hid ((P.take (k + 1)).foldl (stepF x) (false, []) = stepF x (put, N) y) := Lib.hid (by rw [take_snoc' hy, stepF_snoc, HFO.out])
              have HCELLS : Hid (∀ W, Below wi.heap.size wi W → (W.cell? ⟨bl, ol + i * 10, none⟩ = some (.int .i64 x.id) ∧ W.cell? ⟨bl, ol + i * 10 + 1, none⟩ = some (.int .i64 x.urg) ∧ W.cell? ⟨bl, ol + i * 10 + 2, none⟩ = some (.string x.code) ∧ W.cell? ⟨bl, ol + i * 10 + 3, none⟩ = some (.slice x.nA x.nodes.length x.nc) ∧ W.cell? ⟨bl, ol + i * 10 + 4, none⟩ = some (.int .i64 x.dist) ∧ W.cell? ⟨bl, ol + i * 10 + 5, none⟩ = some (.int .i64 x.since) ∧ W.cell? ⟨bl, ol + i * 10 + 6, none⟩ = some (.slice x.cA x.cl x.cc) ∧ W.cell? ⟨bl, ol + i * 10 + 7, none⟩ = some (.slice x.uA x.ul x.uc) ∧ W.cell? ⟨bl, ol + i * 10 + 8, none⟩ = some (.int .i64 x.merged) ∧ W.cell? ⟨bl, ol + i * 10 + 9, none⟩ = some (.bool x.closed)) ∧
                  (W.cell? ⟨bo, oo + k * 10, none⟩ = some (.int .i64 y.id) ∧ W.cell? ⟨bo, oo + k * 10 + 1, none⟩ = some (.int .i64 y.urg) ∧ W.cell? ⟨bo, oo + k * 10 + 2, none⟩ = some (.string y.code) ∧ W.cell? ⟨bo, oo + k * 10 + 3, none⟩ = some (.slice y.nA y.nodes.length y.nc) ∧ W.cell? ⟨bo, oo + k * 10 + 4, none⟩ = some (.int .i64 y.dist) ∧ W.cell? ⟨bo, oo + k * 10 + 5, none⟩ = some (.int .i64 y.since) ∧ W.cell? ⟨bo, oo + k * 10 + 6, none⟩ = some (.slice y.cA y.cl y.cc) ∧ W.cell? ⟨bo, oo + k * 10 + 7, none⟩ = some (.slice y.uA y.ul y.uc) ∧ W.cell? ⟨bo, oo + k * 10 + 8, none⟩ = some (.int .i64 y.merged) ∧ W.cell? ⟨bo, oo + k * 10 + 9, none⟩ = some (.bool y.closed))) := Lib.hid (by
                intro W hW
                obtain ⟨b1, o1, e1, _, hxc⟩ := inc_at ((HI.out.below HB.out).below (hW.mono HB.out.size)) HX.out
                cases e1
                obtain ⟨b2, o2, e2, _, hyc⟩ := inc_at (HSO.out.below hW) hy
                cases e2
                exact ⟨hxc, hyc⟩)
              have hkj : (k : Int) < (P.length : Int) := by omega
              have hij : (i : Int) < (xs.length : Int) := by omega
              clear hy hb
              cases put
              · by_cases hxy : ltI x y
                · have dxy : decide (ltI x y) = true := decide_eq_true hxy
                  have HNX : Hid (stepF x (false, N) y = (true, N ++ [x] ++ [y])) := Lib.hid (by simp [stepF, hxy])
                  go_wp2_with fail
                  refine wp_region_held_drew (S := fun W => Below wi.heap.size wi W) (by kernel_rfl) (HBI.out.drew) (fun hHeld => ?_)
                  refine wpAnyH_take (i := 0) (v := .bool false) rfl (by kernel_rfl) (by kernel_rfl) (by kernel_rfl) (fun _ _ _ h => h) (Or.inl ⟨by rfl, ?_⟩) (by assumption) ?_
                  · intro w hSw
                    go_simp
                  show wpAnyH _ _ _ _ _ _ _ (Act.put _ (some 44) _) _
                  simp only [Act.put, List.setIfInBounds_toArray, List.set_cons_zero, List.set_cons_succ]
                  refine wpAnyH_take (i := 1) (v := .bool true) rfl (by kernel_rfl) (by kernel_rfl) (by kernel_rfl) (fun _ _ _ h => h) (Or.inl ⟨by rfl, ?_⟩) (by assumption) ?_
                  · intro w hSw
                    go_simp
                  show wpAnyH _ _ _ _ _ _ _ (Act.put _ (some 45) _) _
                  simp only [Act.put, List.setIfInBounds_toArray, List.set_cons_zero, List.set_cons_succ]
                  refine wpAnyH_take (i := 2) (v := .bool true) rfl (by kernel_rfl) (by kernel_rfl) (by kernel_rfl) (fun _ _ _ h => h) (Or.inl ⟨by rfl, ?_⟩) (by assumption) ?_
                  · intro w hSw
                    go_simp
                  show wpAnyH _ _ _ _ _ _ _ (Act.put _ (some 46) _) _
                  simp only [Act.put, List.setIfInBounds_toArray, List.set_cons_zero, List.set_cons_succ]
                  refine wpAnyH_take (i := 3) (v := .slice (some ⟨bl, ol, none⟩) xs.length c) rfl (by kernel_rfl) (by kernel_rfl) (by kernel_rfl) (fun _ _ _ h => h) (Or.inl ⟨by rfl, ?_⟩) (by assumption) ?_
                  · intro w hSw
                    go_simp
                  show wpAnyH _ _ _ _ _ _ _ (Act.put _ (some 47) _) _
                  simp only [Act.put, List.setIfInBounds_toArray, List.set_cons_zero, List.set_cons_succ]
                  refine wpAnyH_take (i := 4) (v := .int .i64 (i : Int)) rfl (by kernel_rfl) (by kernel_rfl) (by kernel_rfl) (fun _ _ _ h => h) (Or.inl ⟨by rfl, ?_⟩) (by assumption) ?_
                  · intro w hSw
                    go_simp
                  show wpAnyH _ _ _ _ _ _ _ (Act.put _ (some 48) _) _
                  simp only [Act.put, List.setIfInBounds_toArray, List.set_cons_zero, List.set_cons_succ]
                  refine wpAnyH_take (i := 5) (v := .pointer (some ⟨bl, ol + i * 10, none⟩)) rfl (by kernel_rfl) (by kernel_rfl) (by kernel_rfl) (fun _ _ _ h => h) (Or.inl ⟨by rfl, ?_⟩) (by assumption) ?_
                  · intro w hSw
                    go_simp
                  show wpAnyH _ _ _ _ _ _ _ (Act.put _ (some 49) _) _
                  simp only [Act.put, List.setIfInBounds_toArray, List.set_cons_zero, List.set_cons_succ]
                  refine wpAnyH_take (i := 6) (v := .agg #[.int .i64 x.id, .int .i64 x.urg, .string x.code, .slice x.nA x.nodes.length x.nc, .int .i64 x.dist, .int .i64 x.since, .slice x.cA x.cl x.cc, .slice x.uA x.ul x.uc, .int .i64 x.merged, .bool x.closed]) rfl (by kernel_rfl) (by kernel_rfl) (by kernel_rfl) (fun _ _ _ h => h) (Or.inl ⟨by rfl, ?_⟩) (by assumption) ?_
                  · intro w hSw
                    obtain ⟨⟨x0, x1, x2, x3, x4, x5, x6, x7, x8, x9⟩, ⟨y0, y1, y2, y3, y4, y5, y6, y7, y8, y9⟩⟩ := HCELLS.out w hSw
                    go_simp
                  show wpAnyH _ _ _ _ _ _ _ (Act.put _ (some 50) _) _
                  simp only [Act.put, List.setIfInBounds_toArray, List.set_cons_zero, List.set_cons_succ]
                  refine wpAnyH_take (i := 7) (v := .slice (some ⟨bo, oo, none⟩) P.length co) rfl (by kernel_rfl) (by kernel_rfl) (by kernel_rfl) (fun _ _ _ h => h) (Or.inl ⟨by rfl, ?_⟩) (by assumption) ?_
                  · intro w hSw
                    go_simp
                  show wpAnyH _ _ _ _ _ _ _ (Act.put _ (some 51) _) _
                  simp only [Act.put, List.setIfInBounds_toArray, List.set_cons_zero, List.set_cons_succ]
                  refine wpAnyH_take (i := 8) (v := .int .i64 (k : Int)) rfl (by kernel_rfl) (by kernel_rfl) (by kernel_rfl) (fun _ _ _ h => h) (Or.inl ⟨by rfl, ?_⟩) (by assumption) ?_
                  · intro w hSw
                    go_simp
                  show wpAnyH _ _ _ _ _ _ _ (Act.put _ (some 52) _) _
                  simp only [Act.put, List.setIfInBounds_toArray, List.set_cons_zero, List.set_cons_succ]
                  refine wpAnyH_take (i := 9) (v := .pointer (some ⟨bo, oo + k * 10, none⟩)) rfl (by kernel_rfl) (by kernel_rfl) (by kernel_rfl) (fun _ _ _ h => h) (Or.inl ⟨by rfl, ?_⟩) (by assumption) ?_
                  · intro w hSw
                    go_simp
                  show wpAnyH _ _ _ _ _ _ _ (Act.put _ (some 53) _) _
                  simp only [Act.put, List.setIfInBounds_toArray, List.set_cons_zero, List.set_cons_succ]
                  refine wpAnyH_take (i := 10) (v := .agg #[.int .i64 y.id, .int .i64 y.urg, .string y.code, .slice y.nA y.nodes.length y.nc, .int .i64 y.dist, .int .i64 y.since, .slice y.cA y.cl y.cc, .slice y.uA y.ul y.uc, .int .i64 y.merged, .bool y.closed]) rfl (by kernel_rfl) (by kernel_rfl) (by kernel_rfl) (fun _ _ _ h => h) (Or.inl ⟨by rfl, ?_⟩) (by assumption) ?_
                  · intro w hSw
                    obtain ⟨⟨x0, x1, x2, x3, x4, x5, x6, x7, x8, x9⟩, ⟨y0, y1, y2, y3, y4, y5, y6, y7, y8, y9⟩⟩ := HCELLS.out w hSw
                    go_simp
                  show wpAnyH _ _ _ _ _ _ _ (Act.put _ (some 54) _) _
                  simp only [Act.put, List.setIfInBounds_toArray, List.set_cons_zero, List.set_cons_succ]
                  refine wpAnyH_ready (rs := [11]) (by kernel_rfl) (by simp) ?_
                  refine AllReadyH.cons rfl (fun K hK => ?_) AllReadyH.nil
                  go_simp
                  have hah := ahead_any x y wr.drew
                  unfold aggI at hah
                  ((with_reducible refine hah.mono ?_))
                  clear hah
                  rintro e w2 ⟨rfl, hb2⟩
                  replace hb2 : Below wr.heap.size wr w2 := ⟨hb2.os, hb2.tape, hb2.output, hb2.size, hb2.block⟩
                  have hb2i : Below wi.heap.size wi w2 := HBI.out.trans (hb2.mono hbz)
                  go_simp
                  refine hK.out _ _ hb2i (fun hHeld => ?_)
                  clear hK K
                  refine wpAnyH_take (i := 12) (v := .bool (decide (ltI x y))) rfl (by kernel_rfl) (by kernel_rfl) (by kernel_rfl) (fun _ _ _ h => h) (Or.inl ⟨by rfl, ?_⟩) (by assumption) ?_
                  · intro w hSw
                    go_simp
                  show wpAnyH _ _ _ _ _ _ _ (Act.put _ (some 56) _) _
                  simp only [Act.put, List.setIfInBounds_toArray, List.set_cons_zero, List.set_cons_succ]
                  refine wpAnyH_done (by kernel_rfl) ?_ _
                  rw [dxy]
                  obtain ⟨⟨x0, x1, x2, x3, x4, x5, x6, x7, x8, x9⟩, _⟩ := HCELLS.out w2 hb2i
                  have hown2 : OwnInc w2 wi.heap.size 46 u9 N := hown.kept_new hb2
                  have hz2 : wi.heap.size ≤ w2.heap.size := hb2i.size
                  go_wp2_with (first
                    | (at_builtin; refine wpList_append_rec _ rfl (.tmp 57) (.tmp 62) 26 rfl wi.heap.size 46 Tryz.underlying26 inc_info rfl (by omega) (by omega) cellsI_len _ _ w2 x (cellsI_one _) #[.int .i64 x.id, .int .i64 x.urg, .string x.code, .slice x.nA x.nodes.length x.nc, .int .i64 x.dist, .int .i64 x.since, .slice x.cA x.cl x.cc, .slice x.uA x.ul x.uc, .int .i64 x.merged, .bool x.closed] rfl rfl rfl hown2 _ rfl rfl (by omega) hz2 ?_; intro v3 w3 hown3 hg3; have hb3 : Below wi.heap.size wi w3 := hb2i.grown hg3 hz2 (fun q hq => hown2.ge_base q hq); have hz3 := hb3.size; obtain ⟨_, ⟨y0, y1, y2, y3, y4, y5, y6, y7, y8, y9⟩⟩ := HCELLS.out w3 hb3)
                    | (at_builtin; refine wpList_append_rec _ rfl (.tmp 64) (.tmp 69) 26 rfl wi.heap.size 46 Tryz.underlying26 inc_info rfl (by omega) (by omega) cellsI_len _ _ w3 y (cellsI_one _) #[.int .i64 y.id, .int .i64 y.urg, .string y.code, .slice y.nA y.nodes.length y.nc, .int .i64 y.dist, .int .i64 y.since, .slice y.cA y.cl y.cc, .slice y.uA y.ul y.uc, .int .i64 y.merged, .bool y.closed] rfl rfl rfl hown3 _ rfl rfl (by simp; omega) hz3 ?_; intro v4 w4 hown4 hg4))
                  go_roundw
                  case rel => exact ⟨k + 1, by omega, by go_num, true, N ++ [x] ++ [y], rfl, by rw [HSTEP.out, HNX.out], hown4, hb3.grown hg4 hz3 (fun q hq => hown3.ge_base q hq)⟩
                  case measure => simp [intOf]; omega
                · have dxy : decide (ltI x y) = false := decide_eq_false hxy
                  have HNX : Hid (stepF x (false, N) y = (false, N ++ [y])) := Lib.hid (by simp [stepF, hxy])
                  go_wp2_with fail
                  refine wp_region_held_drew (S := fun W => Below wi.heap.size wi W) (by kernel_rfl) (HBI.out.drew) (fun hHeld => ?_)
                  refine wpAnyH_take (i := 0) (v := .bool false) rfl (by kernel_rfl) (by kernel_rfl) (by kernel_rfl) (fun _ _ _ h => h) (Or.inl ⟨by rfl, ?_⟩) (by assumption) ?_
                  · intro w hSw
                    go_simp
                  show wpAnyH _ _ _ _ _ _ _ (Act.put _ (some 44) _) _
                  simp only [Act.put, List.setIfInBounds_toArray, List.set_cons_zero, List.set_cons_succ]
                  refine wpAnyH_take (i := 1) (v := .bool true) rfl (by kernel_rfl) (by kernel_rfl) (by kernel_rfl) (fun _ _ _ h => h) (Or.inl ⟨by rfl, ?_⟩) (by assumption) ?_
                  · intro w hSw
                    go_simp
                  show wpAnyH _ _ _ _ _ _ _ (Act.put _ (some 45) _) _
                  simp only [Act.put, List.setIfInBounds_toArray, List.set_cons_zero, List.set_cons_succ]
                  refine wpAnyH_take (i := 2) (v := .bool true) rfl (by kernel_rfl) (by kernel_rfl) (by kernel_rfl) (fun _ _ _ h => h) (Or.inl ⟨by rfl, ?_⟩) (by assumption) ?_
                  · intro w hSw
                    go_simp
                  show wpAnyH _ _ _ _ _ _ _ (Act.put _ (some 46) _) _
                  simp only [Act.put, List.setIfInBounds_toArray, List.set_cons_zero, List.set_cons_succ]
                  refine wpAnyH_take (i := 3) (v := .slice (some ⟨bl, ol, none⟩) xs.length c) rfl (by kernel_rfl) (by kernel_rfl) (by kernel_rfl) (fun _ _ _ h => h) (Or.inl ⟨by rfl, ?_⟩) (by assumption) ?_
                  · intro w hSw
                    go_simp
                  show wpAnyH _ _ _ _ _ _ _ (Act.put _ (some 47) _) _
                  simp only [Act.put, List.setIfInBounds_toArray, List.set_cons_zero, List.set_cons_succ]
                  refine wpAnyH_take (i := 4) (v := .int .i64 (i : Int)) rfl (by kernel_rfl) (by kernel_rfl) (by kernel_rfl) (fun _ _ _ h => h) (Or.inl ⟨by rfl, ?_⟩) (by assumption) ?_
                  · intro w hSw
                    go_simp
                  show wpAnyH _ _ _ _ _ _ _ (Act.put _ (some 48) _) _
                  simp only [Act.put, List.setIfInBounds_toArray, List.set_cons_zero, List.set_cons_succ]
                  refine wpAnyH_take (i := 5) (v := .pointer (some ⟨bl, ol + i * 10, none⟩)) rfl (by kernel_rfl) (by kernel_rfl) (by kernel_rfl) (fun _ _ _ h => h) (Or.inl ⟨by rfl, ?_⟩) (by assumption) ?_
                  · intro w hSw
                    go_simp
                  show wpAnyH _ _ _ _ _ _ _ (Act.put _ (some 49) _) _
                  simp only [Act.put, List.setIfInBounds_toArray, List.set_cons_zero, List.set_cons_succ]
                  refine wpAnyH_take (i := 6) (v := .agg #[.int .i64 x.id, .int .i64 x.urg, .string x.code, .slice x.nA x.nodes.length x.nc, .int .i64 x.dist, .int .i64 x.since, .slice x.cA x.cl x.cc, .slice x.uA x.ul x.uc, .int .i64 x.merged, .bool x.closed]) rfl (by kernel_rfl) (by kernel_rfl) (by kernel_rfl) (fun _ _ _ h => h) (Or.inl ⟨by rfl, ?_⟩) (by assumption) ?_
                  · intro w hSw
                    obtain ⟨⟨x0, x1, x2, x3, x4, x5, x6, x7, x8, x9⟩, ⟨y0, y1, y2, y3, y4, y5, y6, y7, y8, y9⟩⟩ := HCELLS.out w hSw
                    go_simp
                  show wpAnyH _ _ _ _ _ _ _ (Act.put _ (some 50) _) _
                  simp only [Act.put, List.setIfInBounds_toArray, List.set_cons_zero, List.set_cons_succ]
                  refine wpAnyH_take (i := 7) (v := .slice (some ⟨bo, oo, none⟩) P.length co) rfl (by kernel_rfl) (by kernel_rfl) (by kernel_rfl) (fun _ _ _ h => h) (Or.inl ⟨by rfl, ?_⟩) (by assumption) ?_
                  · intro w hSw
                    go_simp
                  show wpAnyH _ _ _ _ _ _ _ (Act.put _ (some 51) _) _
                  simp only [Act.put, List.setIfInBounds_toArray, List.set_cons_zero, List.set_cons_succ]
                  refine wpAnyH_take (i := 8) (v := .int .i64 (k : Int)) rfl (by kernel_rfl) (by kernel_rfl) (by kernel_rfl) (fun _ _ _ h => h) (Or.inl ⟨by rfl, ?_⟩) (by assumption) ?_
                  · intro w hSw
                    go_simp
                  show wpAnyH _ _ _ _ _ _ _ (Act.put _ (some 52) _) _
                  simp only [Act.put, List.setIfInBounds_toArray, List.set_cons_zero, List.set_cons_succ]
                  refine wpAnyH_take (i := 9) (v := .pointer (some ⟨bo, oo + k * 10, none⟩)) rfl (by kernel_rfl) (by kernel_rfl) (by kernel_rfl) (fun _ _ _ h => h) (Or.inl ⟨by rfl, ?_⟩) (by assumption) ?_
                  · intro w hSw
                    go_simp
                  show wpAnyH _ _ _ _ _ _ _ (Act.put _ (some 53) _) _
                  simp only [Act.put, List.setIfInBounds_toArray, List.set_cons_zero, List.set_cons_succ]
                  refine wpAnyH_take (i := 10) (v := .agg #[.int .i64 y.id, .int .i64 y.urg, .string y.code, .slice y.nA y.nodes.length y.nc, .int .i64 y.dist, .int .i64 y.since, .slice y.cA y.cl y.cc, .slice y.uA y.ul y.uc, .int .i64 y.merged, .bool y.closed]) rfl (by kernel_rfl) (by kernel_rfl) (by kernel_rfl) (fun _ _ _ h => h) (Or.inl ⟨by rfl, ?_⟩) (by assumption) ?_
                  · intro w hSw
                    obtain ⟨⟨x0, x1, x2, x3, x4, x5, x6, x7, x8, x9⟩, ⟨y0, y1, y2, y3, y4, y5, y6, y7, y8, y9⟩⟩ := HCELLS.out w hSw
                    go_simp
                  show wpAnyH _ _ _ _ _ _ _ (Act.put _ (some 54) _) _
                  simp only [Act.put, List.setIfInBounds_toArray, List.set_cons_zero, List.set_cons_succ]
                  refine wpAnyH_ready (rs := [11]) (by kernel_rfl) (by simp) ?_
                  refine AllReadyH.cons rfl (fun K hK => ?_) AllReadyH.nil
                  go_simp
                  have hah := ahead_any x y wr.drew
                  unfold aggI at hah
                  ((with_reducible refine hah.mono ?_))
                  clear hah
                  rintro e w2 ⟨rfl, hb2⟩
                  replace hb2 : Below wr.heap.size wr w2 := ⟨hb2.os, hb2.tape, hb2.output, hb2.size, hb2.block⟩
                  have hb2i : Below wi.heap.size wi w2 := HBI.out.trans (hb2.mono hbz)
                  go_simp
                  refine hK.out _ _ hb2i (fun hHeld => ?_)
                  clear hK K
                  refine wpAnyH_take (i := 12) (v := .bool (decide (ltI x y))) rfl (by kernel_rfl) (by kernel_rfl) (by kernel_rfl) (fun _ _ _ h => h) (Or.inl ⟨by rfl, ?_⟩) (by assumption) ?_
                  · intro w hSw
                    go_simp
                  show wpAnyH _ _ _ _ _ _ _ (Act.put _ (some 56) _) _
                  simp only [Act.put, List.setIfInBounds_toArray, List.set_cons_zero, List.set_cons_succ]
                  refine wpAnyH_done (by kernel_rfl) ?_ _
                  rw [dxy]
                  obtain ⟨_, ⟨y0, y1, y2, y3, y4, y5, y6, y7, y8, y9⟩⟩ := HCELLS.out w2 hb2i
                  have hown2 : OwnInc w2 wi.heap.size 46 u9 N := hown.kept_new hb2
                  have hz2 : wi.heap.size ≤ w2.heap.size := hb2i.size
                  go_wp2_with (at_builtin; refine wpList_append_rec _ rfl (.tmp 64) (.tmp 69) 26 rfl wi.heap.size 46 Tryz.underlying26 inc_info rfl (by omega) (by omega) cellsI_len _ _ w2 y (cellsI_one _) #[.int .i64 y.id, .int .i64 y.urg, .string y.code, .slice y.nA y.nodes.length y.nc, .int .i64 y.dist, .int .i64 y.since, .slice y.cA y.cl y.cc, .slice y.uA y.ul y.uc, .int .i64 y.merged, .bool y.closed] rfl rfl rfl hown2 _ rfl rfl (by omega) hz2 ?_; intro v4 w4 hown4 hg4)
                  go_roundw
                  case rel => exact ⟨k + 1, by omega, by go_num, false, N ++ [y], rfl, by rw [HSTEP.out, HNX.out], hown4, hb2i.grown hg4 hz2 (fun q hq => hown2.ge_base q hq)⟩
                  case measure => simp [intOf]; omega
              · have HNX : Hid (stepF x (true, N) y = (true, N ++ [y])) := Lib.hid (by simp [stepF])
                go_wp2_with fail
                go_quiet (fail)
                have hb2i : Below wi.heap.size wi (wr.drewN nq) := ⟨HBI.out.os, HBI.out.tape, HBI.out.output, HBI.out.size, HBI.out.block⟩
                have hown2 : OwnInc (wr.drewN nq) wi.heap.size 46 u9 N := hown.drewN nq
                obtain ⟨w2, hw2⟩ : ∃ w2, w2 = wr.drewN nq := ⟨_, rfl⟩
                rw [← hw2] at hb2i hown2 ⊢
                clear hw2
                obtain ⟨_, ⟨y0, y1, y2, y3, y4, y5, y6, y7, y8, y9⟩⟩ := HCELLS.out w2 hb2i
                have hz2 : wi.heap.size ≤ w2.heap.size := hb2i.size
                go_wp2_with (at_builtin; refine wpList_append_rec _ rfl (.tmp 64) (.tmp 69) 26 rfl wi.heap.size 46 Tryz.underlying26 inc_info rfl (by omega) (by omega) cellsI_len _ _ w2 y (cellsI_one _) #[.int .i64 y.id, .int .i64 y.urg, .string y.code, .slice y.nA y.nodes.length y.nc, .int .i64 y.dist, .int .i64 y.since, .slice y.cA y.cl y.cc, .slice y.uA y.ul y.uc, .int .i64 y.merged, .bool y.closed] rfl rfl rfl hown2 _ rfl rfl (by omega) hz2 ?_; intro v4 w4 hown4 hg4)
                go_roundw
                case rel => exact ⟨k + 1, by omega, by go_num, true, N ++ [y], rfl, by rw [HSTEP.out, HNX.out], hown4, hb2i.grown hg4 hz2 (fun q hq => hown2.ge_base q hq)⟩
                case measure => simp [intOf]; omega
            · have hkk : k = P.length := by omega
              subst hkk
              have HFO2 : Hid (P.foldl (stepF x) (false, []) = (put, N)) := Lib.hid (by have := HFO.out; rw [List.take_length] at this; exact this)
              have hij : (i : Int) < (xs.length : Int) := by omega
              cases put
              · have HEND : Hid (sortK ((xs.take (i + 1)).filter openI) = N ++ [x]) := Lib.hid (by rw [HNEXT.out, HFO2.out]; rfl)
                obtain ⟨b1, o1, e1, _, x0, x1, x2, x3, x4, x5, x6, x7, x8, x9⟩ := inc_at (HI.out.below HBW.out) HX.out
                cases e1
                go_wp2_with (at_builtin; refine wpList_append_rec _ rfl (.tmp 73) (.tmp 78) 26 rfl wi.heap.size 46 Tryz.underlying26 inc_info rfl (by omega) (by omega) cellsI_len _ _ wr x (cellsI_one _) #[.int .i64 x.id, .int .i64 x.urg, .string x.code, .slice x.nA x.nodes.length x.nc, .int .i64 x.dist, .int .i64 x.since, .slice x.cA x.cl x.cc, .slice x.uA x.ul x.uc, .int .i64 x.merged, .bool x.closed] rfl rfl rfl hown _ rfl rfl (by omega) hbz ?_; intro v4 w4 hown4 hg4)
                go_roundw
                case rel =>
                  refine ⟨i + 1, by omega, by go_num, ?_, HBW.out.grown hg4 HBW.out.size (fun q hq => Nat.le_trans hbs (hown.ge_base q hq))⟩
                  rw [HEND.out]
                  exact hown4.base_le hbs
                case measure => simp [intOf]; omega
              · have HEND : Hid (sortK ((xs.take (i + 1)).filter openI) = N) := Lib.hid (by rw [HNEXT.out, HFO2.out]; rfl)
                go_wp2_with fail
                go_roundw
                case rel =>
                  refine ⟨i + 1, by omega, by go_num, ?_, HBW.out⟩
                  rw [HEND.out]
                  exact hown.base_le hbs
                case measure => simp [intOf]; omega
        · have d2 : (x.merged != 0) = true := by simp [h2]
          have d2' : (x.merged == 0) = false := by simp [h2]
          have HF : Hid (openI x = false) := Lib.hid (by simp [openI, h2])
          clear h2
          go_wp2_with fail
          go_roundw
          case rel =>
            refine ⟨i + 1, by omega, by go_num, ?_, hb⟩
            rw [HT.out, HF.out]
            simpa using hown
          case measure => simp [intOf]; omega
    · have hii : i = xs.length := by omega
      subst hii
      rw [List.take_length] at hown
      obtain ⟨ys, hys⟩ : ∃ ys, ys = sortK (xs.filter openI) := ⟨_, rfl⟩
      have HYM : Hid (∀ y ∈ ys, y ∈ xs) := Lib.hid (by
        intro y hy
        rw [hys, mem_sortK] at hy
        exact (List.mem_filter.1 hy).1)
      have hyl : ys.length ≤ 19 := by
        rw [hys, sortK_len]
        exact Nat.le_trans (List.length_filter_le _ _) hl
      have HSL : Hid (slotsL xs us ps = ys.flatMap (slotsX us ps)) := Lib.hid (by rw [hys]; rfl)
      rw [← hys] at hown
      obtain ⟨A3, c3, rfl, hsl3⟩ := hown.sl
      have HYS := Lib.hid hsl3
      clear hys hown hsl3 hb HOW hlt hi
      go_wp2_with fail
      obtain ⟨w2, rfl⟩ : ∃ w2 : World, w2 = wr := ⟨_, rfl⟩
      go_loopw [12, 13] (fun v iv wr => ∃ (k : Nat) (ss : List SlotT), k ≤ ys.length ∧ iv = .int .i64 k ∧ RSlotsTo w w2.heap.size v ((ys.take k).flatMap (slotsX us ps)) wr ss ∧ Below w2.heap.size w2 wr) (fun _ i _ => ys.length - (intOf i).toNat)
      case atStart => exact ⟨0, [], Nat.zero_le _, rfl, RSlotsTo.start _ _ _, Below.refl _ _⟩
      case round =>
        obtain ⟨k, ss0, hk, rfl, hst, hb⟩ := hrel
        have HST := Lib.hid hst
        have HB2 := Lib.hid hb
        by_cases hlt : k < ys.length
        · obtain ⟨x, hx⟩ : ∃ x, ys[k]? = some x := ⟨ys[k], by simp⟩
          obtain ⟨bu, ou, rfl, hbu, c0, c1', c2', c3', c4, c5, c6, c7, c8, c9⟩ := inc_at (HYS.out.below hb) hx
          have hxm : x ∈ xs := HYM.out x (List.mem_of_getElem? hx)
          have HNX : Hid (Sl w w.heap.size x.nA (x.nodes.map (Value.int .i64))) := Lib.hid (HND.out x hxm)
          have HNIL := Lib.hid (HWF.out x hxm).nnil
          obtain ⟨L0, hL0⟩ : ∃ L0, L0 = (ys.take k).flatMap (slotsX us ps) := ⟨_, rfl⟩
          have HTK : Hid ((ys.take (k + 1)).flatMap (slotsX us ps) = L0 ++ slotsX us ps x) := Lib.hid (by rw [take_snoc' hx, List.flatMap_append, hL0]; simp)
          have hL0l : L0.length ≤ k * 20 := by rw [hL0]; exact Nat.le_trans (slots_len HSM.out us _) (Nat.mul_le_mul_right 20 (List.length_take_le _ _))
          rw [← hL0] at HST
          obtain ⟨wx, hwx⟩ : ∃ wx, wx = wr.alloc (objI x) := ⟨_, rfl⟩
          have HBX0 : Hid (∀ W, Below wx.heap.size wx W → W.cell? ⟨wr.heap.size, 0, none⟩ = some (.int .i64 x.id) ∧ W.cell? ⟨wr.heap.size, 1, none⟩ = some (.int .i64 x.urg) ∧ W.cell? ⟨wr.heap.size, 2, none⟩ = some (.string x.code) ∧ W.cell? ⟨wr.heap.size, 5, none⟩ = some (.int .i64 x.since) ∧ W.cell? ⟨wr.heap.size, 3, none⟩ = some (.slice x.nA x.nodes.length x.nc)) := Lib.hid (by
            intro W hbW
            have hlt : wr.heap.size < wx.heap.size := by rw [hwx]; simp
            have key : ∀ j, W.cell? ⟨wr.heap.size, j, none⟩ = wx.cell? ⟨wr.heap.size, j, none⟩ := fun j => hbW.cell (p := ⟨wr.heap.size, j, none⟩) hlt
            refine ⟨?_, ?_, ?_, ?_, ?_⟩ <;> rw [key, hwx, objI, World.cell?_alloc_at (hn := rfl)] <;> rfl)
          have HXB : Hid (Below wr.heap.size wr wx) := Lib.hid (by rw [hwx]; exact (Below.refl _ _).alloc (Nat.le_refl _) _)
          have hxz : wr.heap.size < wx.heap.size := by rw [hwx]; simp
          have HWX : Hid (Below w.heap.size w wx) := Lib.hid ((HB.out.trans (hb.mono HB.out.size)).trans (HXB.out.mono (Nat.le_trans HB.out.size hb.size)))
          have HKL := Lib.hid (kindsL_len (code := x.code) (urg := x.urg) HSM.out)
          obtain ⟨v0, hv0⟩ : ∃ v0, v0 = u12 := ⟨_, rfl⟩
          have HV0 : Hid (∀ q, v0.ownBlock = some q → w2.heap.size ≤ q ∧ q < wr.heap.size) := Lib.hid (fun q hq => by rw [hv0] at hq; exact ⟨HST.out.own.ge_base q hq, HST.out.own.lt_size q hq⟩)
          rw [← hv0] at HST ⊢
          clear hst hb hx hL0 hxm hv0
          unfold objI at hwx
          go_wp2_with fail
          rw [← hwx]
          obtain ⟨bx, hbx⟩ : ∃ bx, bx = wr.heap.size := ⟨_, rfl⟩
          rw [← hbx] at HBX0 HV0 hxz ⊢
          have HSTX := Lib.hid (HST.out.kept_new HXB.out)
          have HX2 : Hid (Below w2.heap.size w2 wx) := Lib.hid (HB2.out.trans (HXB.out.mono HB2.out.size))
          clear hwx c0 c1' c2' c3' c4 c5 c6 c7 c8 c9 hbx HST HXB HB2
          go_loopw [15, 16] (fun v jv wr => ∃ j : Nat, j ≤ us.length ∧ jv = .int .i64 j ∧ OwnI wr wx.heap.size 3 v (haveK (us.take j) x.id) ∧ Below wx.heap.size wx wr) (fun _ i _ => us.length - (intOf i).toNat)
          case atStart => exact ⟨0, Nat.zero_le _, rfl, OwnV.nil _ _ _, Below.refl _ _⟩
          case round =>
            obtain ⟨j, hj, rfl, hown, hb⟩ := hrel
            have HBR := Lib.hid hb
            have hwz := hb.size
            obtain ⟨k0, k1, k2, k3, k4⟩ := HBX0.out _ hb
            have HBW : Hid (Below w.heap.size w wr) := Lib.hid (HWX.out.trans (hb.mono HWX.out.size))
            have hhl := haveK_len (us.take j) x.id
            have htl : (us.take j).length ≤ j := List.length_take_le _ _
            by_cases hjl : j < us.length
            · obtain ⟨u, hu⟩ : ∃ u, us[j]? = some u := ⟨us[j], by simp⟩
              obtain ⟨b1, o1, rfl, _, q0, q1, q2, q3, q4, q5, q6, q7, q8, q9⟩ := unit_at (HU.out.below HBW.out) hu
              have HTJ : Hid (haveK (us.take (j + 1)) x.id = if x.id = u.inc then haveK (us.take j) u.inc ++ [u.kind] else haveK (us.take j) x.id) := Lib.hid (by rw [take_snoc' hu, haveK_snoc])
              have hjj : (j : Int) < (us.length : Int) := by omega
              clear hu hb
              by_cases heq : u.inc = x.id
              · have de : (u.inc == x.id) = true := by simp [heq]
                have HT2 : Hid (haveK (us.take (j + 1)) x.id = haveK (us.take j) x.id ++ [u.kind]) := Lib.hid (by rw [HTJ.out, if_pos heq.symm, heq])
                clear heq
                go_wp2_with fail
                go_quiet (fail)
                have hwq : wx.heap.size ≤ (wr.drewN nq).heap.size := hwz
                go_wp2_with (at_builtin; refine wpList_append_int _ rfl (.tmp 105) (.tmp 111) 44 rfl wx.heap.size 3 Tryz.underlying44 int_info _ _ (wr.drewN nq) u.kind rfl rfl (hown.drewN nq) rfl (by omega) hwq ?_; intro v4 w4 hown4 hg4)
                go_roundw
                case rel =>
                  refine ⟨j + 1, by omega, by go_num, by rw [HT2.out]; exact hown4, ?_⟩
                  exact (below_drewN HBR.out nq).grown hg4 hwq (fun q hq => OwnV.ge_base hown q hq)
                case measure => simp [intOf]; omega
              · have de : (u.inc == x.id) = false := by simp [heq]
                have HT2 : Hid (haveK (us.take (j + 1)) x.id = haveK (us.take j) x.id) := Lib.hid (by rw [HTJ.out, if_neg (fun e => heq e.symm)])
                clear heq
                go_wp2_with fail
                go_quiet (fail)
                go_wp2_with fail
                go_roundw
                case rel => exact ⟨j + 1, by omega, by go_num, by rw [HT2.out]; exact hown.drewN nq, below_drewN HBR.out nq⟩
                case measure => simp [intOf]; omega
            · have hjj : j = us.length := by omega
              subst hjj
              rw [List.take_length] at hown hhl
              obtain ⟨A8, c8, rfl, hsl8⟩ := OwnV.sl hown
              have HS8 := Lib.hid hsl8
              have hki := kinds_any A2 c2 ps x.code x.urg wr ((HP.out.below HBW.out).more HBW.out.size) hpl
              have HKI := Lib.hid hki
              clear hown hsl8 hki hb
              go_wp2_with fail
              ((with_reducible refine HKI.out.mono ?_))
              rintro e w4 ⟨A7, c7, rfl, hsl7, hb4⟩
              have HB4 := Lib.hid (HBR.out.trans (hb4.mono HBR.out.size))
              have hle := left_any A7 A8 c7 c8 (kindsL ps x.code x.urg) (haveK us x.id) w4 hsl7 ((HS8.out.below hb4).more hb4.size) (by have := HKL.out; omega) (by omega)
              have HLE := Lib.hid hle
              clear hsl7 hb4 hle k0 k1 k2 k3 k4 HKI
              go_wp2_with fail
              ((with_reducible refine HLE.out.mono ?_))
              rintro e w5 ⟨v6, rfl, hown6, hb5⟩
              obtain ⟨zs, hzs⟩ : ∃ zs, zs = unmet (kindsL ps x.code x.urg) (haveK us x.id) := ⟨_, rfl⟩
              rw [← hzs] at hown6
              have hzl : zs.length ≤ 20 := by rw [hzs]; exact Nat.le_trans (unmet_len _ _) HKL.out
              have HSX : Hid (slotsX us ps x = zs.map (fun kd => ⟨x.id, x.urg, x.since, kd, x.nodes⟩)) := Lib.hid (by rw [hzs]; rfl)
              have HB5 := Lib.hid (HB4.out.trans (hb5.mono HB4.out.size))
              have HG6 := Lib.hid (OwnV.ge_base hown6)
              obtain ⟨A6, c6, rfl, hsl6⟩ := OwnV.sl hown6
              have HZS := Lib.hid hsl6
              have HST5 := Lib.hid (HSTX.out.kept_new HB5.out)
              have HBX5 := Lib.hid (HBX0.out w5 HB5.out)
              have hbx5 : bx < w5.heap.size := Nat.lt_of_lt_of_le hxz HB5.out.size
              have hz45 : bx < w4.heap.size := Nat.lt_of_lt_of_le hxz HB4.out.size
              have HW5 : Hid (Below w2.heap.size w2 w5) := Lib.hid (HX2.out.trans (HB5.out.mono HX2.out.size))
              have HWW : Hid (Below w.heap.size w w5) := Lib.hid (HB.out.trans (HW5.out.mono HB.out.size))
              have hw25 : w2.heap.size ≤ w5.heap.size := HW5.out.size
              clear hown6 hsl6 hb5 hzs HLE HSTX HBX0 HB4 HB5 HX2
              go_wp2_with fail
              go_loopw [12, 18] (fun v jv wr => ∃ (j : Nat) (ss : List SlotT), j ≤ zs.length ∧ jv = .int .i64 j ∧ RSlotsTo w w2.heap.size v (L0 ++ (zs.take j).map (fun kd => ⟨x.id, x.urg, x.since, kd, x.nodes⟩)) wr ss ∧ Only (fun q => v0.ownBlock = some q) w5 wr ∧ ∀ q, v.ownBlock = some q → v0.ownBlock = some q ∨ w5.heap.size ≤ q) (fun _ i _ => zs.length - (intOf i).toNat)
              case atStart => exact ⟨0, ss0, Nat.zero_le _, rfl, by simpa using HST5.out, Only.refl, fun q hq => .inl hq⟩
              case round =>
                clear HST5
                obtain ⟨j, ss, hj, rfl, hst, honly, hvq⟩ := hrel
                have HST3 := Lib.hid hst
                have HON := Lib.hid honly
                have HVQ := Lib.hid hvq
                have hsz : w5.heap.size ≤ wr.heap.size := honly.size
                have hssl : ss.length ≤ 400 := by
                  have := congrArg List.length hst.strip
                  rw [List.length_map, List.length_append, List.length_map, List.length_take] at this
                  omega
                clear hst honly hvq
                by_cases hjl : j < zs.length
                · obtain ⟨kd, hkd⟩ : ∃ kd, zs[j]? = some kd := ⟨zs[j], by simp⟩
                  obtain ⟨b6, o6, rfl, hb65, hc6⟩ := HZS.out.int hkd
                  have hg6 : w4.heap.size ≤ b6 := HG6.out b6 rfl
                  have hn6 : ¬ v0.ownBlock = some b6 := fun e => by have := (HV0.out b6 e).2; omega
                  have hcz : wr.cell? ⟨b6, o6 + j, none⟩ = some (.int .i64 kd) := (HON.out.cell (a := ⟨b6, o6 + j, none⟩) hb65 hn6).trans hc6
                  have HTJ : Hid ((zs.take (j + 1)).map (fun kd => (⟨x.id, x.urg, x.since, kd, x.nodes⟩ : SlotP)) = (zs.take j).map (fun kd => (⟨x.id, x.urg, x.since, kd, x.nodes⟩ : SlotP)) ++ [⟨x.id, x.urg, x.since, kd, x.nodes⟩]) := Lib.hid (by rw [take_snoc' hkd, List.map_append]; rfl)
                  have hbxl : bx < wr.heap.size := by omega
                  have hb6l : b6 < wr.heap.size := by omega
                  have hnb : ¬ v0.ownBlock = some bx := fun e => by have := (HV0.out bx e).2; omega
                  have HBX : Hid (wr.cell? ⟨bx, 0, none⟩ = some (.int .i64 x.id) ∧ wr.cell? ⟨bx, 1, none⟩ = some (.int .i64 x.urg) ∧ wr.cell? ⟨bx, 5, none⟩ = some (.int .i64 x.since) ∧ wr.cell? ⟨bx, 3, none⟩ = some (.slice x.nA x.nodes.length x.nc) ∧ wr.cell? ⟨b6, o6 + j, none⟩ = some (.int .i64 kd)) := Lib.hid ⟨(HON.out.cell (a := ⟨bx, 0, none⟩) hbx5 hnb).trans HBX5.out.1, (HON.out.cell (a := ⟨bx, 1, none⟩) hbx5 hnb).trans HBX5.out.2.1, (HON.out.cell (a := ⟨bx, 5, none⟩) hbx5 hnb).trans HBX5.out.2.2.2.1, (HON.out.cell (a := ⟨bx, 3, none⟩) hbx5 hnb).trans HBX5.out.2.2.2.2, hcz⟩
                  obtain ⟨v, hv⟩ : ∃ v, v = u12 := ⟨_, rfl⟩
                  rw [← hv] at HST3 HVQ ⊢
                  have hbxv : ¬ v.ownBlock = some bx := fun e => by
                    rcases HVQ.out bx e with h | h
                    · exact hnb h
                    · omega
                  have hb6v : ¬ v.ownBlock = some b6 := fun e => by
                    rcases HVQ.out b6 e with h | h
                    · exact hn6 h
                    · omega
                  have hwz : w2.heap.size ≤ wr.heap.size := Nat.le_trans hw25 hsz
                  have hjj : (j : Int) < (zs.length : Int) := by omega
                  clear hkd hc6 hv hnb hcz hn6 hg6
                  go_wp2_with fail
                  refine wp_region_held_drew (S := fun W => W.cell? ⟨bx, 0, none⟩ = some (.int .i64 x.id) ∧ W.cell? ⟨bx, 1, none⟩ = some (.int .i64 x.urg) ∧ W.cell? ⟨bx, 5, none⟩ = some (.int .i64 x.since) ∧ W.cell? ⟨bx, 3, none⟩ = some (.slice x.nA x.nodes.length x.nc) ∧ W.cell? ⟨b6, o6 + j, none⟩ = some (.int .i64 kd)) (by kernel_rfl) HBX.out (fun hHeld => ?_)
                  refine wpAnyH_take (i := 0) (v := v) rfl (by kernel_rfl) (by kernel_rfl) (by kernel_rfl) (fun _ _ _ h => h) (Or.inl ⟨by rfl, ?_⟩) (by assumption) ?_
                  · intro w hSw
                    go_simp
                  show wpAnyH _ _ _ _ _ _ _ (Act.put _ (some 127) _) _
                  simp only [Act.put, List.setIfInBounds_toArray, List.set_cons_zero, List.set_cons_succ]
                  refine wpAnyH_take (i := 1) (v := .pointer (some ⟨bx, 0, none⟩)) rfl (by kernel_rfl) (by kernel_rfl) (by kernel_rfl) (fun _ _ _ h => h) (Or.inl ⟨by rfl, ?_⟩) (by assumption) ?_
                  · intro w hSw
                    go_simp
                  show wpAnyH _ _ _ _ _ _ _ (Act.put _ (some 128) _) _
                  simp only [Act.put, List.setIfInBounds_toArray, List.set_cons_zero, List.set_cons_succ]
                  refine wpAnyH_take (i := 2) (v := .int .i64 x.id) rfl (by kernel_rfl) (by kernel_rfl) (by kernel_rfl) (fun _ _ _ h => h) (Or.inl ⟨by rfl, ?_⟩) (by assumption) ?_
                  · intro w hSw
                    obtain ⟨s1, s2, s3, s4, s5⟩ := hSw
                    go_simp
                  show wpAnyH _ _ _ _ _ _ _ (Act.put _ (some 129) _) _
                  simp only [Act.put, List.setIfInBounds_toArray, List.set_cons_zero, List.set_cons_succ]
                  refine wpAnyH_take (i := 3) (v := .pointer (some ⟨bx, 1, none⟩)) rfl (by kernel_rfl) (by kernel_rfl) (by kernel_rfl) (fun _ _ _ h => h) (Or.inl ⟨by rfl, ?_⟩) (by assumption) ?_
                  · intro w hSw
                    go_simp
                  show wpAnyH _ _ _ _ _ _ _ (Act.put _ (some 130) _) _
                  simp only [Act.put, List.setIfInBounds_toArray, List.set_cons_zero, List.set_cons_succ]
                  refine wpAnyH_take (i := 4) (v := .int .i64 x.urg) rfl (by kernel_rfl) (by kernel_rfl) (by kernel_rfl) (fun _ _ _ h => h) (Or.inl ⟨by rfl, ?_⟩) (by assumption) ?_
                  · intro w hSw
                    obtain ⟨s1, s2, s3, s4, s5⟩ := hSw
                    go_simp
                  show wpAnyH _ _ _ _ _ _ _ (Act.put _ (some 131) _) _
                  simp only [Act.put, List.setIfInBounds_toArray, List.set_cons_zero, List.set_cons_succ]
                  refine wpAnyH_take (i := 5) (v := .pointer (some ⟨bx, 5, none⟩)) rfl (by kernel_rfl) (by kernel_rfl) (by kernel_rfl) (fun _ _ _ h => h) (Or.inl ⟨by rfl, ?_⟩) (by assumption) ?_
                  · intro w hSw
                    go_simp
                  show wpAnyH _ _ _ _ _ _ _ (Act.put _ (some 132) _) _
                  simp only [Act.put, List.setIfInBounds_toArray, List.set_cons_zero, List.set_cons_succ]
                  refine wpAnyH_take (i := 6) (v := .int .i64 x.since) rfl (by kernel_rfl) (by kernel_rfl) (by kernel_rfl) (fun _ _ _ h => h) (Or.inl ⟨by rfl, ?_⟩) (by assumption) ?_
                  · intro w hSw
                    obtain ⟨s1, s2, s3, s4, s5⟩ := hSw
                    go_simp
                  show wpAnyH _ _ _ _ _ _ _ (Act.put _ (some 133) _) _
                  simp only [Act.put, List.setIfInBounds_toArray, List.set_cons_zero, List.set_cons_succ]
                  refine wpAnyH_take (i := 7) (v := .slice (some ⟨b6, o6, none⟩) zs.length c6) rfl (by kernel_rfl) (by kernel_rfl) (by kernel_rfl) (fun _ _ _ h => h) (Or.inl ⟨by rfl, ?_⟩) (by assumption) ?_
                  · intro w hSw
                    go_simp
                  show wpAnyH _ _ _ _ _ _ _ (Act.put _ (some 134) _) _
                  simp only [Act.put, List.setIfInBounds_toArray, List.set_cons_zero, List.set_cons_succ]
                  refine wpAnyH_take (i := 8) (v := .int .i64 (j : Int)) rfl (by kernel_rfl) (by kernel_rfl) (by kernel_rfl) (fun _ _ _ h => h) (Or.inl ⟨by rfl, ?_⟩) (by assumption) ?_
                  · intro w hSw
                    go_simp
                  show wpAnyH _ _ _ _ _ _ _ (Act.put _ (some 135) _) _
                  simp only [Act.put, List.setIfInBounds_toArray, List.set_cons_zero, List.set_cons_succ]
                  refine wpAnyH_take (i := 9) (v := .pointer (some ⟨b6, o6 + j, none⟩)) rfl (by kernel_rfl) (by kernel_rfl) (by kernel_rfl) (fun _ _ _ h => h) (Or.inl ⟨by rfl, ?_⟩) (by assumption) ?_
                  · intro w hSw
                    go_simp
                  show wpAnyH _ _ _ _ _ _ _ (Act.put _ (some 136) _) _
                  simp only [Act.put, List.setIfInBounds_toArray, List.set_cons_zero, List.set_cons_succ]
                  refine wpAnyH_take (i := 10) (v := .int .i64 kd) rfl (by kernel_rfl) (by kernel_rfl) (by kernel_rfl) (fun _ _ _ h => h) (Or.inl ⟨by rfl, ?_⟩) (by assumption) ?_
                  · intro w hSw
                    obtain ⟨s1, s2, s3, s4, s5⟩ := hSw
                    go_simp
                  show wpAnyH _ _ _ _ _ _ _ (Act.put _ (some 137) _) _
                  simp only [Act.put, List.setIfInBounds_toArray, List.set_cons_zero, List.set_cons_succ]
                  refine wpAnyH_take (i := 11) (v := .pointer (some ⟨bx, 3, none⟩)) rfl (by kernel_rfl) (by kernel_rfl) (by kernel_rfl) (fun _ _ _ h => h) (Or.inl ⟨by rfl, ?_⟩) (by assumption) ?_
                  · intro w hSw
                    go_simp
                  show wpAnyH _ _ _ _ _ _ _ (Act.put _ (some 138) _) _
                  simp only [Act.put, List.setIfInBounds_toArray, List.set_cons_zero, List.set_cons_succ]
                  refine wpAnyH_take (i := 12) (v := .slice x.nA x.nodes.length x.nc) rfl (by kernel_rfl) (by kernel_rfl) (by kernel_rfl) (fun _ _ _ h => h) (Or.inl ⟨by rfl, ?_⟩) (by assumption) ?_
                  · intro w hSw
                    obtain ⟨s1, s2, s3, s4, s5⟩ := hSw
                    go_simp
                  show wpAnyH _ _ _ _ _ _ _ (Act.put _ (some 139) _) _
                  simp only [Act.put, List.setIfInBounds_toArray, List.set_cons_zero, List.set_cons_succ]
                  refine wpAnyH_take (i := 13) (v := .agg #[.int .i64 x.id, .int .i64 x.urg, .int .i64 x.since, .int .i64 kd, .slice x.nA x.nodes.length x.nc]) rfl (by kernel_rfl) (by kernel_rfl) (by kernel_rfl) (fun _ _ _ h => h) (Or.inl ⟨by rfl, ?_⟩) (by assumption) ?_
                  · intro w hSw
                    go_simp
                  show wpAnyH _ _ _ _ _ _ _ (Act.put _ (some 140) _) _
                  simp only [Act.put, List.setIfInBounds_toArray, List.set_cons_zero, List.set_cons_succ]
                  have hb7 := (Below.refl wr.heap.size wr).alloc (Nat.le_refl _) (.cells #[.int .i64 x.id, .int .i64 x.urg, .int .i64 x.since, .int .i64 kd, .slice x.nA x.nodes.length x.nc] 63)
                  refine wpAnyH_ready (rs := [14]) (by kernel_rfl) (by simp) ?_
                  refine AllReadyH.cons rfl (fun K hK => ?_) AllReadyH.nil
                  go_simp
                  refine hK.out _ _ ⟨(hb7.cell (p := ⟨bx, 0, none⟩) hbxl).trans HBX.out.1, (hb7.cell (p := ⟨bx, 1, none⟩) hbxl).trans HBX.out.2.1, (hb7.cell (p := ⟨bx, 5, none⟩) hbxl).trans HBX.out.2.2.1, (hb7.cell (p := ⟨bx, 3, none⟩) hbxl).trans HBX.out.2.2.2.1, (hb7.cell (p := ⟨b6, o6 + j, none⟩) hb6l).trans HBX.out.2.2.2.2⟩ (fun hHeld => ?_)
                  clear hK K
                  refine wpAnyH_ready (rs := [15]) (by kernel_rfl) (by simp) ?_
                  refine AllReadyH.cons rfl (fun K hK => ?_) AllReadyH.nil
                  refine step_append_rec _ (by rfl) (.tmp 127) (.tmp 141) 49 (by rfl) w2.heap.size 63 Tryz.underlying49 rslot_info rfl (by omega) (by omega) cellsS_len v ss wr.drew ⟨x.id, x.urg, x.since, kd, x.nA, x.nodes, x.nc⟩ (cellsS_one _) #[.int .i64 x.id, .int .i64 x.urg, .int .i64 x.since, .int .i64 kd, .slice x.nA x.nodes.length x.nc] (by rfl) (by rfl) (by rfl) (HST3.out.own.drewN 1) wr.heap.size (by rfl) (by rfl) (by omega) hwz ?_
                  intro g cap w8 hown8 hg8 hat8
                  have hbne : some bx ≠ v.ownBlock := fun e => hbxv e.symm
                  have hb6ne : some b6 ≠ v.ownBlock := fun e => hb6v e.symm
                  refine hK.out _ _ ⟨hg8.cell HBX.out.1 hbne, hg8.cell HBX.out.2.1 hbne, hg8.cell HBX.out.2.2.1 hbne, hg8.cell HBX.out.2.2.2.1 hbne, hg8.cell HBX.out.2.2.2.2 hb6ne⟩ (fun hHeld => ?_)
                  clear hK K
                  refine wpAnyH_take (i := 16) (v := .slice (some ⟨g, 0, none⟩) (ss.length + 1) cap) rfl (by kernel_rfl) (by kernel_rfl) (by kernel_rfl) (fun _ _ _ h => h) (Or.inl ⟨by rfl, ?_⟩) (by assumption) ?_
                  · intro w hSw
                    go_simp
                  refine wpAnyH_done (by kernel_rfl) ?_ _
                  have HFIN := Lib.hid (HST3.out.append ⟨x.id, x.urg, x.since, kd, x.nA, x.nodes, x.nc⟩ HNX.out hown8 HNIL.out)
                  have HON8 : Hid (Only (fun q => v0.ownBlock = some q) w5 w8) := Lib.hid ((HON.out.drewN 1).trans (Only.of_grown hg8 (S := fun q => v.ownBlock = some q) (fun q hq => hq)) (fun q hq h => by
                    rcases HVQ.out q h with h' | h'
                    · exact h'
                    · omega))
                  have HVQ8 : Hid (∀ q, some g = some q → v0.ownBlock = some q ∨ w5.heap.size ≤ q) := Lib.hid (fun q hq => by
                    injection hq with hq
                    subst hq
                    rcases hat8 with h | h
                    · exact HVQ.out _ h
                    · right
                      have h1 : wr.heap.size ≤ g := h
                      omega)
                  clear hown8 hg8 hat8 hbne hb6ne hb7 hHeld
                  go_wp2_with fail
                  go_roundw
                  case rel =>
                    refine ⟨j + 1, ss ++ [⟨x.id, x.urg, x.since, kd, x.nA, x.nodes, x.nc⟩], by omega, by go_num, ?_, HON8.out, fun q hq => HVQ8.out q hq⟩
                    have := HFIN.out
                    rw [List.append_assoc, ← HTJ.out] at this
                    exact this
                  case measure => simp [intOf]; omega
                · have hjj : j = zs.length := by omega
                  subst hjj
                  go_wp2_with fail
                  go_roundw
                  case rel =>
                    refine ⟨k + 1, ss, by omega, by go_num, ?_, HW5.out.trans (HON.out.below hw25 (fun q hq => (HV0.out q hq).1))⟩
                    rw [HTK.out, HSX.out]
                    have := HST3.out
                    rw [List.take_length] at this
                    exact this
                  case measure => simp [intOf]; omega
        · have hkk : k = ys.length := by omega
          subst hkk
          obtain ⟨A9, c9, hv9, _⟩ := hst.own.sl
          rw [hv9] at hst ⊢
          have HF := Lib.hid hst
          clear hv9 hst HST hb
          go_wp2_with fail
          go_ret
          have hall : Below w.heap.size w wr := HB.out.trans (HB2.out.mono HB.out.size)
          have h9 := HF.out
          rw [List.take_length, ← HSL.out] at h9
          obtain ⟨_, _, e9, hsl9⟩ := h9.own.sl
          cases e9
          exact ⟨A9, c9, ss0, rfl, hsl9, fun s hs => ((h9.nodes s hs).below hall).more hall.size, h9.strip, h9.nil, hall⟩
end
end Go.Proofs.YtimijjhdgihobaaGreatDoor
