/-
  samaritanref12.Next (printed by genpqg.py).
-/
import Derived.Test.YtbbklideciappaaGreatDoorPqF
namespace Go.Proofs.YtbbklideciappaaGreatDoor
open Go.RowKit Go.Maps

set_option maxHeartbeats 4000000 in
theorem next_out (w : World) (p : Prot) (z : Int) (hz : z < 0 ∨ p.qs.length ≤ z) :
    Calls Tryz.prog 17 #[.agg #[.string p.name, .int .i64 p.ver, .slice p.qA p.qs.length p.qc], .int .i64 z] w (RetNx p z w) := by
  have HB := Lib.hid (below_new w (.cells #[.string p.name, .int .i64 p.ver, .slice p.qA p.qs.length p.qc] 24))
  have HN := Lib.hid (show NextAt p z [] from .inl ⟨hz, rfl⟩)
  by_cases h0 : z < 0
  · have d0 : decide (z < 0) = true := decide_eq_true h0
    clear hz h0
    go_enter Tryz.func17, Tryz.ntmps17
    go_wp2_with fail
    go_ret
    exact ⟨_, [], rfl, HN.out, OwnV.nil _ _ _, by simp, HB.out⟩
  · have d0 : decide (z < 0) = false := decide_eq_false h0
    have d1 : decide ((p.qs.length : Int) ≤ z) = true := decide_eq_true (by omega)
    clear hz h0
    go_enter Tryz.func17, Tryz.ntmps17
    go_wp2_with fail
    go_ret
    exact ⟨_, [], rfl, HN.out, OwnV.nil _ _ _, by simp, HB.out⟩
theorem own_caps {W : World} {B : Nat} {e : TypeId} {A : Option Addr} {n c : Nat} {L : List Int} (h : OwnI W B e (.slice A n c) L) : n = L.length ∧ n ≤ c ∧ c ≤ 9223372036854775807 ∧ (A = none → c = 0) := by
  rcases h.2 with ⟨e1, e2⟩ | ⟨g4, c4, cur4, e1, _, _, e2, e3, _⟩
  · injection e1 with e3 e4 e5
    subst e3 e4 e5
    exact ⟨by omega, by omega, by omega, fun _ => rfl⟩
  · injection e1 with e5 e6 e7
    subst e5 e6 e7
    exact ⟨rfl, e2, by unfold maxLen at e3; omega, fun h => by cases h⟩
theorem own_form {W : World} {B : Nat} {e : TypeId} {A : Option Addr} {n c : Nat} {L : List Int} (h : OwnI W B e (.slice A n c) L) : (A = none ∧ c = 0 ∧ L.length = 0) ∨ ∃ g, A = some ⟨g, 0, none⟩ := by
  rcases h.2 with ⟨e1, e2⟩ | ⟨g4, c4, cur4, e1, _⟩
  · injection e1 with e3 e4 e5
    exact .inl ⟨e3, e5, e2⟩
  · injection e1 with e5 e6 e7
    exact .inr ⟨g4, e5⟩
theorem take_lt {L : List Int} {j : Nat} {z x : Int} (hx : L[j]? = some x) (h : ∀ y ∈ L.take j, y < z) (hl : x < z) : ∀ y ∈ L.take (j + 1), y < z := (all_take_iff hx).2 ⟨h, hl⟩
theorem size_int (w : World) : (sizeOf 3).run Tryz.prog w = .ok 1 w := by kernel_rfl
theorem elem_int : Tryz.prog.elem 34 = 3 := by kernel_rfl
set_option maxRecDepth 100000 in
set_option maxHeartbeats 16000000 in
theorem next_in (w : World) (p : Prot) (h : ProtAt w w.heap.size p) (hc : CntLe p 1000000000) (i : Nat) (q : Ques) (hq : p.qs[i]? = some q) :
    Calls Tryz.prog 17 #[.agg #[.string p.name, .int .i64 p.ver, .slice p.qA p.qs.length p.qc], .int .i64 i] w (RetNx p i w) := by
  have HNX : Hid (∀ L, NextOf q.ans L → NextAt p i L) := Lib.hid (fun L hL => .inr ⟨q, by simpa using hq, by omega, hL⟩)
  obtain ⟨b, o, hA, hbb, q0, q1, hrec⟩ := ques_at h hq
  have hil : i < p.qs.length := (List.getElem?_eq_some_iff.1 hq).1
  obtain ⟨n, hn⟩ : ∃ n, n = p.qs.length := ⟨_, rfl⟩
  obtain ⟨m, hm⟩ : ∃ m, m = q.ans.length := ⟨_, rfl⟩
  have HM := Lib.hid hm
  have hm9 : m ≤ 1000000000 := by rw [hm]; exact hc.2 q (List.mem_of_getElem? hq)
  rw [← hn] at hil ⊢
  rw [← hm] at q1
  rw [hA]
  have d0 : decide ((i : Int) < 0) = false := decide_eq_false (by omega)
  have d1 : decide (n ≤ i) = false := decide_eq_false (by omega)
  have hil' : (i : Int) < (n : Int) := by omega
  have HB := Lib.hid (below_new w (.cells #[.string p.name, .int .i64 p.ver, .slice (some ⟨b, o, none⟩) n p.qc] 24))
  have hbn : ¬ b = w.heap.size := by omega
  have HREC := Lib.hid hrec
  clear h hc hq hA hm hn hrec
  go_enter Tryz.func17, Tryz.ntmps17
  go_wp2_with fail
  go_loopw [5, 26] (fun v j X => ∃ (k : Nat) (L : List Int), k ≤ m ∧ j = .int .i64 k ∧ OwnI X w.heap.size 3 v L ∧ NextTo q.ans k L ∧ Below w.heap.size w X) (fun _ j _ => m - (intOf j).toNat)
  case atStart => exact ⟨0, [], by omega, rfl, OwnV.nil _ _ _, NextTo.zero, HB.out⟩
  case round =>
    obtain ⟨k, L, hk, rfl, hown, hnt, hb⟩ := hrel
    obtain ⟨wo, rfl⟩ : ∃ wo : World, wo = wr := ⟨_, rfl⟩
    have HO := Lib.hid (And.intro hown (And.intro hnt hb))
    by_cases hlt : k < m
    · have hlt' : (k : Int) < (m : Int) := by omega
      obtain ⟨t, ht⟩ : ∃ t, q.ans[k]? = some t := ⟨q.ans[k]'(by have := HM.out; omega), by simp⟩
      obtain ⟨b2, o2, hA2, hbb2, r0, r1, r2, r3⟩ := ans_at (RecsAt.below HREC.out hb) ht
      rw [hA2]
      have HT := Lib.hid ht
      obtain ⟨tx, z, tu, tc⟩ := t
      dsimp only at r0 r1 r2 r3
      obtain ⟨g0, g1, g2, g3⟩ := fresh4 wo (.string tx) (.int .i64 z) (.int .i64 tu) (.string tc) 45
      have hbA := below_new wo (.cells #[.string tx, .int .i64 z, .int .i64 tu, .string tc] 45)
      have HB1 := Lib.hid (hb.alloc hb.size (.cells #[.string tx, .int .i64 z, .int .i64 tu, .string tc] 45))
      have HLT1 := Lib.hid (lt_new wo (.cells #[.string tx, .int .i64 z, .int .i64 tu, .string tc] 45))
      have hown1 := hown.alloc (.cells #[.string tx, .int .i64 z, .int .i64 tu, .string tc] 45)
      obtain ⟨A, c, rfl, hsl⟩ := hown1.sl
      obtain ⟨_, hnc, hc9, hAc⟩ := own_caps hown1
      obtain ⟨nl, hnl⟩ : ∃ nl, nl = L.length := ⟨_, rfl⟩
      have hnl9 : nl ≤ 1000000000 := by rw [hnl]; have := hnt.len; omega
      have hnc' : nl ≤ c := by rw [hnl]; exact hnc
      have HNL := Lib.hid hnl
      have HO1 := Lib.hid (And.intro hown1 (And.intro hsl (And.intro hAc hnt)))
      rw [← hnl]
      have HG1 := Lib.hid g1
      obtain ⟨W2, hW2⟩ : ∃ W2, W2 = wo.alloc (.cells #[.string tx, .int .i64 z, .int .i64 tu, .string tc] 45) := ⟨_, rfl⟩
      have HWZ := Lib.hid (show W2.heap.size = wo.heap.size + 1 by rw [hW2]; simp)
      rw [← hW2] at g0 g1 g2 g3 HB1 HO1 HG1 HLT1
      clear ht hown hnt hA2 hb hbA hown1 hsl hAc hnc hnl
      have HB1' := HB1
      by_cases hp : z < 0
      · have d2 : decide (z < 0) = true := decide_eq_true hp
        have HS := Lib.hid (HO1.out.2.2.2.skip HT.out (.inl hp))
        clear hp
        go_wp2_with fail
        rw [← hW2]
        clear hW2
        go_roundw
        case rel => exact ⟨k + 1, L, by omega, by go_num, by rw [HNL.out]; exact HO1.out.1, HS.out, HB1.out⟩
        case measure => simp [intOf]; omega
      · have d2 : decide (z < 0) = false := decide_eq_false hp
        have hz0 : 0 ≤ z := by omega
        clear hp
        go_wp2_with fail
        rw [← hW2]
        clear hW2
        go_loopw [8] (fun jv X => ∃ j : Nat, j ≤ nl ∧ jv = .int .i64 j ∧ (∀ x ∈ L.take j, x < z) ∧ Below W2.heap.size W2 X) (fun j _ => nl - (intOf j).toNat)
        case atStart => exact ⟨0, by omega, rfl, by simp, Below.refl _ _⟩
        case round =>
          obtain ⟨j, hj, rfl, hall, hbj⟩ := hrel
          have HJ := Lib.hid (And.intro hall hbj)
          have a1 := (hbj.cell (p := ⟨wo.heap.size, 1, none⟩) HLT1.out).trans HG1.out
          by_cases hjl : j < nl
          · have hjl' : (j : Int) < (nl : Int) := by omega
            obtain ⟨x, hx⟩ : ∃ x, L[j]? = some x := ⟨L[j]'(by have := HNL.out; omega), by simp⟩
            obtain ⟨b3, o3, hA3, hb3l, hcx⟩ := (HO1.out.2.1.below hbj).int hx
            rw [hA3]
            have HX := Lib.hid hx
            have HA3 := Lib.hid hA3
            have d3 : decide (j < nl) = true := decide_eq_true hjl
            clear hx hA3 hall hbj
            by_cases hxz : x < z
            · have d4 : decide (x < z) = true := decide_eq_true hxz
              have HXL := Lib.hid (take_lt HX.out HJ.out.1 hxz)
              clear hxz
              go_wp2_with fail
              go_quiet (fail)
              go_wp2_with fail
              go_roundw
              case rel => exact ⟨j + 1, by omega, by go_num, HXL.out, below_drewN' HJ.out.2 _⟩
              case measure => simp [intOf]; omega
            · have d4 : decide (x < z) = false := decide_eq_false hxz
              by_cases hxe : x = z
              · have d5 : (x == z) = true := beq_iff_eq.2 hxe
                have HS := Lib.hid (HO1.out.2.2.2.skip HT.out (.inr (by rw [← hxe]; exact List.mem_of_getElem? HX.out)))
                clear hxz hxe
                go_wp2_with fail
                go_quiet (fail)
                go_wp2_with fail
                go_quiet (fail)
                go_wp2_with fail
                go_roundw
                case rel => exact ⟨k + 1, L, by omega, by go_num, by rw [HNL.out, ← HA3.out]; exact (HO1.out.1.kept_new HJ.out.2).drewN _, HS.out, below_drewN' (HB1.out.trans (HJ.out.2.mono HB1.out.size)) _⟩
                case measure => simp [intOf]; omega
              · have d5 : (x == z) = false := beq_eq_false_iff_ne.2 hxe
                have HG : Hid (∀ y, L[j]? = some y → z < y) := Lib.hid (fun y hy => by
                  have h1 := HX.out.symm.trans hy
                  injection h1 with h1
                  omega)
                have HP := Lib.hid (HO1.out.2.2.2.put HT.out hz0 HJ.out.1 HG.out)
                have hjc : j ≤ c := by omega
                clear hxz hxe
                go_wp2_with fail
                go_quiet (fail)
                rename Nat => nA
                go_wp2_with fail
                go_quiet (fail)
                rename Nat => nB
                obtain ⟨Y, hY⟩ : ∃ Y, Y = (wr.drewN nA).drewN nB := ⟨_, rfl⟩
                have hbY : Below W2.heap.size W2 Y := by rw [hY]; exact below_drewN' (below_drewN' HJ.out.2 nA) nB
                have hSY : Sl Y W2.heap.size (some ⟨b3, o3, none⟩) (L.map (Value.int .i64)) := by rw [hY]; exact (((by have h1 := HO1.out.2.1.below HJ.out.2; rwa [HA3.out] at h1 : Sl wr W2.heap.size (some ⟨b3, o3, none⟩) (L.map (Value.int .i64)))).drewN nA).drewN nB
                have hbs : W2.heap.size ≤ Y.heap.size := hbY.size
                have hez : Y.heap.size = wr.heap.size := by rw [hY]; rfl
                have hE0 : OwnI (Y.alloc (.cells #[] 3)) W2.heap.size 3 (.slice (some ⟨Y.heap.size, 0, none⟩) 0 0) [] := OwnV.lit Y W2.heap.size 3 [] rfl hbs (by decide) _ rfl
                have HB0 := Lib.hid (hbY.alloc hbs (.cells #[] 3))
                have hT0 : Sl (Y.alloc (.cells #[] 3)) W2.heap.size (some ⟨b3, o3, none⟩) ((L.take j).map (Value.int .i64)) := by rw [List.map_take]; exact (hSY.alloc hbs _).take j
                have HT0 := Lib.hid hT0
                have HE0 := Lib.hid hE0
                first | rw [← hY] | (rw [show wr.drewN (nA + nB) = Y by rw [hY]; exact (World.drewN_drewN wr nA nB).symm])
                clear hY hbY hSY hbs hE0 hT0 hez
                have HJL : Hid (j = (L.take j).length) := Lib.hid (by have := HNL.out; simp; omega)
                have HLL : Hid (([] : List Int).length + (L.take j).length ≤ 4398046511104 ∧ (L.take j).length + 1 ≤ 4398046511104 ∧ (L.take j ++ [z]).length + (L.drop j).length ≤ 4398046511104 ∧ nl - j = (L.drop j).length ∧ L.length = nl) := Lib.hid (by have := HNL.out; simp; omega)
                go_wp2_with (first
                  | (refine wpList_append_sl _ rfl (.tmp 61) (.tmp 64) 34 rfl 3 Tryz.underlying34 int_info rfl (by omega) W2.heap.size _ [] rfl HE0.out W2.heap.size _ _ _ (L.take j) rfl HJL.out (fun e => by cases e) HT0.out (by intro y _; rfl) HLL.out.1 HB0.out.size ?_; intro v1 w1 hown1 hg1; have HB1 := Lib.hid (HB0.out.grown hg1 HB0.out.size (fun j hj => HE0.out.ge_base j hj)); have HW1 := Lib.hid hown1; have a1 := (HB1.out.cell (p := ⟨wo.heap.size, 1, none⟩) HLT1.out).trans HG1.out; clear hown1 hg1)
                  | (refine wpList_append_intN _ rfl (.tmp 66) (.tmp 69) 34 rfl W2.heap.size 3 Tryz.underlying34 int_info _ _ w1 z rfl rfl HW1.out _ rfl rfl HLL.out.2.1 HB1.out.size ?_; intro v2 w2 hown2 hg2; have HB2 := Lib.hid (HB1.out.grown hg2 HB1.out.size (fun j hj => HW1.out.ge_base j hj)); have HW2 := Lib.hid hown2; have HS2 := Lib.hid (HO1.out.2.1.below HB2.out); clear hown2 hg2)
                  | (refine wpList_cut _ rfl (.tmp 72) (.tmp 73) 34 rfl 3 Tryz.underlying34 elem_int (size_int _) _ _ _ j rfl rfl (by omega) W2.heap.size (L.map (Value.int .i64)) (by have h1 := HS2.out; rwa [HA3.out] at h1) (by intro _; omega) ?_; intro A3 c3 hA3' hc3 hc3' hn3 hn3'; have HA3' := Lib.hid (And.intro hA3' (And.intro hn3 (And.intro hn3' hc3))); clear hA3' hn3 hn3')
                  | (refine wpList_append_sl _ rfl (.tmp 71) (.tmp 74) 34 rfl 3 Tryz.underlying34 int_info rfl (by omega) W2.heap.size _ _ rfl HW2.out W2.heap.size _ _ _ (L.drop j) rfl HLL.out.2.2.2.1 (fun e => absurd (HA3'.out.2.2.1 e) (by intro q; cases q)) (by have h1 := HA3'.out.1; rwa [← List.map_drop] at h1) (by intro y _; rfl) HLL.out.2.2.1 HB2.out.size ?_; intro v4 w4 hown4 hg4; have HB4 := Lib.hid (HB2.out.grown hg4 HB2.out.size (fun j hj => HW2.out.ge_base j hj)); have HW4 := Lib.hid hown4; clear hown4 hg4))
                go_roundw
                case rel => exact ⟨k + 1, _, by omega, by go_num, HW4.out.base_le HB1'.out.size, HP.out, HB1'.out.trans (HB4.out.mono HB1'.out.size)⟩
                case measure => simp [intOf]; omega
          · obtain rfl : j = nl := by omega
            have d3 : decide (j < j) = false := decide_eq_false hjl
            have HG : Hid (∀ y, L[j]? = some y → z < y) := Lib.hid (fun y hy => by
              have := (List.getElem?_eq_some_iff.1 hy).1
              have := HNL.out
              omega)
            have HP := Lib.hid (HO1.out.2.2.2.put HT.out hz0 hall HG.out)
            have hjc : j ≤ c := by omega
            clear hall hbj
            rcases own_form HO1.out.1 with ⟨rfl, rfl, hl0⟩ | ⟨g, rfl⟩
            · obtain rfl : j = 0 := by have := HNL.out; omega
              have HL0 := Lib.hid hl0
              clear hl0
              go_wp2_with fail
              go_quiet (fail)
              rename Nat => nA
              go_wp2_with fail
              go_quiet (fail)
              rename Nat => nB
              obtain ⟨Y, hY⟩ : ∃ Y, Y = (wr.drewN nA).drewN nB := ⟨_, rfl⟩
              have hbY : Below W2.heap.size W2 Y := by rw [hY]; exact below_drewN' (below_drewN' HJ.out.2 nA) nB
              have hSY : Sl Y W2.heap.size none (L.map (Value.int .i64)) := by rw [hY]; exact (((HO1.out.2.1.below HJ.out.2)).drewN nA).drewN nB
              have hbs : W2.heap.size ≤ Y.heap.size := hbY.size
              have hez : Y.heap.size = wr.heap.size := by rw [hY]; rfl
              have hE0 : OwnI (Y.alloc (.cells #[] 3)) W2.heap.size 3 (.slice (some ⟨Y.heap.size, 0, none⟩) 0 0) [] := OwnV.lit Y W2.heap.size 3 [] rfl hbs (by decide) _ rfl
              have HB0 := Lib.hid (hbY.alloc hbs (.cells #[] 3))
              have hT0 : Sl (Y.alloc (.cells #[] 3)) W2.heap.size none ((L.take 0).map (Value.int .i64)) := by rw [List.map_take]; exact (hSY.alloc hbs _).take 0
              have HT0 := Lib.hid hT0
              have HE0 := Lib.hid hE0
              first | rw [← hY] | (rw [show wr.drewN (nA + nB) = Y by rw [hY]; exact (World.drewN_drewN wr nA nB).symm])
              clear hY hbY hSY hbs hE0 hT0 hez
              have HJL : Hid (0 = (L.take 0).length) := Lib.hid (by simp)
              have HLL : Hid (([] : List Int).length + (L.take 0).length ≤ 4398046511104 ∧ (L.take 0).length + 1 ≤ 4398046511104 ∧ (L.take 0 ++ [z]).length + (L.drop 0).length ≤ 4398046511104 ∧ 0 = (L.drop 0).length ∧ L.length = 0) := Lib.hid ⟨by simp, by simp, by rw [List.drop_zero, HL0.out]; simp, by rw [List.drop_zero, HL0.out], HL0.out⟩
              go_wp2_with (first
                | (refine wpList_append_sl _ rfl (.tmp 61) (.tmp 64) 34 rfl 3 Tryz.underlying34 int_info rfl (by omega) W2.heap.size _ [] rfl HE0.out W2.heap.size _ _ _ (L.take 0) rfl HJL.out (fun _ => rfl) HT0.out (by intro y _; rfl) HLL.out.1 HB0.out.size ?_; intro v1 w1 hown1 hg1; have HB1 := Lib.hid (HB0.out.grown hg1 HB0.out.size (fun j hj => HE0.out.ge_base j hj)); have HW1 := Lib.hid hown1; have a1 := (HB1.out.cell (p := ⟨wo.heap.size, 1, none⟩) HLT1.out).trans HG1.out; clear hown1 hg1)
                | (refine wpList_append_intN _ rfl (.tmp 66) (.tmp 69) 34 rfl W2.heap.size 3 Tryz.underlying34 int_info _ _ w1 z rfl rfl HW1.out _ rfl rfl HLL.out.2.1 HB1.out.size ?_; intro v2 w2 hown2 hg2; have HB2 := Lib.hid (HB1.out.grown hg2 HB1.out.size (fun j hj => HW1.out.ge_base j hj)); have HW2 := Lib.hid hown2; have HS2 := Lib.hid (HO1.out.2.1.below HB2.out); clear hown2 hg2)
                | (refine wpList_append_sl _ rfl (.tmp 71) (.tmp 74) 34 rfl 3 Tryz.underlying34 int_info rfl (by omega) W2.heap.size _ _ rfl HW2.out W2.heap.size _ _ _ (L.drop 0) rfl HLL.out.2.2.2.1 (fun _ => rfl) (by rw [List.drop_zero]; exact HS2.out) (by intro y _; rfl) HLL.out.2.2.1 HB2.out.size ?_; intro v4 w4 hown4 hg4; have HB4 := Lib.hid (HB2.out.grown hg4 HB2.out.size (fun j hj => HW2.out.ge_base j hj)); have HW4 := Lib.hid hown4; clear hown4 hg4))
              go_roundw
              case rel => exact ⟨k + 1, _, by omega, by go_num, HW4.out.base_le HB1'.out.size, HP.out, HB1'.out.trans (HB4.out.mono HB1'.out.size)⟩
              case measure => simp [intOf]; omega
            · go_wp2_with fail
              go_quiet (fail)
              rename Nat => nA
              go_wp2_with fail
              go_quiet (fail)
              rename Nat => nB
              obtain ⟨Y, hY⟩ : ∃ Y, Y = (wr.drewN nA).drewN nB := ⟨_, rfl⟩
              have hbY : Below W2.heap.size W2 Y := by rw [hY]; exact below_drewN' (below_drewN' HJ.out.2 nA) nB
              have hSY : Sl Y W2.heap.size (some ⟨g, 0, none⟩) (L.map (Value.int .i64)) := by rw [hY]; exact (((HO1.out.2.1.below HJ.out.2)).drewN nA).drewN nB
              have hbs : W2.heap.size ≤ Y.heap.size := hbY.size
              have hez : Y.heap.size = wr.heap.size := by rw [hY]; rfl
              have hE0 : OwnI (Y.alloc (.cells #[] 3)) W2.heap.size 3 (.slice (some ⟨Y.heap.size, 0, none⟩) 0 0) [] := OwnV.lit Y W2.heap.size 3 [] rfl hbs (by decide) _ rfl
              have HB0 := Lib.hid (hbY.alloc hbs (.cells #[] 3))
              have hT0 : Sl (Y.alloc (.cells #[] 3)) W2.heap.size (some ⟨g, 0, none⟩) ((L.take j).map (Value.int .i64)) := by rw [List.map_take]; exact (hSY.alloc hbs _).take j
              have HT0 := Lib.hid hT0
              have HE0 := Lib.hid hE0
              first | rw [← hY] | (rw [show wr.drewN (nA + nB) = Y by rw [hY]; exact (World.drewN_drewN wr nA nB).symm])
              clear hY hbY hSY hbs hE0 hT0 hez
              have HJL : Hid (j = (L.take j).length) := Lib.hid (by have := HNL.out; simp; omega)
              have HLL : Hid (([] : List Int).length + (L.take j).length ≤ 4398046511104 ∧ (L.take j).length + 1 ≤ 4398046511104 ∧ (L.take j ++ [z]).length + (L.drop j).length ≤ 4398046511104 ∧ j - j = (L.drop j).length ∧ L.length = j) := Lib.hid (by have := HNL.out; simp; omega)
              go_wp2_with (first
                | (refine wpList_append_sl _ rfl (.tmp 61) (.tmp 64) 34 rfl 3 Tryz.underlying34 int_info rfl (by omega) W2.heap.size _ [] rfl HE0.out W2.heap.size _ _ _ (L.take j) rfl HJL.out (fun e => by cases e) HT0.out (by intro y _; rfl) HLL.out.1 HB0.out.size ?_; intro v1 w1 hown1 hg1; have HB1 := Lib.hid (HB0.out.grown hg1 HB0.out.size (fun j hj => HE0.out.ge_base j hj)); have HW1 := Lib.hid hown1; have a1 := (HB1.out.cell (p := ⟨wo.heap.size, 1, none⟩) HLT1.out).trans HG1.out; clear hown1 hg1)
                | (refine wpList_append_intN _ rfl (.tmp 66) (.tmp 69) 34 rfl W2.heap.size 3 Tryz.underlying34 int_info _ _ w1 z rfl rfl HW1.out _ rfl rfl HLL.out.2.1 HB1.out.size ?_; intro v2 w2 hown2 hg2; have HB2 := Lib.hid (HB1.out.grown hg2 HB1.out.size (fun j hj => HW1.out.ge_base j hj)); have HW2 := Lib.hid hown2; have HS2 := Lib.hid (HO1.out.2.1.below HB2.out); clear hown2 hg2)
                | (refine wpList_cut _ rfl (.tmp 72) (.tmp 73) 34 rfl 3 Tryz.underlying34 elem_int (size_int _) _ _ _ j rfl rfl (by omega) W2.heap.size (L.map (Value.int .i64)) HS2.out (by intro h9; rw [List.length_map] at h9; have := HNL.out; omega) ?_; intro A3 c3 hA3' hc3 hc3' hn3 hn3'; have HA3' := Lib.hid (And.intro hA3' (And.intro hn3 (And.intro hn3' hc3))); clear hA3' hn3 hn3')
                | (refine wpList_append_sl _ rfl (.tmp 71) (.tmp 74) 34 rfl 3 Tryz.underlying34 int_info rfl (by omega) W2.heap.size _ _ rfl HW2.out W2.heap.size _ _ _ (L.drop j) rfl (by have h9 := HLL.out.2.2.2.1; omega) (fun e => absurd (HA3'.out.2.2.1 e) (by intro q; cases q)) (by have h1 := HA3'.out.1; rwa [← List.map_drop] at h1) (by intro y _; rfl) HLL.out.2.2.1 HB2.out.size ?_; intro v4 w4 hown4 hg4; have HB4 := Lib.hid (HB2.out.grown hg4 HB2.out.size (fun j hj => HW2.out.ge_base j hj)); have HW4 := Lib.hid hown4; clear hown4 hg4))
              go_roundw
              case rel => exact ⟨k + 1, _, by omega, by go_num, HW4.out.base_le HB1'.out.size, HP.out, HB1'.out.trans (HB4.out.mono HB1'.out.size)⟩
              case measure => simp [intOf]; omega
    · have hkk : k = m := by omega
      have HN := Lib.hid (show NextTo q.ans q.ans.length L by have h1 := hnt; rw [hkk, HM.out] at h1; exact h1)
      have HLL := Lib.hid (show L.length ≤ 1000000000 by have := hnt.len; omega)
      clear hown hnt hb
      go_wp2_with fail
      go_ret
      exact ⟨_, L, rfl, HNX.out _ HN.out.all, HO.out.1, HLL.out, HO.out.2.2⟩
theorem next_any (w : World) (p : Prot) (h : ProtAt w w.heap.size p) (hc : CntLe p 1000000000) (z : Int) :
    Calls Tryz.prog 17 #[.agg #[.string p.name, .int .i64 p.ver, .slice p.qA p.qs.length p.qc], .int .i64 z] w (RetNx p z w) := by
  by_cases hz : z < 0 ∨ p.qs.length ≤ z
  · exact next_out w p z hz
  · obtain ⟨i, rfl⟩ := Int.eq_ofNat_of_zero_le (show 0 ≤ z by omega)
    obtain ⟨q, hq⟩ : ∃ q, p.qs[i]? = some q := ⟨p.qs[i]'(by omega), by simp⟩
    exact next_in w p h hc i q hq
end Go.Proofs.YtbbklideciappaaGreatDoor
