/-
  samaritanref12: question, Right.
-/
import Derived.Test.YtbbklideciappaaGreatDoorPqX
namespace Go.Proofs.YtbbklideciappaaGreatDoor
open Go.RowKit

set_option maxHeartbeats 4000000 in
theorem question_any (w : World) (q : Ques) (n : Int) (h : RecsAt cellsA w w.heap.size q.aA q.ans) (hq : QuesWf q) :
    Calls Tryz.prog 26 #[.agg #[.string q.text, .slice q.aA q.ans.length q.ac], .int .i64 n] w fun e w' => e = .returned (.bool (tb (QuesOk n q))) ∧ Below w.heap.size w w' := by
  obtain ⟨m, hm⟩ : ∃ m, m = q.ans.length := ⟨_, rfl⟩
  have HM := Lib.hid hm
  have hml : m ≤ 9223372036854775807 := by have := hq.len; omega
  rw [← hm]
  have HA := Lib.hid h
  have HQ := Lib.hid hq
  have HB := Lib.hid (below_new w (.cells #[.string q.text, .slice q.aA m q.ac] 43))
  obtain ⟨f0, f1⟩ := fresh2 w (.string q.text) (.slice q.aA m q.ac) 43
  have hz := lt_new w (.cells #[.string q.text, .slice q.aA m q.ac] 43)
  obtain ⟨W1, hW1⟩ : ∃ W1, W1 = w.alloc (.cells #[.string q.text, .slice q.aA m q.ac] 43) := ⟨_, rfl⟩
  rw [← hW1] at f0 f1 HB hz
  have HF := Lib.hid (And.intro f0 (And.intro f1 hz))
  clear h hm hq hz
  go_enter Tryz.func26, Tryz.ntmps26
  go_wp2_with fail
  rw [← hW1]
  clear hW1
  go_loopw [10] (fun i X => ∃ k : Nat, k ≤ m ∧ i = .int .i64 k ∧ Below W1.heap.size W1 X ∧ ∀ a ∈ q.ans.take k, AnsOk n a) (fun i _ => m - (intOf i).toNat)
  case atStart => exact ⟨0, by omega, rfl, Below.refl _ _, by simp⟩
  case round =>
    obtain ⟨k, hk, rfl, hb1, hok⟩ := hrel
    have HOK := Lib.hid hok
    have hb := HB.out.trans (hb1.mono HB.out.size)
    by_cases hlt : k < m
    · have hlt' : (k : Int) < (m : Int) := by omega
      obtain ⟨t, ht⟩ : ∃ t, q.ans[k]? = some t := ⟨q.ans[k]'(by have := HM.out; omega), by simp⟩
      obtain ⟨b, o, hA, hbb, q0, q1, q2, q3⟩ := ans_at (RecsAt.below HA.out hb) ht
      rw [hA]
      obtain ⟨g0, g1, g2, g3⟩ := fresh4 wr (.string t.text) (.int .i64 t.next) (.int .i64 t.urg) (.string t.code) 45
      have HB1 := Lib.hid (hb1.alloc hb1.size (.cells #[.string t.text, .int .i64 t.next, .int .i64 t.urg, .string t.code] 45))
      obtain ⟨W2, hW2⟩ : ∃ W2, W2 = wr.alloc (.cells #[.string t.text, .int .i64 t.next, .int .i64 t.urg, .string t.code] 45) := ⟨_, rfl⟩
      rw [← hW2] at g0 g1 g2 g3 HB1
      have HT := Lib.hid ht
      have HV := Lib.hid (fun X => answer_any t n (HQ.out.ans t (List.mem_of_getElem? ht)).code X)
      clear ht hok hA hb hb1
      by_cases hv : AnsOk n t
      · rw [tb_true hv] at HV
        have HVV := Lib.hid hv
        clear hv
        go_wp2_with fail
        rw [← hW2]
        clear hW2
        refine (HV.out _).mono ?_
        rintro e w' ⟨rfl, hb'⟩
        have HB2 := Lib.hid (HB1.out.trans (hb'.mono HB1.out.size))
        clear hb'
        go_wp2_with fail
        go_roundw
        case rel => exact ⟨k + 1, by omega, by go_num, HB2.out, (all_take_iff HT.out).2 ⟨HOK.out, HVV.out⟩⟩
        case measure => simp [intOf]; omega
      · rw [tb_false hv] at HV
        have HVV := Lib.hid hv
        clear hv
        go_wp2_with fail
        rw [← hW2]
        clear hW2
        refine (HV.out _).mono ?_
        rintro e w' ⟨rfl, hb'⟩
        have HB2 := Lib.hid (HB1.out.trans (hb'.mono HB1.out.size))
        clear hb'
        go_wp2_with fail
        go_ret
        exact ⟨ret_no (fun h => HVV.out (h.2.2 _ (List.mem_of_getElem? HT.out))), HB.out.trans (HB2.out.mono HB.out.size)⟩
    · have hkk : k = m := by omega
      subst hkk
      have r0 := (hb1.cell (p := ⟨w.heap.size, 0, none⟩) HF.out.2.2).trans HF.out.1
      have r1 := (hb1.cell (p := ⟨w.heap.size, 1, none⟩) HF.out.2.2).trans HF.out.2.1
      have HBB := Lib.hid hb
      have HAL : Hid (∀ a ∈ q.ans, AnsOk n a) := Lib.hid (by
        have := HOK.out
        rwa [HM.out, List.take_length] at this)
      clear hok hb hb1
      by_cases hp : PhraseOk q.text 200
      · have HP := Lib.hid (fun X => phrase_any q.text 200 (by omega) 200 rfl X)
        rw [tb_true hp] at HP
        have HPP := Lib.hid hp
        clear hp
        by_cases hl : 1 ≤ k
        · have d1 : decide (1 ≤ (k : Int)) = true := decide_eq_true (by omega)
          by_cases hl2 : k ≤ 16
          · have d2 : decide ((k : Int) ≤ 16) = true := decide_eq_true (by omega)
            have HY := Lib.hid (show QuesOk n q from ⟨HPP.out, by have := HM.out; omega, HAL.out⟩)
            go_wp2_with fail
            refine (HP.out _).mono ?_
            rintro e w' ⟨rfl, rfl⟩
            go_wp2_with fail
            go_ret
            exact ⟨ret_yes HY.out, HBB.out⟩
          · have d2 : decide ((k : Int) ≤ 16) = false := decide_eq_false (by omega)
            have HN := Lib.hid (show ¬ QuesOk n q from fun h => by have := h.2.1; have := HM.out; omega)
            go_wp2_with fail
            refine (HP.out _).mono ?_
            rintro e w' ⟨rfl, rfl⟩
            go_wp2_with fail
            go_ret
            exact ⟨ret_no HN.out, HBB.out⟩
        · have d1 : decide (1 ≤ (k : Int)) = false := decide_eq_false (by omega)
          have HN := Lib.hid (show ¬ QuesOk n q from fun h => by have := h.2.1; have := HM.out; omega)
          go_wp2_with fail
          refine (HP.out _).mono ?_
          rintro e w' ⟨rfl, rfl⟩
          go_wp2_with fail
          go_ret
          exact ⟨ret_no HN.out, HBB.out⟩
      · have HP := Lib.hid (fun X => phrase_any q.text 200 (by omega) 200 rfl X)
        rw [tb_false hp] at HP
        have HN := Lib.hid (show ¬ QuesOk n q from fun h => hp h.1)
        clear hp
        go_wp2_with fail
        refine (HP.out _).mono ?_
        rintro e w' ⟨rfl, rfl⟩
        go_wp2_with fail
        go_ret
        exact ⟨ret_no HN.out, HBB.out⟩
set_option maxHeartbeats 4000000 in
theorem right_any (w : World) (p : Prot) (h : ProtAt w w.heap.size p) (hwf : ProtWf p) :
    Calls Tryz.prog 12 #[.agg #[.string p.name, .int .i64 p.ver, .slice p.qA p.qs.length p.qc]] w (RetVd p w) := by
  obtain ⟨m, hm⟩ : ∃ m, m = p.qs.length := ⟨_, rfl⟩
  have HM := Lib.hid hm
  have hl : m ≤ 9223372036854775807 := by have := hwf.len; omega
  rw [← hm]
  have HA := Lib.hid h
  have HWF := Lib.hid hwf
  have HB := Lib.hid (below_new w (.cells #[.string p.name, .int .i64 p.ver, .slice p.qA m p.qc] 24))
  obtain ⟨f0, f1, f2⟩ := fresh3 w (.string p.name) (.int .i64 p.ver) (.slice p.qA m p.qc) 24
  have hz := lt_new w (.cells #[.string p.name, .int .i64 p.ver, .slice p.qA m p.qc] 24)
  obtain ⟨W1, hW1⟩ : ∃ W1, W1 = w.alloc (.cells #[.string p.name, .int .i64 p.ver, .slice p.qA m p.qc] 24) := ⟨_, rfl⟩
  rw [← hW1] at f0 f1 f2 HB hz
  have HF := Lib.hid (And.intro f0 (And.intro f1 (And.intro f2 hz)))
  clear h hm hz hwf
  go_enter Tryz.func12, Tryz.ntmps12
  go_wp2_with fail
  rw [← hW1]
  clear hW1
  go_loopw [9] (fun i X => ∃ k : Nat, k ≤ m ∧ i = .int .i64 k ∧ Below W1.heap.size W1 X ∧ QsTo p k) (fun i _ => m - (intOf i).toNat)
  case atStart => exact ⟨0, by omega, rfl, Below.refl _ _, by unfold QsTo; simp⟩
  case round =>
    obtain ⟨k, hk, rfl, hb1, hok⟩ := hrel
    have HOK := Lib.hid hok
    have hb := HB.out.trans (hb1.mono HB.out.size)
    by_cases hlt : k < m
    · have hlt' : (k : Int) < (m : Int) := by omega
      obtain ⟨t, ht⟩ : ∃ t, p.qs[k]? = some t := ⟨p.qs[k]'(by have := HM.out; omega), by simp⟩
      have hat := ProtAt.below HA.out hb
      obtain ⟨b, o, hA, hbb, q0, q1, hrec⟩ := ques_at hat ht
      rw [hA]
      obtain ⟨g0, g1⟩ := fresh2 wr (.string t.text) (.slice t.aA t.ans.length t.ac) 43
      have HB1 := Lib.hid (hb1.alloc hb1.size (.cells #[.string t.text, .slice t.aA t.ans.length t.ac] 43))
      have r2 := (hb1.cell (p := ⟨w.heap.size, 2, none⟩) HF.out.2.2.2).trans HF.out.2.2.1
      have rl : w.heap.size < wr.heap.size := Nat.lt_of_lt_of_le HF.out.2.2.2 hb1.size
      have rn : ¬ w.heap.size = wr.heap.size := by omega
      have hbn : Below wr.heap.size wr (wr.alloc (.cells #[.string t.text, .slice t.aA t.ans.length t.ac] 43)) := below_new _ _
      have HR := Lib.hid (RecsAt.more (RecsAt.below hrec (hbn.mono hb.size)) (Nat.le_trans hb.size hbn.size))
      obtain ⟨W2, hW2⟩ : ∃ W2, W2 = wr.alloc (.cells #[.string t.text, .slice t.aA t.ans.length t.ac] 43) := ⟨_, rfl⟩
      rw [← hW2] at g0 g1 HB1 HR
      have HT := Lib.hid ht
      have HV := Lib.hid (fun (z : Int) => question_any W2 t z HR.out (HWF.out.qs t (List.mem_of_getElem? ht)))
      rw [hA] at r2
      clear ht hok hA hb hb1 hrec hat hbn
      by_cases hv : QuesOk p.qs.length t
      · have HV2 := Lib.hid (HV.out (p.qs.length : Int))
        rw [tb_true hv, ← HM.out] at HV2
        have HVV := Lib.hid hv
        clear hv HV
        go_wp2_with fail
        rw [← hW2]
        clear hW2
        refine HV2.out.mono ?_
        rintro e w' ⟨rfl, hb'⟩
        have HB2 := Lib.hid (HB1.out.trans (hb'.mono HB1.out.size))
        clear hb'
        go_wp2_with fail
        go_roundw
        case rel => exact ⟨k + 1, by omega, by go_num, HB2.out, qsTo_succ HT.out HOK.out HVV.out⟩
        case measure => simp [intOf]; omega
      · have HV2 := Lib.hid (HV.out (p.qs.length : Int))
        rw [tb_false hv, ← HM.out] at HV2
        have HVV := Lib.hid hv
        clear hv HV
        go_wp2_with fail
        rw [← hW2]
        clear hW2
        refine HV2.out.mono ?_
        rintro e w' ⟨rfl, hb'⟩
        have HB2 := Lib.hid (HB1.out.trans (hb'.mono HB1.out.size))
        clear hb'
        go_wp2_with fail
        go_ret2
        exact ⟨k, 1, .bad k t HT.out HOK.out HVV.out, rfl, HB.out.trans (HB2.out.mono HB.out.size)⟩
    · have hkk : k = m := by omega
      subst hkk
      have r0 := (hb1.cell (p := ⟨w.heap.size, 0, none⟩) HF.out.2.2.2).trans HF.out.1
      have r1 := (hb1.cell (p := ⟨w.heap.size, 1, none⟩) HF.out.2.2.2).trans HF.out.2.1
      have r2 := (hb1.cell (p := ⟨w.heap.size, 2, none⟩) HF.out.2.2.2).trans HF.out.2.2.1
      have HBB := Lib.hid hb
      have HQ : Hid (∀ q ∈ p.qs, QuesOk p.qs.length q) := Lib.hid (qsTo_all (by rw [← HM.out]; exact hok))
      have HNM := Lib.hid (fun X => word_any p.name HWF.out.name X)
      clear hok hb hb1
      by_cases hn : NameOk p.name
      · rw [tb_true hn] at HNM
        by_cases hv1 : 1 ≤ p.ver
        · have v1 : decide (p.ver < 1) = false := decide_eq_false (by omega)
          by_cases hv2 : p.ver ≤ 1048576
          · have v2 : decide ((1048576 : Int) < p.ver) = false := decide_eq_false (by omega)
            by_cases h1 : 1 ≤ k
            · have d1 : decide ((k : Int) < 1) = false := decide_eq_false (by omega)
              by_cases h2 : k ≤ 64
              · have d2 : decide ((64 : Int) < (k : Int)) = false := decide_eq_false (by omega)
                have HY := Lib.hid (show ProtOk p from ⟨⟨hn, ⟨hv1, hv2⟩, by have := HM.out; omega, by have := HM.out; omega⟩, HQ.out⟩)
                clear hn hv1 hv2
                go_wp2_with fail
                refine (HNM.out _).mono ?_
                rintro e w' ⟨rfl, rfl⟩
                go_wp2_with fail
                go_ret2
                exact ⟨-1, 0, .fine HY.out, rfl, HBB.out⟩
              · have d2 : decide ((64 : Int) < (k : Int)) = true := decide_eq_true (by omega)
                have HN := Lib.hid (show ¬ HeadOk p from fun h => by have := h.2.2; have := HM.out; omega)
                clear hn hv1 hv2
                go_wp2_with fail
                refine (HNM.out _).mono ?_
                rintro e w' ⟨rfl, rfl⟩
                go_wp2_with fail
                go_ret2
                exact ⟨-1, 1, .head HQ.out HN.out, rfl, HBB.out⟩
            · have d1 : decide ((k : Int) < 1) = true := decide_eq_true (by omega)
              have HN := Lib.hid (show ¬ HeadOk p from fun h => by have := h.2.2; have := HM.out; omega)
              clear hn hv1 hv2
              go_wp2_with fail
              refine (HNM.out _).mono ?_
              rintro e w' ⟨rfl, rfl⟩
              go_wp2_with fail
              go_ret2
              exact ⟨-1, 1, .head HQ.out HN.out, rfl, HBB.out⟩
          · have v2 : decide ((1048576 : Int) < p.ver) = true := decide_eq_true (by omega)
            have HN := Lib.hid (show ¬ HeadOk p from fun h => hv2 h.2.1.2)
            clear hn hv1 hv2
            go_wp2_with fail
            refine (HNM.out _).mono ?_
            rintro e w' ⟨rfl, rfl⟩
            go_wp2_with fail
            go_ret2
            exact ⟨-1, 1, .head HQ.out HN.out, rfl, HBB.out⟩
        · have v1 : decide (p.ver < 1) = true := decide_eq_true (by omega)
          have HN := Lib.hid (show ¬ HeadOk p from fun h => hv1 h.2.1.1)
          clear hn hv1
          go_wp2_with fail
          refine (HNM.out _).mono ?_
          rintro e w' ⟨rfl, rfl⟩
          go_wp2_with fail
          go_ret2
          exact ⟨-1, 1, .head HQ.out HN.out, rfl, HBB.out⟩
      · rw [tb_false hn] at HNM
        have HN := Lib.hid (show ¬ HeadOk p from fun h => hn h.1)
        clear hn
        go_wp2_with fail
        refine (HNM.out _).mono ?_
        rintro e w' ⟨rfl, rfl⟩
        go_wp2_with fail
        go_ret2
        exact ⟨-1, 1, .head HQ.out HN.out, rfl, HBB.out⟩
end Go.Proofs.YtbbklideciappaaGreatDoor
