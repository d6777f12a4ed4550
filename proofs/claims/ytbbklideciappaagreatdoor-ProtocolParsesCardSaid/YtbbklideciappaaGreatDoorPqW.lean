/-
  protocol: validAnswer, validQuestion, Validate.
-/
import Derived.Test.YtbbklideciappaaGreatDoorPqV
namespace Go.Proofs.YtbbklideciappaaGreatDoor
open Go.RowKit

theorem fresh4 (w : World) (u0 u1 u2 u3 : Value) (t : TypeId) : (w.alloc (.cells #[u0, u1, u2, u3] t)).cell? ⟨w.heap.size, 0, none⟩ = some u0 ∧ (w.alloc (.cells #[u0, u1, u2, u3] t)).cell? ⟨w.heap.size, 1, none⟩ = some u1 ∧ (w.alloc (.cells #[u0, u1, u2, u3] t)).cell? ⟨w.heap.size, 2, none⟩ = some u2 ∧ (w.alloc (.cells #[u0, u1, u2, u3] t)).cell? ⟨w.heap.size, 3, none⟩ = some u3 :=
  ⟨cell_new w [u0, u1, u2, u3] t (j := 0) rfl, cell_new w [u0, u1, u2, u3] t (j := 1) rfl, cell_new w [u0, u1, u2, u3] t (j := 2) rfl, cell_new w [u0, u1, u2, u3] t (j := 3) rfl⟩
theorem fresh2 (w : World) (u0 u1 : Value) (t : TypeId) : (w.alloc (.cells #[u0, u1] t)).cell? ⟨w.heap.size, 0, none⟩ = some u0 ∧ (w.alloc (.cells #[u0, u1] t)).cell? ⟨w.heap.size, 1, none⟩ = some u1 :=
  ⟨cell_new w [u0, u1] t (j := 0) rfl, cell_new w [u0, u1] t (j := 1) rfl⟩
theorem fresh3 (w : World) (u0 u1 u2 : Value) (t : TypeId) : (w.alloc (.cells #[u0, u1, u2] t)).cell? ⟨w.heap.size, 0, none⟩ = some u0 ∧ (w.alloc (.cells #[u0, u1, u2] t)).cell? ⟨w.heap.size, 1, none⟩ = some u1 ∧ (w.alloc (.cells #[u0, u1, u2] t)).cell? ⟨w.heap.size, 2, none⟩ = some u2 :=
  ⟨cell_new w [u0, u1, u2] t (j := 0) rfl, cell_new w [u0, u1, u2] t (j := 1) rfl, cell_new w [u0, u1, u2] t (j := 2) rfl⟩
theorem below_drewN' {B : Nat} {w w' : World} (h : Below B w w') (n : Nat) : Below B w (w'.drewN n) := ⟨h.os, h.tape, h.output, h.size, h.block⟩
set_option maxHeartbeats 2000000 in
theorem validAnswer_any (a : Ans) (n : Int) (w : World) : Calls Tryz.prog 45 #[.agg #[.string a.text, .int .i64 a.next, .int .i64 a.urg, .string a.code], .int .i64 n] w fun e w' => e = .returned (.bool (tb (AnsOk n a))) ∧ Below w.heap.size w w' := by
  obtain ⟨t, nx, u, c⟩ := a
  dsimp only
  have HB := Lib.hid (below_new w (.cells #[.string t, .int .i64 nx, .int .i64 u, .string c] 45))
  obtain ⟨f0, f1, f2, f3⟩ := fresh4 w (.string t) (.int .i64 nx) (.int .i64 u) (.string c) 45
  obtain ⟨W1, hW1⟩ : ∃ W1, W1 = w.alloc (.cells #[.string t, .int .i64 nx, .int .i64 u, .string c] 45) := ⟨_, rfl⟩
  rw [← hW1] at f0 f1 f2 f3 HB
  by_cases hp : PhraseOk t 100
  · have HP := Lib.hid (fun X => isPhrase_any t 100 (by omega) 100 rfl X)
    rw [tb_true hp] at HP
    have HPP := Lib.hid hp
    clear hp
    by_cases hn : nx = -1
    · have HNN := Lib.hid hn
      have en : (nx == -1) = true := by rw [hn]; rfl
      have HU := Lib.hid (fun X => isUrgency_any u X)
      have HC := Lib.hid (fun X => isCode_any c X)
      clear hn
      by_cases hu : UrgOk u
      · rw [tb_true hu] at HU
        by_cases hc : CodeOk c
        · rw [tb_true hc] at HC
          have HY := Lib.hid (show AnsOk n ⟨t, nx, u, c⟩ from ⟨HPP.out, .inl ⟨HNN.out, hu, hc⟩⟩)
          clear hc hu
          go_enter Tryz.func45, Tryz.ntmps45
          go_wp2_with fail
          rw [← hW1]
          clear hW1
          refine (HP.out _).mono ?_
          rintro e w' ⟨rfl, rfl⟩
          go_wp2_with fail
          refine (HU.out _).mono ?_
          rintro e w' ⟨rfl, rfl⟩
          go_wp2_with fail
          refine (HC.out _).mono ?_
          rintro e w' ⟨rfl, rfl⟩
          go_wp2_with fail
          go_ret
          exact ⟨ret_yes HY.out, HB.out⟩
        · rw [tb_false hc] at HC
          have HN := Lib.hid (show ¬ AnsOk n ⟨t, nx, u, c⟩ from fun h => by
            have e := HNN.out
            rcases h.2 with h | h
            · exact hc h.2.2
            · have := h.1.1; dsimp only at this; omega)
          clear hc hu
          go_enter Tryz.func45, Tryz.ntmps45
          go_wp2_with fail
          rw [← hW1]
          clear hW1
          refine (HP.out _).mono ?_
          rintro e w' ⟨rfl, rfl⟩
          go_wp2_with fail
          refine (HU.out _).mono ?_
          rintro e w' ⟨rfl, rfl⟩
          go_wp2_with fail
          refine (HC.out _).mono ?_
          rintro e w' ⟨rfl, rfl⟩
          go_wp2_with fail
          go_ret
          exact ⟨ret_no HN.out, HB.out⟩
      · rw [tb_false hu] at HU
        have HN := Lib.hid (show ¬ AnsOk n ⟨t, nx, u, c⟩ from fun h => by
          have e := HNN.out
          rcases h.2 with h | h
          · exact hu h.2.1
          · have := h.1.1; dsimp only at this; omega)
        clear hu
        go_enter Tryz.func45, Tryz.ntmps45
        go_wp2_with fail
        rw [← hW1]
        clear hW1
        refine (HP.out _).mono ?_
        rintro e w' ⟨rfl, rfl⟩
        go_wp2_with fail
        refine (HU.out _).mono ?_
        rintro e w' ⟨rfl, rfl⟩
        go_wp2_with fail
        go_ret
        exact ⟨ret_no HN.out, HB.out⟩
    · have en : (nx == -1) = false := beq_eq_false_iff_ne.2 hn
      by_cases h : (0 ≤ nx ∧ nx < n) ∧ u = 0 ∧ c.size = 0
      · have HY := Lib.hid (show AnsOk n ⟨t, nx, u, c⟩ from ⟨HPP.out, .inr h⟩)
        obtain ⟨⟨h1, h2⟩, h3, h4⟩ := h
        have g1 : decide (0 ≤ nx) = true := decide_eq_true h1
        have g2 : decide (nx < n) = true := decide_eq_true h2
        have g3 : (u == 0) = true := beq_iff_eq.2 h3
        have g4 := emp_yes h4
        clear h1 h2 h3 h4 hn
        go_enter Tryz.func45, Tryz.ntmps45
        go_wp2_with fail
        rw [← hW1]
        clear hW1
        refine (HP.out _).mono ?_
        rintro e w' ⟨rfl, rfl⟩
        go_wp2_with fail
        go_ret
        exact ⟨ret_yes HY.out, HB.out⟩
      · have HN := Lib.hid (show ¬ AnsOk n ⟨t, nx, u, c⟩ from fun q => by
          rcases q.2 with q | q
          · exact hn q.1
          · exact h q)
        by_cases h1 : 0 ≤ nx
        · have g1 : decide (0 ≤ nx) = true := decide_eq_true h1
          by_cases h2 : nx < n
          · have g2 : decide (nx < n) = true := decide_eq_true h2
            by_cases h3 : u = 0
            · have g3 : (u == 0) = true := beq_iff_eq.2 h3
              have g4 : c.toList.isEmpty = false := emp_no (by
                rcases Nat.eq_zero_or_pos c.size with q | q
                · exact absurd ⟨⟨h1, h2⟩, h3, q⟩ h
                · exact q)
              clear h1 h2 h3 hn h
              go_enter Tryz.func45, Tryz.ntmps45
              go_wp2_with fail
              rw [← hW1]
              clear hW1
              refine (HP.out _).mono ?_
              rintro e w' ⟨rfl, rfl⟩
              go_wp2_with fail
              go_ret
              exact ⟨ret_no HN.out, HB.out⟩
            · have g3 : (u == 0) = false := beq_eq_false_iff_ne.2 h3
              clear h1 h2 h3 hn h
              go_enter Tryz.func45, Tryz.ntmps45
              go_wp2_with fail
              rw [← hW1]
              clear hW1
              refine (HP.out _).mono ?_
              rintro e w' ⟨rfl, rfl⟩
              go_wp2_with fail
              go_ret
              exact ⟨ret_no HN.out, HB.out⟩
          · have g2 : decide (nx < n) = false := decide_eq_false h2
            clear h1 h2 hn h
            go_enter Tryz.func45, Tryz.ntmps45
            go_wp2_with fail
            rw [← hW1]
            clear hW1
            refine (HP.out _).mono ?_
            rintro e w' ⟨rfl, rfl⟩
            go_wp2_with fail
            go_ret
            exact ⟨ret_no HN.out, HB.out⟩
        · have g1 : decide (0 ≤ nx) = false := decide_eq_false h1
          clear h1 hn h
          go_enter Tryz.func45, Tryz.ntmps45
          go_wp2_with fail
          rw [← hW1]
          clear hW1
          refine (HP.out _).mono ?_
          rintro e w' ⟨rfl, rfl⟩
          go_wp2_with fail
          go_ret
          exact ⟨ret_no HN.out, HB.out⟩
  · have HP := Lib.hid (fun X => isPhrase_any t 100 (by omega) 100 rfl X)
    rw [tb_false hp] at HP
    have HN := Lib.hid (show ¬ AnsOk n ⟨t, nx, u, c⟩ from fun h => hp h.1)
    clear hp
    go_enter Tryz.func45, Tryz.ntmps45
    go_wp2_with fail
    rw [← hW1]
    clear hW1
    refine (HP.out _).mono ?_
    rintro e w' ⟨rfl, rfl⟩
    go_wp2_with fail
    go_ret
    exact ⟨ret_no HN.out, HB.out⟩
-- END OF validAnswer
set_option maxHeartbeats 4000000 in
theorem validQuestion_any (w : World) (q : Ques) (n : Int) (h : RecsAt cellsA w w.heap.size q.aA q.ans) :
    Calls Tryz.prog 23 #[.agg #[.string q.text, .slice q.aA q.ans.length q.ac], .int .i64 n] w fun e w' => e = .returned (.bool (tb (QuesOk n q))) ∧ Below w.heap.size w w' := by
  obtain ⟨m, hm⟩ : ∃ m, m = q.ans.length := ⟨_, rfl⟩
  have HM := Lib.hid hm
  rw [← hm]
  have HA := Lib.hid h
  have HB := Lib.hid (below_new w (.cells #[.string q.text, .slice q.aA m q.ac] 43))
  obtain ⟨f0, f1⟩ := fresh2 w (.string q.text) (.slice q.aA m q.ac) 43
  obtain ⟨W1, hW1⟩ : ∃ W1, W1 = w.alloc (.cells #[.string q.text, .slice q.aA m q.ac] 43) := ⟨_, rfl⟩
  rw [← hW1] at f0 f1 HB
  clear h hm
  by_cases hp : PhraseOk q.text 200
  · have HP := Lib.hid (fun X => isPhrase_any q.text 200 (by omega) 200 rfl X)
    rw [tb_true hp] at HP
    have HPP := Lib.hid hp
    clear hp
    by_cases hl : 1 ≤ m
    · by_cases hl2 : m ≤ 16
      · have d1 : decide ((m : Int) < 1) = false := decide_eq_false (by omega)
        have d2 : decide ((16 : Int) < (m : Int)) = false := decide_eq_false (by omega)
        go_enter Tryz.func23, Tryz.ntmps23
        go_wp2_with fail
        rw [← hW1]
        clear hW1
        refine (HP.out _).mono ?_
        rintro e w' ⟨rfl, rfl⟩
        go_wp2_with fail
        go_loopw [26] (fun i X => ∃ k : Nat, k ≤ m ∧ i = .int .i64 k ∧ Below w.heap.size w X ∧ ∀ a ∈ q.ans.take k, AnsOk n a) (fun i _ => m - (intOf i).toNat)
        case atStart => exact ⟨0, by omega, rfl, HB.out, by simp⟩
        case round =>
          obtain ⟨k, hk, rfl, hb, hok⟩ := hrel
          have HOK := Lib.hid hok
          by_cases hlt : k < m
          · have hlt' : (k : Int) < (m : Int) := by omega
            obtain ⟨t, ht⟩ : ∃ t, q.ans[k]? = some t := ⟨q.ans[k]'(by have := HM.out; omega), by simp⟩
            obtain ⟨b, o, hA, hbb, q0, q1, q2, q3⟩ := ans_at (RecsAt.below HA.out hb) ht
            rw [hA]
            obtain ⟨g0, g1, g2, g3⟩ := fresh4 wr (.string t.text) (.int .i64 t.next) (.int .i64 t.urg) (.string t.code) 45
            have HB1 := Lib.hid (hb.alloc hb.size (.cells #[.string t.text, .int .i64 t.next, .int .i64 t.urg, .string t.code] 45))
            obtain ⟨W2, hW2⟩ : ∃ W2, W2 = wr.alloc (.cells #[.string t.text, .int .i64 t.next, .int .i64 t.urg, .string t.code] 45) := ⟨_, rfl⟩
            rw [← hW2] at g0 g1 g2 g3 HB1
            have HT := Lib.hid ht
            have HV := Lib.hid (fun X => validAnswer_any t n X)
            clear ht hok hA hb
            by_cases hv : AnsOk n t
            · rw [tb_true hv] at HV
              have HVV := Lib.hid hv
              clear hv
              go_wp2_with fail
              rw [← hW2]
              clear hW2
              refine (HV.out _).mono ?_
              rintro e w' ⟨rfl, hb'⟩
              have HB2 := Lib.hid (HB1.out.trans (hb'.mono HB1.out.size))
              clear hb'
              go_wp2_with fail
              go_roundw
              case rel => exact ⟨k + 1, by omega, by go_num, HB2.out, (all_take_iff HT.out).2 ⟨HOK.out, HVV.out⟩⟩
              case measure => simp [intOf]; omega
            · rw [tb_false hv] at HV
              have HVV := Lib.hid hv
              clear hv
              go_wp2_with fail
              rw [← hW2]
              clear hW2
              refine (HV.out _).mono ?_
              rintro e w' ⟨rfl, hb'⟩
              have HB2 := Lib.hid (HB1.out.trans (hb'.mono HB1.out.size))
              clear hb'
              go_wp2_with fail
              go_ret
              exact ⟨ret_no (fun h => HVV.out (h.2.2 _ (List.mem_of_getElem? HT.out))), HB2.out⟩
          · have hkk : k = m := by omega
            subst hkk
            have HBB := Lib.hid hb
            clear hok hb
            go_wp2_with fail
            go_ret
            refine ⟨ret_yes ⟨HPP.out, by have := HM.out; omega, ?_⟩, HBB.out⟩
            have := HOK.out
            rwa [HM.out, List.take_length] at this
      · have d1 : decide ((m : Int) < 1) = false := decide_eq_false (by omega)
        have d2 : decide ((16 : Int) < (m : Int)) = true := decide_eq_true (by omega)
        have HN := Lib.hid (show ¬ QuesOk n q from fun h => by have := h.2.1; have := HM.out; omega)
        go_enter Tryz.func23, Tryz.ntmps23
        go_wp2_with fail
        rw [← hW1]
        clear hW1
        refine (HP.out _).mono ?_
        rintro e w' ⟨rfl, rfl⟩
        go_wp2_with fail
        go_ret
        exact ⟨ret_no HN.out, HB.out⟩
    · have d1 : decide ((m : Int) < 1) = true := decide_eq_true (by omega)
      have HN := Lib.hid (show ¬ QuesOk n q from fun h => by have := h.2.1; have := HM.out; omega)
      go_enter Tryz.func23, Tryz.ntmps23
      go_wp2_with fail
      rw [← hW1]
      clear hW1
      refine (HP.out _).mono ?_
      rintro e w' ⟨rfl, rfl⟩
      go_wp2_with fail
      go_ret
      exact ⟨ret_no HN.out, HB.out⟩
  · have HP := Lib.hid (fun X => isPhrase_any q.text 200 (by omega) 200 rfl X)
    rw [tb_false hp] at HP
    have HN := Lib.hid (show ¬ QuesOk n q from fun h => hp h.1)
    clear hp
    go_enter Tryz.func23, Tryz.ntmps23
    go_wp2_with fail
    rw [← hW1]
    clear hW1
    refine (HP.out _).mono ?_
    rintro e w' ⟨rfl, rfl⟩
    go_wp2_with fail
    go_ret
    exact ⟨ret_no HN.out, HB.out⟩
-- END OF validQuestion
def RetVd (p : Prot) (w : World) (e : Ending) (w' : World) : Prop := ∃ a b, Says p a b ∧ e = .returned (.tuple #[.int .i64 a, .int .i64 b]) ∧ Below w.heap.size w w'
theorem qsTo_succ {p : Prot} {k : Nat} {t : Ques} (ht : p.qs[k]? = some t) (h : QsTo p k) (hq : QuesOk p.qs.length t) : QsTo p (k + 1) := (all_take_iff ht).2 ⟨h, hq⟩
theorem qsTo_all {p : Prot} (h : QsTo p p.qs.length) : ∀ q ∈ p.qs, QuesOk p.qs.length q := by
  unfold QsTo at h
  rwa [List.take_length] at h
set_option maxHeartbeats 4000000 in
theorem validate_any (w : World) (p : Prot) (h : ProtAt w w.heap.size p) (hl : p.qs.length ≤ 9223372036854775807) :
    Calls Tryz.prog 11 #[.agg #[.string p.name, .int .i64 p.ver, .slice p.qA p.qs.length p.qc]] w (RetVd p w) := by
  obtain ⟨m, hm⟩ : ∃ m, m = p.qs.length := ⟨_, rfl⟩
  have HM := Lib.hid hm
  rw [← hm] at hl ⊢
  have HA := Lib.hid h
  have HB := Lib.hid (below_new w (.cells #[.string p.name, .int .i64 p.ver, .slice p.qA m p.qc] 24))
  obtain ⟨f0, f1, f2⟩ := fresh3 w (.string p.name) (.int .i64 p.ver) (.slice p.qA m p.qc) 24
  have hz := lt_new w (.cells #[.string p.name, .int .i64 p.ver, .slice p.qA m p.qc] 24)
  obtain ⟨W1, hW1⟩ : ∃ W1, W1 = w.alloc (.cells #[.string p.name, .int .i64 p.ver, .slice p.qA m p.qc] 24) := ⟨_, rfl⟩
  rw [← hW1] at f0 f1 f2 HB hz
  have HF := Lib.hid (And.intro f0 (And.intro f1 hz))
  clear h hm hz
  go_enter Tryz.func11, Tryz.ntmps11
  go_wp2_with fail
  rw [← hW1]
  clear hW1
  go_loopw [13] (fun i X => ∃ k : Nat, k ≤ m ∧ i = .int .i64 k ∧ Below W1.heap.size W1 X ∧ QsTo p k) (fun i _ => m - (intOf i).toNat)
  case atStart => exact ⟨0, by omega, rfl, Below.refl _ _, by unfold QsTo; simp⟩
  case round =>
    obtain ⟨k, hk, rfl, hb1, hok⟩ := hrel
    have HOK := Lib.hid hok
    have hb := HB.out.trans (hb1.mono HB.out.size)
    have HB0 := Lib.hid hb1
    by_cases hlt : k < m
    · have hlt' : (k : Int) < (m : Int) := by omega
      obtain ⟨t, ht⟩ : ∃ t, p.qs[k]? = some t := ⟨p.qs[k]'(by have := HM.out; omega), by simp⟩
      have hat := ProtAt.below HA.out hb
      obtain ⟨b, o, hA, hbb, q0, q1, hrec⟩ := ques_at hat ht
      rw [hA]
      obtain ⟨g0, g1⟩ := fresh2 wr (.string t.text) (.slice t.aA t.ans.length t.ac) 43
      have HB1 := Lib.hid (hb1.alloc hb1.size (.cells #[.string t.text, .slice t.aA t.ans.length t.ac] 43))
      have hbn : Below wr.heap.size wr (wr.alloc (.cells #[.string t.text, .slice t.aA t.ans.length t.ac] 43)) := below_new _ _
      have HR := Lib.hid (RecsAt.more (RecsAt.below hrec (hbn.mono hb.size)) (Nat.le_trans hb.size hbn.size))
      obtain ⟨W2, hW2⟩ : ∃ W2, W2 = wr.alloc (.cells #[.string t.text, .slice t.aA t.ans.length t.ac] 43) := ⟨_, rfl⟩
      rw [← hW2] at g0 g1 HB1 HR
      have HT := Lib.hid ht
      have HV := Lib.hid (fun (z : Int) => validQuestion_any W2 t z HR.out)
      clear ht hok hA hb hb1 hrec hat hbn
      by_cases hv : QuesOk p.qs.length t
      · have HV2 := Lib.hid (HV.out (p.qs.length : Int))
        rw [tb_true hv, ← HM.out] at HV2
        have HVV := Lib.hid hv
        clear hv HV
        go_wp2_with fail
        rw [← hW2]
        clear hW2
        refine HV2.out.mono ?_
        rintro e w' ⟨rfl, hb'⟩
        have HB2 := Lib.hid (HB1.out.trans (hb'.mono HB1.out.size))
        clear hb'
        go_wp2_with fail
        go_roundw
        case rel => exact ⟨k + 1, by omega, by go_num, HB2.out, qsTo_succ HT.out HOK.out HVV.out⟩
        case measure => simp [intOf]; omega
      · have HV2 := Lib.hid (HV.out (p.qs.length : Int))
        rw [tb_false hv, ← HM.out] at HV2
        have HVV := Lib.hid hv
        clear hv HV
        go_wp2_with fail
        rw [← hW2]
        clear hW2
        refine HV2.out.mono ?_
        rintro e w' ⟨rfl, hb'⟩
        have HB2 := Lib.hid (HB1.out.trans (hb'.mono HB1.out.size))
        clear hb'
        go_wp2_with fail
        go_ret2
        exact ⟨k, 1, .bad k t HT.out HOK.out HVV.out, rfl, HB.out.trans (HB2.out.mono HB.out.size)⟩
    · have hkk : k = m := by omega
      subst hkk
      have r0 := (hb1.cell (p := ⟨w.heap.size, 0, none⟩) HF.out.2.2).trans HF.out.1
      have r1 := (hb1.cell (p := ⟨w.heap.size, 1, none⟩) HF.out.2.2).trans HF.out.2.1
      have HBB := Lib.hid hb
      have HQ : Hid (∀ q ∈ p.qs, QuesOk p.qs.length q) := Lib.hid (qsTo_all (by rw [← HM.out]; exact hok))
      have HNM := Lib.hid (fun X => isName_any p.name X)
      have HVR := Lib.hid (fun X => isVersion_any p.ver X)
      clear hok hb hb1
      by_cases hn : NameOk p.name
      · rw [tb_true hn] at HNM
        by_cases hv : VerOk p.ver
        · rw [tb_true hv] at HVR
          by_cases h1 : 1 ≤ k
          · have d1 : decide ((k : Int) < 1) = false := decide_eq_false (by omega)
            by_cases h2 : k ≤ 64
            · have d2 : decide ((64 : Int) < (k : Int)) = false := decide_eq_false (by omega)
              have HY := Lib.hid (show ProtOk p from ⟨⟨hn, hv, by have := HM.out; omega, by have := HM.out; omega⟩, HQ.out⟩)
              clear hn hv
              go_wp2_with fail
              refine (HNM.out _).mono ?_
              rintro e w' ⟨rfl, rfl⟩
              go_wp2_with fail
              refine (HVR.out _).mono ?_
              rintro e w' ⟨rfl, rfl⟩
              go_wp2_with fail
              go_ret2
              exact ⟨-1, 0, .fine HY.out, rfl, HBB.out⟩
            · have d2 : decide ((64 : Int) < (k : Int)) = true := decide_eq_true (by omega)
              have HN := Lib.hid (show ¬ HeadOk p from fun h => by have := h.2.2; have := HM.out; omega)
              clear hn hv
              go_wp2_with fail
              refine (HNM.out _).mono ?_
              rintro e w' ⟨rfl, rfl⟩
              go_wp2_with fail
              refine (HVR.out _).mono ?_
              rintro e w' ⟨rfl, rfl⟩
              go_wp2_with fail
              go_ret2
              exact ⟨-1, 1, .head HQ.out HN.out, rfl, HBB.out⟩
          · have d1 : decide ((k : Int) < 1) = true := decide_eq_true (by omega)
            have HN := Lib.hid (show ¬ HeadOk p from fun h => by have := h.2.2; have := HM.out; omega)
            clear hn hv
            go_wp2_with fail
            refine (HNM.out _).mono ?_
            rintro e w' ⟨rfl, rfl⟩
            go_wp2_with fail
            refine (HVR.out _).mono ?_
            rintro e w' ⟨rfl, rfl⟩
            go_wp2_with fail
            go_ret2
            exact ⟨-1, 1, .head HQ.out HN.out, rfl, HBB.out⟩
        · rw [tb_false hv] at HVR
          have HN := Lib.hid (show ¬ HeadOk p from fun h => hv h.2.1)
          clear hn hv
          go_wp2_with fail
          refine (HNM.out _).mono ?_
          rintro e w' ⟨rfl, rfl⟩
          go_wp2_with fail
          refine (HVR.out _).mono ?_
          rintro e w' ⟨rfl, rfl⟩
          go_wp2_with fail
          go_ret2
          exact ⟨-1, 1, .head HQ.out HN.out, rfl, HBB.out⟩
      · rw [tb_false hn] at HNM
        have HN := Lib.hid (show ¬ HeadOk p from fun h => hn h.1)
        clear hn
        go_wp2_with fail
        refine (HNM.out _).mono ?_
        rintro e w' ⟨rfl, rfl⟩
        go_wp2_with fail
        go_ret2
        exact ⟨-1, 1, .head HQ.out HN.out, rfl, HBB.out⟩
-- END OF Validate
end Go.Proofs.YtbbklideciappaaGreatDoor
