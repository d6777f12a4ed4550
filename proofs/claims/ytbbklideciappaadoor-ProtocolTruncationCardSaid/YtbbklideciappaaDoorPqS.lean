/-
  samaritanref12.Small: what it says of the counts (its sum of lengths may wrap).
-/
import Derived.Test.YtbbklideciappaaDoorPqW
namespace Go.Proofs.YtbbklideciappaaDoor
open Go.RowKit

def SmallN (p : Prot) : Prop := p.qs.length ≤ 70 ∧ ∀ q ∈ p.qs, q.ans.length ≤ 20
def RetSm (p : Prot) (w : World) (e : Ending) (w' : World) : Prop := (∃ b, (b = true → SmallN p) ∧ e = .returned (.bool b)) ∧ Below w.heap.size w w'
set_option maxHeartbeats 4000000 in
theorem small_any (w : World) (p : Prot) (h : ProtAt w w.heap.size p) (hwf : ProtWf p) :
    Calls Tryd.prog 5 #[.agg #[.string p.name, .int .i64 p.ver, .slice p.qA p.qs.length p.qc]] w (RetSm p w) := by
  obtain ⟨m, hm⟩ : ∃ m, m = p.qs.length := ⟨_, rfl⟩
  have HM := Lib.hid hm
  have hl : m ≤ 9223372036854775807 := by have := hwf.len; omega
  rw [← hm]
  have HA := Lib.hid h
  have HWF := Lib.hid hwf
  have HB := Lib.hid (below_new w (.cells #[.string p.name, .int .i64 p.ver, .slice p.qA m p.qc] 24))
  obtain ⟨f0, f1, f2⟩ := fresh3 w (.string p.name) (.int .i64 p.ver) (.slice p.qA m p.qc) 24
  have hz := lt_new w (.cells #[.string p.name, .int .i64 p.ver, .slice p.qA m p.qc] 24)
  obtain ⟨W1, hW1⟩ : ∃ W1, W1 = w.alloc (.cells #[.string p.name, .int .i64 p.ver, .slice p.qA m p.qc] 24) := ⟨_, rfl⟩
  rw [← hW1] at f0 f1 f2 HB hz
  have HF := Lib.hid (And.intro f0 (And.intro f1 (And.intro f2 hz)))
  clear h hm hz hwf
  go_enter Tryd.func5, Tryd.ntmps5
  go_wp2_with fail
  rw [← hW1]
  clear hW1
  go_loopw [14, 3] (fun i n X => ∃ (k : Nat) (z : Int), k ≤ m ∧ i = .int .i64 k ∧ n = .int .i64 z ∧ Below W1.heap.size W1 X ∧ ∀ q ∈ p.qs.take k, q.ans.length ≤ 20) (fun i _ _ => m - (intOf i).toNat)
  case atStart => exact ⟨0, _, by omega, rfl, rfl, Below.refl _ _, by simp⟩
  case round =>
    obtain ⟨k, z, hk, rfl, rfl, hb1, hok⟩ := hrel
    obtain ⟨wo, rfl⟩ : ∃ wo : World, wo = wr := ⟨_, rfl⟩
    have HOK := Lib.hid hok
    have hb := HB.out.trans (hb1.mono HB.out.size)
    by_cases hlt : k < m
    · have hlt' : (k : Int) < (m : Int) := by omega
      obtain ⟨t, ht⟩ : ∃ t, p.qs[k]? = some t := ⟨p.qs[k]'(by have := HM.out; omega), by simp⟩
      have hat := ProtAt.below HA.out hb
      obtain ⟨b, o, hA, hbb, q0, q1, hrec⟩ := ques_at hat ht
      rw [hA]
      obtain ⟨g0, g1⟩ := fresh2 wo (.string t.text) (.slice t.aA t.ans.length t.ac) 36
      have HB1 := Lib.hid (hb1.alloc hb1.size (.cells #[.string t.text, .slice t.aA t.ans.length t.ac] 36))
      have hbn : Below wo.heap.size wo (wo.alloc (.cells #[.string t.text, .slice t.aA t.ans.length t.ac] 36)) := below_new _ _
      have HR := Lib.hid (RecsAt.more (RecsAt.below hrec (hbn.mono hb.size)) (Nat.le_trans hb.size hbn.size))
      obtain ⟨W2, hW2⟩ : ∃ W2, W2 = wo.alloc (.cells #[.string t.text, .slice t.aA t.ans.length t.ac] 36) := ⟨_, rfl⟩
      rw [← hW2] at g0 g1 HB1 HR
      have HT := Lib.hid ht
      obtain ⟨l, hl2⟩ : ∃ l, l = t.ans.length := ⟨_, rfl⟩
      have HL := Lib.hid hl2
      have hll : l ≤ 9223372036854775807 := by have := (HWF.out.qs t (List.mem_of_getElem? ht)).len; omega
      rw [← hl2] at g1 q1 hW2
      clear ht hok hA hb hb1 hrec hat hbn hl2
      by_cases h20 : l ≤ 20
      · have d20 : decide ((20 : Int) < (l : Int)) = false := decide_eq_false (by omega)
        go_wp2_with fail
        rw [← hW2]
        clear hW2
        go_loopw [30, 3] (fun i n X => ∃ (j : Nat) (z : Int), j ≤ l ∧ i = .int .i64 j ∧ n = .int .i64 z ∧ Below W2.heap.size W2 X) (fun i _ _ => l - (intOf i).toNat)
        case atStart => exact ⟨0, _, by omega, rfl, rfl, Below.refl _ _⟩
        case round =>
          obtain ⟨j, y, hj, rfl, rfl, hbj⟩ := hrel
          have HBJ := Lib.hid hbj
          by_cases hjl : j < l
          · have hjl' : (j : Int) < (l : Int) := by omega
            obtain ⟨a, ha⟩ : ∃ a, t.ans[j]? = some a := ⟨t.ans[j]'(by have := HL.out; omega), by simp⟩
            obtain ⟨ab, ao, hA2, hbb2, p0, p1, p2, p3⟩ := ans_at (RecsAt.below HR.out hbj) ha
            rw [hA2]
            obtain ⟨e0, e1, e2, e3⟩ := fresh4 wr (.string a.text) (.int .i64 a.next) (.int .i64 a.urg) (.string a.code) 40
            have HB3 := Lib.hid (hbj.alloc hbj.size (.cells #[.string a.text, .int .i64 a.next, .int .i64 a.urg, .string a.code] 40))
            obtain ⟨W3, hW3⟩ : ∃ W3, W3 = wr.alloc (.cells #[.string a.text, .int .i64 a.next, .int .i64 a.urg, .string a.code] 40) := ⟨_, rfl⟩
            rw [← hW3] at e0 e1 e2 e3 HB3
            clear ha hA2 hbj
            go_wp2_with fail
            rw [← hW3]
            clear hW3
            go_roundw
            case rel => exact ⟨j + 1, _, by omega, by go_num, rfl, HB3.out⟩
            case measure => simp [intOf]; omega
          · have hjj : j = l := by omega
            subst hjj
            clear hbj
            go_wp2_with fail
            go_roundw
            case rel => exact ⟨k + 1, _, by omega, by go_num, rfl, HB1.out.trans (HBJ.out.mono HB1.out.size), (all_take_iff HT.out).2 ⟨HOK.out, by have := HL.out; omega⟩⟩
            case measure => simp [intOf]; omega
      · have d20 : decide ((20 : Int) < (l : Int)) = true := decide_eq_true (by omega)
        go_wp2_with fail
        rw [← hW2]
        clear hW2
        go_ret
        exact ⟨⟨false, (fun h => by cases h), rfl⟩, HB.out.trans (HB1.out.mono HB.out.size)⟩
    · have hkk : k = m := by omega
      subst hkk
      have r2 := (hb1.cell (p := ⟨w.heap.size, 2, none⟩) HF.out.2.2.2).trans HF.out.2.2.1
      have HBB := Lib.hid hb
      clear hok hb hb1
      by_cases h7 : k ≤ 70
      · have d7 : decide ((k : Int) ≤ 70) = true := decide_eq_true (by omega)
        have HY := Lib.hid (show SmallN p from ⟨by have := HM.out; omega, by have := HOK.out; rwa [HM.out, List.take_length] at this⟩)
        obtain ⟨bz, hbz⟩ : ∃ bz, bz = decide (z ≤ 8000) := ⟨_, rfl⟩
        have hbz' := hbz.symm
        clear hbz
        go_wp2_with fail
        go_ret
        exact ⟨⟨bz, fun _ => HY.out, rfl⟩, HBB.out⟩
      · have d7 : decide ((k : Int) ≤ 70) = false := decide_eq_false (by omega)
        go_wp2_with fail
        go_ret
        exact ⟨⟨false, (fun h => by cases h), rfl⟩, HBB.out⟩
end Go.Proofs.YtbbklideciappaaDoor
