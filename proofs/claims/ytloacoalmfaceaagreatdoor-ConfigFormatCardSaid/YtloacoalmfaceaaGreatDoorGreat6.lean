/-
  samaritanref06.Great: where it returns false, the four lists are short.
-/
import Derived.Test.YtloacoalmfaceaaGreatDoorRight6
namespace Go.Proofs.YtloacoalmfaceaaGreatDoor
open Go.RowKit

def Short (c : Cfg) : Prop := c.ds.length ≤ 60 ∧ c.es.length ≤ 60 ∧ c.us.length ≤ 60 ∧ c.pl.length ≤ 70
def RetGreat (w : World) (c : Cfg) (e : Ending) (w' : World) : Prop := ∃ b, e = .returned (.bool b) ∧ (b = false → Short c) ∧ Below w.heap.size w w'
theorem great_yes {w w' : World} {c : Cfg} {e : Ending} (he : e = .returned (.bool true)) (hb : Below w.heap.size w w') : RetGreat w c e w' := ⟨true, he, fun h => (by cases h), hb⟩
set_option maxRecDepth 100000 in
set_option maxHeartbeats 4000000 in
theorem great_any (w : World) (c : Cfg) (hc : CfgAt w w.heap.size c) (hlp : c.pl.length ≤ 9223372036854775807) : Calls Tryz.prog 8 #[.agg c.cells.toArray] w (RetGreat w c) := by
  obtain ⟨W0, hW0⟩ : ∃ W0, W0 = w.alloc (.cells c.cells.toArray 27) := ⟨_, rfl⟩
  have hb0 : Below w.heap.size w W0 := by rw [hW0]; exact (Below.refl _ _).alloc (Nat.le_refl _) _
  have hi : CfgIn W0 w.heap.size c := by rw [hW0]; exact cfgIn_new w c _
  have hz0 : w.heap.size < W0.heap.size := by rw [hW0]; simp
  have H0 := Lib.hid (And.intro hb0 (And.intro hi (And.intro ((hc.below hb0).more hb0.size) hz0)))
  obtain ⟨X, hX⟩ : ∃ X, X = c.cells.toArray := ⟨_, rfl⟩
  have x4 : X[4]? = some (.slice c.pA c.pl.length c.pc) := by rw [hX]; rfl
  rw [← hX] at hW0 ⊢
  obtain ⟨m, hm⟩ : ∃ m, m = c.pl.length := ⟨_, rfl⟩
  have HM := Lib.hid hm
  rw [← hm] at x4 hlp
  clear hc hb0 hi hz0 hX hm
  go_enter Tryz.func8, Tryz.ntmps8
  go_wp2_with fail
  rw [← hW0]
  clear hW0 x4
  go_loopw [3, 9] (fun sv iv Y => ∃ (k : Nat) (s : Int), k ≤ m ∧ iv = .int .i64 k ∧ sv = .int .i64 s ∧ Below W0.heap.size W0 Y) (fun _ i _ => m - (intOf i).toNat)
  case atStart => exact ⟨0, 0, Nat.zero_le _, rfl, rfl, Below.refl _ _⟩
  case round =>
    obtain ⟨k, s, hk, rfl, rfl, hb⟩ := hrel
    have HB := Lib.hid hb
    by_cases hlt : k < m
    · have hlt' : (k : Int) < (m : Int) := by omega
      obtain ⟨p, hp⟩ : ∃ p, c.pl[k]? = some p := ⟨c.pl[k]'(by have := HM.out; omega), by simp⟩
      obtain ⟨⟨b, o, hA, hbb, y0, y1, y2, qk⟩, hwf⟩ := (H0.out.2.2.1.pl.below hb) k p hp
      rw [hA]
      obtain ⟨f0, f1, f2⟩ := freshP_at wr p 43
      have hbA := freshP_below wr p 43
      have HB1 := Lib.hid (hb.trans (hbA.mono hb.size))
      obtain ⟨W1, hW1⟩ : ∃ W1, W1 = freshP wr p 43 := ⟨_, rfl⟩
      rw [← hW1] at f0 f1 f2 HB1
      unfold freshP at hW1
      obtain ⟨code, urg, kA, kinds, kc⟩ := p
      dsimp only at y0 y1 y2 f0 f1 f2 hW1
      clear hb hp hA hbA qk hwf
      by_cases hbig : 4000 < wrap64 (wrap64 (s + (code.size : Int)) + (kinds.length : Int))
      · have d1 : decide ((4000 : Int) < wrap64 (wrap64 (s + (code.size : Int)) + (kinds.length : Int))) = true := decide_eq_true hbig
        clear hbig
        go_wp2_with fail
        rw [← hW1]
        clear hW1
        go_ret
        exact great_yes rfl (H0.out.1.trans (HB1.out.mono H0.out.1.size))
      · have d1 : decide ((4000 : Int) < wrap64 (wrap64 (s + (code.size : Int)) + (kinds.length : Int))) = false := decide_eq_false hbig
        clear hbig
        go_wp2_with fail
        rw [← hW1]
        clear hW1
        go_roundw
        case rel => exact ⟨k + 1, _, by omega, by go_num, rfl, HB1.out⟩
        case measure => simp [intOf]; omega
    · have hkk : m = k := by omega
      subst hkk
      obtain ⟨q0, q1, q2, q3, q4⟩ := (H0.out.2.1.below hb H0.out.2.2.2).five
      rw [← HM.out] at q4
      have HBB := Lib.hid (H0.out.1.trans (hb.mono H0.out.1.size))
      clear hb
      by_cases h1 : c.ds.length ≤ 60
      · have d_h1 : decide ((60 : Int) < (c.ds.length : Int)) = false := decide_eq_false (by omega)
        by_cases h2 : c.es.length ≤ 60
        · have d_h2 : decide ((60 : Int) < (c.es.length : Int)) = false := decide_eq_false (by omega)
          by_cases h3 : c.us.length ≤ 60
          · have d_h3 : decide ((60 : Int) < (c.us.length : Int)) = false := decide_eq_false (by omega)
            by_cases h4 : m ≤ 70
            · have d_h4 : decide ((70 : Int) < (m : Int)) = false := decide_eq_false (by omega)
              have HS := Lib.hid (show Short c from ⟨h1, h2, h3, by rw [← HM.out]; exact h4⟩)
              clear h1 h2 h3 h4
              go_wp2_with fail
              go_ret
              exact ⟨false, rfl, fun _ => HS.out, HBB.out⟩
            · have d_h4 : decide ((70 : Int) < (m : Int)) = true := decide_eq_true (by omega)
              clear h1 h2 h3 h4
              go_wp2_with fail
              go_ret
              exact great_yes rfl HBB.out
          · have d_h3 : decide ((60 : Int) < (c.us.length : Int)) = true := decide_eq_true (by omega)
            clear h1 h2 h3
            go_wp2_with fail
            go_ret
            exact great_yes rfl HBB.out
        · have d_h2 : decide ((60 : Int) < (c.es.length : Int)) = true := decide_eq_true (by omega)
          clear h1 h2
          go_wp2_with fail
          go_ret
          exact great_yes rfl HBB.out
      · have d_h1 : decide ((60 : Int) < (c.ds.length : Int)) = true := decide_eq_true (by omega)
        clear h1
        go_wp2_with fail
        go_ret
        exact great_yes rfl HBB.out
end Go.Proofs.YtloacoalmfaceaaGreatDoor
