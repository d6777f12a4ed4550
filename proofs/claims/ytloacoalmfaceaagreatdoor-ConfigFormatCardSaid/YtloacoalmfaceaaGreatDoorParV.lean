/-
  config.validParameters.
-/
import Derived.Test.YtloacoalmfaceaaGreatDoorParF
namespace Go.Proofs.YtloacoalmfaceaaGreatDoor
open Go.RowKit Go.Shelf

theorem get_enters (k : Nat) (args : Array Value) (w : World) : (callFunc (parGet k) args).run Tryz.prog w = .ok (.enter (parGet k) args) w := by
  unfold parGet
  by_cases h : k < 8
  · rw [if_pos h]; exact enters_of Tryz.func81 (by kernel_rfl) rfl args w
  · rw [if_neg h]; exact enters_of Tryz.func83 (by kernel_rfl) rfl args w
/-- a variable that holds a parameter. -/
def freshPar (w : World) (nm : ByteArray) (lo hi : Int) (gf sf bx : Nat) : World := w.alloc (.cells #[.string nm, .int .i64 lo, .int .i64 hi, .func (.func gf) #[] #[.pointer (some ⟨bx, 0, none⟩)], .func (.func sf) #[] #[.pointer (some ⟨bx, 0, none⟩)]] 70)
theorem pars_step {ps : List Int} {k : Nat} {z : Int} (hz : ps[k]? = some z) (h : ParsTo ps k) (h1 : parLow k ≤ z) (h2 : z ≤ parHigh k) : ParsTo ps (k + 1) := by
  intro i y hi hy
  by_cases e : i = k
  · subst e
    rw [hz] at hy
    injection hy with hy
    rw [← hy]
    exact ⟨h1, h2⟩
  · exact h i y (by omega) hy
set_option maxRecDepth 100000 in
set_option maxHeartbeats 4000000 in
theorem validParameters_any (w : World) (cb : Nat) (c : Cfg) (hi : CfgIn w cb c) (hten : c.ps.length = 10) (hcb : cb < w.heap.size) :
    Calls Tryz.prog 26 #[.pointer (some ⟨cb, 0, none⟩)] w fun e w' => e = .returned (.bool (tb (ParsTo c.ps 10))) ∧ Below w.heap.size w w' := by
  have HI := Lib.hid (And.intro hi hten)
  clear hi hten
  go_enter Tryz.func26, Tryz.ntmps26
  go_wp2_with fail
  refine (parameters_any w).mono ?_
  rintro e w1 ⟨g, bx, rfl, hpa, hb1⟩
  have HP := Lib.hid (And.intro hpa hb1)
  clear hpa hb1
  go_wp2_with fail
  go_loopw [8] (fun i X => ∃ k : Nat, k ≤ 10 ∧ i = .int .i64 k ∧ Below w1.heap.size w1 X ∧ ParsTo c.ps k) (fun i _ => 10 - (intOf i).toNat)
  case atStart => exact ⟨0, by omega, rfl, Below.refl _ _, fun i z h => absurd h (by omega)⟩
  case round =>
    obtain ⟨k, hk, rfl, hb, hok⟩ := hrel
    have hp := HP.out.1.below hb
    have HB := Lib.hid (And.intro (HP.out.2.trans (hb.mono HP.out.2.size)) (And.intro hok hb))
    by_cases hlt : k < 10
    · have hlt' : (k : Int) < 10 := by omega
      obtain ⟨z, hz⟩ : ∃ z, c.ps[k]? = some z := ⟨c.ps[k]'(by rw [HI.out.2]; exact hlt), by simp⟩
      have hcz := (HI.out.1.below HB.out.1 hcb).par hz
      have q0 := hp.nm k hlt
      have q1 := hp.lo k hlt
      have q2 := hp.hi k hlt
      have q3 := hp.get k hlt
      have q4 := hp.set k hlt
      have q5 := hp.fld k hlt
      have hE := get_enters k
      obtain ⟨bxk, hbx⟩ : ∃ b, b = bx k := ⟨_, rfl⟩
      have hbl := hp.lt.2 k hlt
      have HG := Lib.hid (fun (X : World) (h1 : X.cell? ⟨bxk, 0, none⟩ = some (.func (.func (parFld k)) #[] #[])) (h2 : X.cell? ⟨cb, 5 + k, none⟩ = some (.int .i64 z)) => get_any cb bxk X k hlt z h1 h2)
      have HZ := Lib.hid hz
      have hll : Hid (parLow k ≤ z ∧ z ≤ parHigh k → ParsTo c.ps (k + 1)) := Lib.hid (fun h => pars_step HZ.out hok h.1 h.2)
      rw [← hbx] at q3 q4 q5 hbl
      obtain ⟨gf, hgf⟩ : ∃ f, f = parGet k := ⟨_, rfl⟩
      obtain ⟨sf, hsf⟩ : ∃ f, f = parSet k := ⟨_, rfl⟩
      obtain ⟨ff, hff⟩ : ∃ f, f = parFld k := ⟨_, rfl⟩
      obtain ⟨lo, hlo⟩ : ∃ f, f = parLow k := ⟨_, rfl⟩
      obtain ⟨hi, hhi⟩ : ∃ f, f = parHigh k := ⟨_, rfl⟩
      obtain ⟨nm, hnm⟩ : ∃ f, f = parNm k := ⟨_, rfl⟩
      have HLH := Lib.hid (And.intro hlo hhi)
      rw [← hgf] at q3 hE HG
      rw [← hsf] at q4
      rw [← hff] at q5 HG
      rw [← hlo] at q1 hll
      rw [← hhi] at q2 hll
      rw [← hnm] at q0
      clear hgf hsf hff hlo hhi hnm hbx hz hok hp
      have hbA : Below wr.heap.size wr (freshPar wr nm lo hi gf sf bxk) := (Below.refl _ _).alloc (Nat.le_refl _) _
      have HB2 := Lib.hid (And.intro (HB.out.1.trans (hbA.mono HB.out.1.size)) (hb.trans (hbA.mono hb.size)))
      have HX := Lib.hid (HG.out (freshPar wr nm lo hi gf sf bxk) ((hbA.cell (p := ⟨bxk, 0, none⟩) hbl).trans q5) ((hbA.cell (p := ⟨cb, 5 + k, none⟩) (Nat.lt_of_lt_of_le hcb HB.out.1.size)).trans hcz))
      have hg1 : (freshPar wr nm lo hi gf sf bxk).cell? ⟨wr.heap.size, 1, none⟩ = some (.int .i64 lo) := by simp [freshPar, go_sem]
      have hg2 : (freshPar wr nm lo hi gf sf bxk).cell? ⟨wr.heap.size, 2, none⟩ = some (.int .i64 hi) := by simp [freshPar, go_sem]
      obtain ⟨W2, hW2⟩ : ∃ W2, W2 = freshPar wr nm lo hi gf sf bxk := ⟨_, rfl⟩
      rw [← hW2] at HB2 HX hg1 hg2
      unfold freshPar at hW2
      clear hb hbA hcz q5 HG
      go_wp2_with fail
      rw [← hW2]
      clear hW2
      refine HX.out.mono ?_
      rintro e w' ⟨rfl, hw⟩
      rw [hw]
      clear hw w' HX
      by_cases h1 : lo ≤ z
      · have d1 : decide (z < lo) = false := decide_eq_false (by omega)
        by_cases h2 : z ≤ hi
        · have d2 : decide (hi < z) = false := decide_eq_false (by omega)
          go_wp2_with fail
          go_roundw
          case rel => exact ⟨k + 1, by omega, by go_num, HB2.out.2, hll.out ⟨h1, h2⟩⟩
          case measure => simp [intOf]; omega
        · have d2 : decide (hi < z) = true := decide_eq_true (by omega)
          have HN := Lib.hid h2
          clear h2
          go_wp2_with fail
          go_ret
          exact ⟨ret_no (fun h => by have h3 := (h k z hlt HZ.out).2; have h4 := HLH.out.2; have h5 := HN.out; omega), HB2.out.1⟩
      · have d1 : decide (z < lo) = true := decide_eq_true (by omega)
        have HN := Lib.hid h1
        clear h1
        go_wp2_with fail
        go_ret
        exact ⟨ret_no (fun h => by have h3 := (h k z hlt HZ.out).1; have h4 := HLH.out.1; have h5 := HN.out; omega), HB2.out.1⟩
    · have hkk : k = 10 := by omega
      subst hkk
      clear hb hp hok
      go_wp2_with fail
      go_ret
      exact ⟨ret_yes HB.out.2.1, HB.out.1⟩
end Go.Proofs.YtloacoalmfaceaaGreatDoor
