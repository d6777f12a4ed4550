/-
  config.parseValue: its lines (centres, node, a parameter), and a line that is none.
-/
import Derived.Test.YtloacoalmfaceaaGreatDoorPst6
namespace Go.Proofs.YtloacoalmfaceaaGreatDoor
open Go.RowKit Go.Maps Go.Shelf

set_option maxRecDepth 100000 in
theorem set_any (cb bx : Nat) (w : World) (k : Nat) (hk : k < 10) (z y : Int) (hb : w.cell? ⟨bx, 0, none⟩ = some (.func (.func (parFld k)) #[] #[])) (hc : w.cell? ⟨cb, 5 + k, none⟩ = some (.int .i64 y)) (hf : w.frozen? ⟨cb, 5 + k, none⟩ = false) :
    Calls Tryz.prog (parSet k) #[.pointer (some ⟨cb, 0, none⟩), .int .i64 z, .pointer (some ⟨bx, 0, none⟩)] w fun e w' => e = .returned (.tuple #[]) ∧ w' = w.setCell ⟨cb, 5 + k, none⟩ (.int .i64 z) := by
  have HF := Lib.hid (fld_any cb w k hk)
  have hE := fld_enters k hk
  unfold parSet
  obtain ⟨f, hf'⟩ : ∃ f, f = parFld k := ⟨_, rfl⟩
  rw [← hf'] at hb HF hE
  obtain ⟨j, hj⟩ : ∃ j, j = 5 + k := ⟨_, rfl⟩
  rw [← hj] at hc hf HF ⊢
  clear hf' hj
  by_cases h8 : k < 8
  · rw [if_pos h8]
    clear h8 hk
    go_enter Tryz.func82, Tryz.ntmps82
    go_wp2_with fail
    refine HF.out.mono ?_
    rintro e w' ⟨rfl, hw⟩
    rw [hw]
    clear hw w'
    go_wp2_with fail
    go_end0
    exact ⟨rfl, rfl⟩
  · rw [if_neg h8]
    clear h8 hk
    go_enter Tryz.func84, Tryz.ntmps84
    go_wp2_with fail
    refine HF.out.mono ?_
    rintro e w' ⟨rfl, hw⟩
    rw [hw]
    clear hw w'
    go_wp2_with fail
    go_end0
    exact ⟨rfl, rfl⟩
theorem set_enters (k : Nat) (args : Array Value) (w : World) : (callFunc (parSet k) args).run Tryz.prog w = .ok (.enter (parSet k) args) w := by
  unfold parSet
  split
  · exact enters_of Tryz.func82 (by kernel_rfl) rfl args w
  · exact enters_of Tryz.func84 (by kernel_rfl) rfl args w
set_option maxRecDepth 100000 in
theorem sameName_any (w : World) (nm name : ByteArray) (lo hi : Int) (f1 f2 : Value) (nb : Nat) (hn : w.cell? ⟨nb, 0, none⟩ = some (.string name)) :
    Calls Tryz.prog 91 #[.agg #[.string nm, .int .i64 lo, .int .i64 hi, f1, f2], .pointer (some ⟨nb, 0, none⟩)] w fun e w' => e = .returned (.bool (nm.toList == name.toList)) ∧ Below w.heap.size w w' := by
  have hbl : Below w.heap.size w (w.alloc (.cells #[.string nm, .int .i64 lo, .int .i64 hi, f1, f2] 70)) := (Below.refl _ _).alloc (Nat.le_refl _) _
  have hn2 := (World.cell?_alloc_some w ⟨nb, 0, none⟩ (.cells #[.string nm, .int .i64 lo, .int .i64 hi, f1, f2] 70) (by rw [hn]; rfl)).trans hn
  have HB := Lib.hid hbl
  clear hbl hn
  go_enter Tryz.func91, Tryz.ntmps91
  go_wp2_with fail
  go_ret
  exact ⟨rfl, HB.out⟩
theorem parNm_ne : ∀ k, k < 10 → ∀ j, j < k → parNm j ≠ parNm k := by
  have h : ∀ k j : Fin 10, j.val < k.val → (parNm j.val).data.toList ≠ (parNm k.val).data.toList := by decide
  intro k hk j hj e
  exact h ⟨k, hk⟩ ⟨j, by omega⟩ hj (by show (parNm j).data.toList = (parNm k).data.toList; rw [e])
set_option maxRecDepth 100000 in
set_option maxHeartbeats 4000000 in
theorem indexPar_any (g : Nat) (bx : Nat → Nat) (nb k : Nat) (hk : k < 10) (W : World) (hp : ParsAt W g bx) (hn : W.cell? ⟨nb, 0, none⟩ = some (.string (parNm k))) (hnb : nb < W.heap.size) :
    Calls Tryz.prog 90 #[.slice (some ⟨g, 0, none⟩) 10 10, .func (.func 91) #[] #[.pointer (some ⟨nb, 0, none⟩)]] W fun e w' => e = .returned (.int .i64 (k : Int)) ∧ Below W.heap.size W w' := by
  have HP := Lib.hid (And.intro hp hn)
  clear hp hn
  go_enter Tryz.func90, Tryz.ntmps90
  go_wp2_with fail
  go_loopw [8] (fun i Y => ∃ j : Nat, j ≤ k ∧ i = .int .i64 j ∧ Below W.heap.size W Y) (fun i _ => 10 - (intOf i).toNat)
  case atStart => exact ⟨0, Nat.zero_le _, rfl, Below.refl _ _⟩
  case round =>
    obtain ⟨j, hj, rfl, hb⟩ := hrel
    have hlt : (j : Int) < 10 := by omega
    have hj10 : j < 10 := by omega
    have hpa := HP.out.1.below hb
    have q0 := hpa.nm j hj10
    have q1 := hpa.lo j hj10
    have q2 := hpa.hi j hj10
    have q3 := hpa.get j hj10
    have q4 := hpa.set j hj10
    have hnm := (hb.cell (p := ⟨nb, 0, none⟩) hnb).trans HP.out.2
    have HC := Lib.hid (sameName_any wr (parNm j) (parNm k) (parLow j) (parHigh j) (.func (.func (parGet j)) #[] #[.pointer (some ⟨bx j, 0, none⟩)]) (.func (.func (parSet j)) #[] #[.pointer (some ⟨bx j, 0, none⟩)]) nb hnm)
    have HB := Lib.hid hb
    obtain ⟨nm, hnm'⟩ : ∃ f, f = parNm j := ⟨_, rfl⟩
    obtain ⟨lo, hlo⟩ : ∃ f, f = parLow j := ⟨_, rfl⟩
    obtain ⟨hi, hhi⟩ : ∃ f, f = parHigh j := ⟨_, rfl⟩
    obtain ⟨gf, hgf⟩ : ∃ f, f = parGet j := ⟨_, rfl⟩
    obtain ⟨sf, hsf⟩ : ∃ f, f = parSet j := ⟨_, rfl⟩
    obtain ⟨bxj, hbx⟩ : ∃ f, f = bx j := ⟨_, rfl⟩
    have HNM := Lib.hid hnm'
    rw [← hnm'] at q0 HC
    rw [← hlo] at q1 HC
    rw [← hhi] at q2 HC
    rw [← hgf, ← hbx] at q3
    rw [← hsf, ← hbx] at q4
    rw [← hgf, ← hsf, ← hbx] at HC
    clear hnm hnm' hlo hhi hgf hsf hbx hpa hb
    by_cases hjk : j = k
    · subst hjk
      rw [HNM.out, str_eq rfl] at HC
      go_wp2_with fail
      rw [HNM.out]
      refine HC.out.mono ?_
      rintro e w2 ⟨rfl, hb2⟩
      have HB2 := Lib.hid (HB.out.trans (hb2.mono HB.out.size))
      clear hb2 HC q0 q1 q2 q3 q4
      go_wp2_with fail
      go_ret
      exact ⟨rfl, HB2.out⟩
    · rw [str_ne (show nm ≠ parNm k from by rw [HNM.out]; exact parNm_ne k hk j (by omega))] at HC
      go_wp2_with fail
      refine HC.out.mono ?_
      rintro e w2 ⟨rfl, hb2⟩
      have HB2 := Lib.hid (HB.out.trans (hb2.mono HB.out.size))
      clear hb2 HC q0 q1 q2 q3 q4
      go_wp2_with fail
      go_roundw
      case rel => exact ⟨j + 1, by omega, by go_num, HB2.out⟩
      case measure => simp [intOf]; omega
end Go.Proofs.YtloacoalmfaceaaGreatDoor
