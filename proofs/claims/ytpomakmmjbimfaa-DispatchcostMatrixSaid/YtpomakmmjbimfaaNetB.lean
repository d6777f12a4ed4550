/-
  samaritanlaw35.net and wakes.
-/
import Derived.Test.YtpomakmmjbimfaaNet
import Derived.Test.YtpomakmmjbimfaaSpare
namespace Go.Proofs.Ytpomakmmjbimfaa
open Go.RowKit Go.Shelf Go.Maps

def RetNet (w : World) (z : Int) (E : List EdgeT) (e : Ending) (w' : World) : Prop :=
  (∃ (n p : Nat), z = n ∧ RightP z E ∧ e = .returned (.tuple #[.pointer (some ⟨p, 0, none⟩), .bool true]) ∧ GraphAt w' w'.heap.size p n E ∧ w.heap.size ≤ p ∧ Below w.heap.size w w') ∨
  (e = .returned (.tuple #[.pointer none, .bool false]) ∧ Below w.heap.size w w')

set_option maxRecDepth 100000 in
set_option maxHeartbeats 1000000 in
theorem net_any (z : Int) (A : Option Addr) (c : Nat) (E : List EdgeT) (w : World) (he : EdgesAt w w.heap.size A E) (hl : E.length ≤ 9223372036854775807) (hnil : A = none → c = 0) :
    Calls Try.prog 11 #[.agg #[.int .i64 z, .slice A E.length c]] w (RetNet w z E) := by
  have HB1 := Lib.hid ((Below.refl w.heap.size w).alloc (Nat.le_refl _) (netCell z A E.length c))
  have HR := Lib.hid (right_any z A c E (w.alloc (netCell z A E.length c)) ((he.below HB1.out).more HB1.out.size) hl)
  have HE := Lib.hid he
  have HNIL := Lib.hid hnil
  clear he hnil
  go_enter Try.func11, Try.ntmps11
  go_wp2_with fail
  refine HR.out.mono ?_
  rintro e w1 ⟨b, rfl, hb, hbb⟩
  have HBW := Lib.hid (HB1.out.trans (hbb.mono HB1.out.size))
  obtain ⟨n0, n1⟩ := net_cells (hbb.mono (by simp))
  have HRP := Lib.hid hb
  clear hb hbb
  cases b
  · go_wp2_with fail
    go_ret2
    exact .inr ⟨rfl, HBW.out⟩
  · have hrp := HRP.out.1 rfl
    obtain ⟨n, rfl⟩ : ∃ n : Nat, z = n := ⟨z.toNat, by have := hrp.1; omega⟩
    have hn1 := hrp.1
    have hn2 := hrp.2.1
    have hnw := new_any n A c E w1 (by omega) (by omega) (by have := hrp.2.2.1; omega) ((HE.out.below HBW.out).more HBW.out.size) HNIL.out (fun e he => by
      obtain ⟨a1, a2, a3, a4, a5, a6⟩ := hrp.2.2.2 e he
      exact ⟨a1, a2, a3, a4, by rcases a6 with a6 | a6 <;> omega⟩)
    have HNW := Lib.hid hnw
    have HRR := Lib.hid hrp
    clear hnw hrp HRP
    go_wp2_with fail
    refine HNW.out.mono ?_
    rintro e w2 ⟨p, rfl, hg, hp, hb2⟩
    have HG := Lib.hid hg
    have HB2 := Lib.hid (HBW.out.trans (hb2.mono HBW.out.size))
    have hp2 : w.heap.size ≤ p := Nat.le_trans HBW.out.size hp
    clear hg hb2
    go_wp2_with fail
    go_ret2
    exact .inl ⟨n, p, rfl, HRR.out, rfl, HG.out, hp2, HB2.out⟩

def exE : List EdgeT := [⟨0, 1, 5⟩, ⟨1, 2, 5⟩]
theorem ex_times : timesL [5, 5] 2 = [5, 5] := by decide
theorem ex_usable {i u v : Nat} {x : Int} (h : usable exE [5, 5] i u v x) : (u = 0 ∧ v = 1 ∧ x = 5) ∨ (u = 1 ∧ v = 2 ∧ x = 5) := by
  obtain ⟨e, h1, h2, h3, h4, _⟩ := h
  match i, h1, h4 with
  | 0, h1, h4 => cases h1; cases h4; left; simp only at h2 h3; omega
  | 1, h1, h4 => cases h1; cases h4; right; simp only at h2 h3; omega
  | i + 2, h1, _ => simp [exE] at h1
theorem ex_fin : Fin35 3 (fun s => (s : Int) ∈ [(0 : Int)] ∧ s < 3) exE (timesL [5, 5] exE.length) [0, 5, 10] := by
  have e2 : exE.length = 2 := rfl
  rw [e2, ex_times]
  have w0 : Way (fun s : Nat => (s : Int) ∈ [(0 : Int)] ∧ s < 3) exE [5, 5] 0 0 := Way.src ⟨by simp, by omega⟩
  have w1 : Way (fun s : Nat => (s : Int) ∈ [(0 : Int)] ∧ s < 3) exE [5, 5] 1 5 := Way.step (i := 0) (x := 5) w0 ⟨_, rfl, rfl, rfl, rfl, by decide⟩
  have w2 : Way (fun s : Nat => (s : Int) ∈ [(0 : Int)] ∧ s < 3) exE [5, 5] 2 10 := Way.step (i := 1) (x := 5) w1 ⟨_, rfl, rfl, rfl, rfl, by decide⟩
  refine ⟨rfl, fun v d hd _ => ?_, fun s hs => ?_, fun i u v x d hu hd _ => ?_, fun v d hd _ => ?_⟩
  · match v, hd with
    | 0, hd => cases hd; exact w0
    | 1, hd => cases hd; exact w1
    | 2, hd => cases hd; exact w2
    | v + 3, hd => simp at hd
  · have : s = 0 := by have := hs.1; simp at this; omega
    subst this
    rfl
  · rcases ex_usable hu with ⟨rfl, rfl, rfl⟩ | ⟨rfl, rfl, rfl⟩
    · cases hd
      exact ⟨5, rfl, by omega⟩
    · cases hd
      exact ⟨10, rfl, by omega⟩
  · match v, hd with
    | 0, hd => cases hd; omega
    | 1, hd => cases hd; omega
    | 2, hd => cases hd; omega
    | v + 3, hd => simp at hd

def exU : List UnitT := [⟨0, 1, 0, 1, 0, 0, 0, 0, 0, 0⟩, ⟨1, 1, 0, 1, 0, 0, 0, 0, 0, 0⟩]
theorem exU_three : spareR (effR 3 1) exU 2 = [⟨1, 1, 0, 1, 0, 0, 0, 0, 0, 0⟩] := by rfl
theorem exU_one : (spareR (effR 1 1) exU 2).length = 2 := by rfl
theorem exU_wf : ∀ u ∈ exU, UnitWf u := by
  intro u hu
  simp only [exU, List.mem_cons, List.not_mem_nil, or_false] at hu
  rcases hu with rfl | rfl <;> exact ⟨rfl, rfl, rfl, rfl⟩

set_option maxRecDepth 100000 in
set_option maxHeartbeats 2000000 in
theorem wakes35_any (w : World) : Calls Try.prog 10 #[] w fun e w' => e = .returned (.bool true) ∧ Below w.heap.size w w' := by
  have HB1 := Lib.hid ((Below.refl w.heap.size w).alloc (Nat.le_refl _) (.cells #[.int .i64 0, .int .i64 1, .int .i64 5, .int .i64 1, .int .i64 2, .int .i64 5] 72))
  have hnew : Calls Try.prog 24 #[.int .i64 3, .slice (some ⟨w.heap.size, 0, none⟩) 2 2] (w.alloc (.cells #[.int .i64 0, .int .i64 1, .int .i64 5, .int .i64 1, .int .i64 2, .int .i64 5] 72)) _ := new_any 3 (some ⟨w.heap.size, 0, none⟩) 2 exE (w.alloc (.cells #[.int .i64 0, .int .i64 1, .int .i64 5, .int .i64 1, .int .i64 2, .int .i64 5] 72)) (by omega) (by omega) (by decide) (Sl.lit w (cellsE exE) 72 rfl) (fun h => by cases h) (fun e he => by
    simp only [exE, List.mem_cons, List.not_mem_nil, or_false] at he
    rcases he with rfl | rfl <;> exact ⟨by simp, by simp, by simp, by simp, by simp⟩)
  have HN := Lib.hid hnew
  clear hnew
  go_enter Try.func10, Try.ntmps10
  go_wp2_with fail
  ((with_reducible refine HN.out.mono ?_))
  rintro e w1 ⟨p, rfl, hg, _, hb1⟩
  have HW1 := Lib.hid (HB1.out.trans (hb1.mono HB1.out.size))
  have HG := Lib.hid hg
  have HB2 := Lib.hid ((Below.refl w1.heap.size w1).alloc (Nat.le_refl _) (.cells #[.int .i64 0, .int .i64 1, .int .i64 0, .int .i64 1, .int .i64 0, .int .i64 0, .int .i64 0, .int .i64 0, .int .i64 0, .int .i64 0, .int .i64 1, .int .i64 1, .int .i64 0, .int .i64 1, .int .i64 0, .int .i64 0, .int .i64 0, .int .i64 0, .int .i64 0, .int .i64 0] 39))
  have hdi : Calls Try.prog 14 #[.slice (some ⟨w1.heap.size, 0, none⟩) 2 2, .int .i64 3, .int .i64 1] (w1.alloc (.cells #[.int .i64 0, .int .i64 1, .int .i64 0, .int .i64 1, .int .i64 0, .int .i64 0, .int .i64 0, .int .i64 0, .int .i64 0, .int .i64 0, .int .i64 1, .int .i64 1, .int .i64 0, .int .i64 1, .int .i64 0, .int .i64 0, .int .i64 0, .int .i64 0, .int .i64 0, .int .i64 0] 39)) _ := dispatchable_any (some ⟨w1.heap.size, 0, none⟩) 2 exU 3 1 _ (RecsAt.lit w1 exU 39 rfl _ rfl) exU_wf (by decide)
  have HDI := Lib.hid hdi
  clear hg hb1 hdi HN
  go_wp2_with fail
  ((with_reducible refine HDI.out.mono ?_))
  rintro e w3 ⟨v, rfl, hown, hb3⟩
  have hown' : OwnU w3 (w1.alloc (.cells #[.int .i64 0, .int .i64 1, .int .i64 0, .int .i64 1, .int .i64 0, .int .i64 0, .int .i64 0, .int .i64 0, .int .i64 0, .int .i64 0, .int .i64 1, .int .i64 1, .int .i64 0, .int .i64 1, .int .i64 0, .int .i64 0, .int .i64 0, .int .i64 0, .int .i64 0, .int .i64 0] 39)).heap.size 39 v [⟨1, 1, 0, 1, 0, 0, 0, 0, 0, 0⟩] := hown
  obtain ⟨A2, c2, rfl, hs2⟩ := hown'.sl
  obtain ⟨b2, o2, rfl, hb2, k0, _⟩ := unit_at (i := 0) hs2 rfl
  simp only [Nat.zero_mul, Nat.add_zero] at k0
  have HW3 := Lib.hid (HB2.out.trans (hb3.mono HB2.out.size))
  have HEX : Hid (UnitsAt w3 w3.heap.size (some ⟨w1.heap.size, 0, none⟩) exU) := Lib.hid (((RecsAt.lit (cs := cellsU) w1 exU 39 rfl #[.int .i64 0, .int .i64 1, .int .i64 0, .int .i64 1, .int .i64 0, .int .i64 0, .int .i64 0, .int .i64 0, .int .i64 0, .int .i64 0, .int .i64 1, .int .i64 1, .int .i64 0, .int .i64 1, .int .i64 0, .int .i64 0, .int .i64 0, .int .i64 0, .int .i64 0, .int .i64 0] rfl).below hb3).more hb3.size)
  have HG3 := Lib.hid ((HG.out.below HW3.out).more HW3.out.size)
  have HB4 := Lib.hid ((Below.refl w3.heap.size w3).alloc (Nat.le_refl _) (.cells #[.int .i64 5, .int .i64 5] 2))
  have HB5 := Lib.hid (HB4.out.alloc HB4.out.size (.cells #[.int .i64 1, .int .i64 2] 3))
  obtain ⟨W4, hW4⟩ : ∃ W4, W4 = w3.alloc (.cells #[.int .i64 5, .int .i64 5] 2) := ⟨_, rfl⟩
  have hW4z : W4.heap.size = w3.heap.size + 1 := by rw [hW4]; simp
  have htr : Calls Try.prog 12 #[.pointer (some ⟨p, 0, none⟩), .slice (some ⟨w3.heap.size, 0, none⟩) 2 2, .int .i64 0, .slice (some ⟨w3.heap.size + 1, 0, none⟩) 2 2] (W4.alloc (.cells #[.int .i64 1, .int .i64 2] 3)) _ :=
    travel_any p 3 exE (some ⟨w3.heap.size, 0, none⟩) (some ⟨w3.heap.size + 1, 0, none⟩) 2 2 [5, 5] [1, 2] 0 (W4.alloc (.cells #[.int .i64 1, .int .i64 2] 3)) (by rw [hW4]; exact (HG3.out.below HB5.out).more HB5.out.size) (by omega) (by decide) (fun e he => by
        simp only [exE, List.mem_cons, List.not_mem_nil, or_false] at he
        rcases he with rfl | rfl <;> exact ⟨by simp, by simp⟩)
      (by
        have h1 := Sl.lit w3 [.int .i64 5, .int .i64 5] 2 rfl
        rw [hW4]
        exact (h1.alloc (Nat.le_refl _) _).more (by simp)) (Sl.lit W4 [.int .i64 1, .int .i64 2] 3 hW4z.symm) (by decide)
  rw [hW4] at htr
  have HTR := Lib.hid htr
  clear hown hown' hb3 hs2 hW4 hW4z htr
  go_wp2_with fail
  ((with_reducible refine HTR.out.mono ?_))
  rintro e w5 ⟨D, hfin, rfl, hb5⟩
  obtain rfl : D = [0, 5, 10] := hfin.unique (okW_times _ _) ex_fin
  have hfv : farL [0, 5, 10] [1, 2] = 10 := by decide
  rw [hfv]
  have HW5 := Lib.hid (HB5.out.trans (hb5.mono HB5.out.size))
  have k0' := (HW5.out.cell (p := ⟨b2, o2, none⟩) hb2).trans k0
  have hd2 : Calls Try.prog 14 #[.slice (some ⟨w1.heap.size, 0, none⟩) 2 2, .int .i64 1, .int .i64 1] w5 _ := dispatchable_any (some ⟨w1.heap.size, 0, none⟩) 2 exU 1 1 w5 ((HEX.out.below HW5.out).more HW5.out.size) exU_wf (by decide)
  have HD2 := Lib.hid hd2
  clear hfin hfv hb5 hd2 k0 HTR
  go_wp2_with fail
  ((with_reducible refine HD2.out.mono ?_))
  rintro e w6 ⟨v6, rfl, hown6, hb6⟩
  obtain ⟨A6, c6, rfl, _⟩ := hown6.sl
  have HL6 : Hid ((spareR (effR 1 1) exU exU.length).length = 2) := Lib.hid exU_one
  rw [HL6.out]
  have HW6 := Lib.hid (HW5.out.trans (hb6.mono HW5.out.size))
  clear hown6 hb6 HD2
  go_wp2_with fail
  go_ret
  exact ⟨rfl, HW1.out.trans ((HW3.out.trans (HW6.out.mono HW3.out.size)).mono HW1.out.size)⟩
end Go.Proofs.Ytpomakmmjbimfaa
